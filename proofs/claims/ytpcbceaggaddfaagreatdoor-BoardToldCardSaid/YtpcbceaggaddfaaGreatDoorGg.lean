/- board: what members told is searched, and one more put between. -/
import Derived.Test.YtpcbceaggaddfaaGreatDoorGf
import Derived.Test.YtpcbceaggaddfaaGreatDoorGe
import Derived.Test.YtpcbceaggaddfaaGreatDoorGd

noncomputable section
set_option maxRecDepth 100000
set_option linter.unusedVariables false
namespace Go.Am
theorem Pp (p:Int×List UInt8):(toC p).length=2:=rfl
theorem Cb (l:List (Int×List UInt8)):(Gr l).length=l.length*2:=by
 induction l with
 | nil=>rfl
 | cons a l ih=>show(toC a++Gr l).length=_;rw [bW,ih,Pp,rZ];omega
theorem Cc (l m:List (Int×List UInt8)):Gr (l++m)=Gr l++Gr m:=by unfold Gr;rw [Xf]
theorem Vz (l:List (Int×List UInt8)):∀(j:Nat),Gr (l.drop j)=(Gr l).drop (j*2):=by
 induction l with
 | nil=>intro j;cases j<;>rfl
 | cons a l ih=>
  intro j;cases j with
  | zero=>rw [GG];rfl
  | succ j=>
   rw [List.drop_succ_cons,ih];show _=(toC a++Gr l).drop _;rw [show(j+1)*2=2+j*2 by omega,<-IH,List.drop_left' (Pp a)]
theorem aGp{l:List (Int×List UInt8)}{i:Nat}{p:Int×List UInt8} (h:l[i]? =some p):((Gr l).drop (i*2)).take 2=toC p:=by
 rw [<-Vz];have hi:=(cZ.1 h).1;rw [BB hi];have:l[i]=p:=(cZ.1 h).2;rw [this];exact List.take_left' (Pp p)
def Gt (p:Int×List UInt8):List V:=[nz p.1,.str p.2]
theorem aGq{us:List V}{p:Int×List UInt8} (h:uO us (toC p)):us=Gt p:=by
 obtain⟨hl,h⟩:=h;have hl:us.length=2:=hl
 match us,hl with
 | [a0,a1],_=>
  obtain⟨t0,e0⟩:=h 0 _ rfl;obtain⟨t1,e1⟩:=h 1 _ rfl;injection e0 with e0;injection e1 with e1;subst e0 e1;rfl
theorem aGr (p:Int×List UInt8):uO (Gt p) (toC p):= .cons (.root 0) _ (.cons (.root 0) _ .nil)
def Pq (l:List (Int×List UInt8)) (z:Int):Nat:=(l.takeWhile fun p=>decide (p.1<z)).length
def OY (l:List (Int×List UInt8)):Prop:=l.Pairwise (fun p q=>p.1<q.1)/\∀p∈l,0<=p.1/\p.1<=1000
theorem aBV (l:List (Int×List UInt8)) (z:Int):Pq l z<=l.length:=(List.takeWhile_prefix _).length_le
theorem aLM{a b:Nat} (h:a<b):Nat.blt a b=true:=iW h
theorem aJv{n:Nat} (h:n<4611686018427387904):dW .u64 (.ofNat n)= .ofNat n:=by
 show(match Nat.blt n 18446744073709551616 with | true=>_ | false=>_)=_;rw [aLM (by omega)]
theorem aIH{l:List (Int×List UInt8)}{z:Int}{i:Nat} (hi:i<=l.length) (h1:∀j (hj:j<l.length),j<i->l[j].1<z) (h2:∀(hj:i<l.length),¬l[i].1<z):Pq l z=i:=by
 induction l generalizing i with
 | nil=>simp at hi;subst hi;rfl
 | cons a l ih=>
  cases i with
  | zero=>
   have:=h2 (by simp);unfold Pq;rw [Ks,if_neg (by simpa using this)];rfl
  | succ i=>
   have h0:=h1 0 (by simp) (by omega);have:=ih (i:=i) (by simpa using hi) (fun j hj Ln=>by have:=h1 (j+1) (by simpa using hj) (by omega);simpa using this) (fun hj=>by have:=h2 (by simpa using hj);simpa using this);unfold Pq at this ⊢;rw [Ks,if_pos (by simpa using h0),rZ,this]
def Gu (l:List (Int×List UInt8)) (z:Int):Bool:=l.any fun p=>decide (p.1=z)
section
variable{M d:Nat}{x:VE}{S:Hp}{K:KV}{S0:Hp}{v:V}{l:List (Int×List UInt8)}
theorem aII:gT iB=none:=rfl
theorem aNw:gT bC=none:=rfl
theorem aIJ (hx:Deep PP cM gT M (d+1) x){p:Int×List UInt8}{z:Int} (hp:0<=p.1/\p.1<=1000) (hz:0<=z/\z<=1000) (hK:K (nz (p.1-z)) S):x.call iB [.agg (Gt p),nz z] S K:=by
 refine hx.call aII fun y hy=>?_;rw [NF];unfold AS;refine mB rfl fun a ha=>?_;have iM:gA S (aR S a (.row (Gt p) 75)):= .aT ha;have ra:aR S a (.row (Gt p) 75) a=some (.row (Gt p) 75):=aD;generalize aR S a (.row (Gt p) 75)=S1 at iM ra;have l0:∀{K:KV},aH (.ptr a 0) S1 K=K (nz p.1) S1:=cD ra rfl;rw [aX,l0,gQ,wrap_small (by omega) (by omega)];exact dZ iM hK
theorem aNx (hM:100000<M) (hx:Deep PP cM gT M (d+2) x) (h:SL 75 2 S0 S v (Gr l) l.length) (hl:l.length<10000) (hs:OY l){z:Int} (hz:0<=z/\z<=1000) (hK:K (.tuple [ni (Pq l z),.bool (Gu l z)]) S):x.call bC [v,nz z,.func iB [] []] S K:=by
 refine hx.call aNw fun y hy=>?_;rw [mG];unfold fP;rw [h.len,hy.most]
 have cmp:∀{i:Nat} (hi:i<l.length) {K:KV},K (nz (l[i].1-z)) S->(kX 2 v (ni i) fun p=>iP 2 p S fun v6 S=>fF y (.func iB [] []) [v6,nz z] S K):=fun {i} hi {K} hK=>by
  obtain⟨us,Br,Aw⟩:=h.ldn hi;rw [aGp (aS hi)]at Br;rw [aGq Br]at Aw;rw [Aw];exact aIJ (d:=d) hy (hs.2 _ (sW hi)) hz hK
 have go:∀(q i j k:Nat),j-i<=q->q<k->i<=j->j<=l.length->(∀p (hp:p<l.length),p<i->l[p].1<z)->(∀p (hp:p<l.length),j<=p->¬l[p].1<z)->
  aW y k v (nz z) (.func iB [] []) (ni l.length) (ni i) (ni j) S K:=by
  intro q;induction q with
  | zero=>
   intro i j k hq hk KE hj h1 h2;obtain⟨k,rfl⟩:=eY (show k≠0 by omega);rw [eS];unfold cH;refine aQ ?_;obtain rfl:i=j:=by omega
   have QN:Pq l z=i:=aIH hj h1 (fun hi=>h2 i hi (bN _));rw [mV,VB (by omega),iF,mV];by_cases hi:i<l.length
   ·rw [dlt hi]
    simp only [aP,aN];refine cmp hi ?_
    have e0:decide ((l[i].1-z:Int)=Int.ofNat 0)=Gu l z:=by
     rw [pL];unfold Gu;simp only [decide_eq_true_eq,KY];constructor
     ·intro e
      exact⟨_,sW hi,by simp only [jZ]at e;omega⟩
     ·rintro⟨p,hp,e⟩
      obtain⟨q,hq,rfl⟩:=KU hp;have hn:=h2 i hi (bN _);rcases Nat.lt_trichotomy q i with hqi | hqi | hqi
      ·have:=h1 q hq hqi;omega
      ·subst hqi;simp only [jZ];omega
      ·have:=Km.1 hs.1 i q hi hq hqi;omega
    repeat (first | rw [fB] | rw [e0] | rw [aP] | rw [aN] | rw [gC] | dsimp only)
    rw [<-QN];exact aJ hK
   ·rw [VB hi]
    have:Gu l z=false:=by
     unfold Gu;rw [Kw];intro p hp;obtain⟨q,hq,rfl⟩:=KU hp;have:=h1 q hq (by omega);simp only [decide_eq_true_eq];omega
    rw [this]at hK
    repeat (first | rw [aP] | rw [mW] | rw [dO] | dsimp only)
    rw [<-QN];exact aJ hK
  | succ q ih=>
   intro i j k hq hk KE hj h1 h2;by_cases hlt:i<j
   ·obtain⟨k,rfl⟩:=eY (show k≠0 by omega)
    rw [eS];unfold cH;refine aQ ?_;rw [mV,dlt hlt,jS,qO (by omega)]
    have mid:∀{k:V->Prop},(GK .u64 (ni (i+j)) fun v2=>aE PP .shr 40 v2 (.int .u64 (.ofNat 1)) fun v3=>GK .i64 v3 k)=k (ni ((i+j) / 2)):=fun {k}=>by
     show((0:Int)<=Int.ofNat 1/\k (.int .i64 (dW .i64 (Int.fdiv (dW .u64 (Int.ofNat (i+j))) (2 ^ (min (Int.ofNat 1).toNat IntKind.u64.bits))))))=_;rw [aJv (by omega)];have e1:min (Int.ofNat 1).toNat IntKind.u64.bits=1:=rfl;rw [e1];have e2:Int.fdiv (Int.ofNat (i+j)) (2 ^ 1)= .ofNat ((i+j) / 2):=(Int.ofNat_fdiv (i+j) 2).symm;rw [e2,wrap_small (by simp only [jZ];omega) (by simp only [jZ];omega)];exact propext ⟨fun h=>h.2,fun h=>⟨by decide,h⟩⟩
    rw [mid];have hm:(i+j) / 2<l.length:=by omega
    refine cmp hm ?_;rw [cI];by_cases e:l[(i+j) / 2].1<z
    ·rw [show decide ((l[(i+j) / 2].1-z:Int)<Int.ofNat 0)=true from bK (by simp only [jZ];omega),jS,qO (by omega)]
     refine ih ((i+j) / 2+1) j k (by omega) (by omega) (by omega) hj (fun p hp hpi=>?_) h2;rcases yL p ((i+j) / 2)with hq | hq
     ·have:=Km.1 hs.1 p _ hp hm hq;omega
     ·obtain rfl:p=(i+j) / 2:=by omega
      exact e
    ·rw [show decide ((l[(i+j) / 2].1-z:Int)<Int.ofNat 0)=false from bM (by simp only [jZ];omega),iF]
     refine ih i ((i+j) / 2) k (by omega) (by omega) (by omega) (by omega) h1 (fun p hp hpi=>?_);rcases yL ((i+j) / 2) p with hq | hq
     ·have:=Km.1 hs.1 _ p hm hp hq;omega
     ·obtain rfl:p=(i+j) / 2:=by omega
      exact e
   ·exact ih i j k (by omega) (by omega) KE hj h1 h2
 exact go l.length 0 l.length M (by omega) (by omega) (by omega) (bN _) (fun p _ h=>by omega) (fun p hp h=>by omega)
end
def pZ (l:List (Int×List UInt8)) (p:Int×List UInt8):List (Int×List UInt8):=l.take (Pq l p.1)++([p]++l.drop (Pq l p.1))
def NN (l:List (Int×List UInt8)) (tx:List UInt8):Nat:=(l.filter fun p=>decide (p.2=tx)).length
def Bd.RV (B:Bd) (z:Int) (tx:List UInt8):Bd:=if Gu B.told z then B else {B with told:=pZ B.told (z,tx),dec:=if 1<NN (pZ B.told (z,tx)) tx then tx else B.dec}
theorem Wa (l:List (Int×List UInt8)) (p:Int×List UInt8):(pZ l p).length=l.length+1:=by
 have:=aBV l p.1;unfold pZ;simp only [bW,iX,mO,rZ,PZ];omega
section
variable{M d:Nat}{x:VE}{S:Hp}{K:KV}{v:V}{l:List (Int×List UInt8)}
theorem SL.ins (h:SL 75 2 PK S v (Gr l) l.length) (na:∀i q o n c,v≠ .pO i q o n c){i:Nat} (hi:i<=l.length) (hl:l.length<10000){p:Int×List UInt8}{q:Nat} (rq:S q=some (.row (Gt p) 75))
 (hk:∀u S',(∀j o,S j=some o->¬qQ v j->S' j=some o)->(∀j,qQ u j->qQ v j\/S j=none)->SL 75 2 PK S' u (Gr (l.take i++([p]++l.drop i))) (l.length+1)->(∀i q o n c,u≠ .pO i q o n c)->K u S'):aIy [v,ni i,.own q 0 1 1] S K:=by
 have Pw:gA PK S:=fun j o e=>by cases e
 refine⟨v,l.length,i,q,0,1,rfl,⟨by omega,by omega⟩,?_⟩;by_cases e:i=l.length
 ·left
  refine⟨e,?_,?_⟩
  ·generalize hn:l.length=n at h na
   generalize Gr l=ds at h;cases h with
   | nil=>exact .inl ⟨rfl,rfl⟩
   | acc=>exact .inr (.inl ⟨_,rfl⟩)
   | pO=>exact absurd rfl (na _ _ _ _ _)
   | own=>exact .inr (.inr ⟨_,rfl,rfl⟩)
  ·refine h.apps (m:=0) (new:=toC p) Pw (by omega) (by omega) (aGr p) rfl (.inl rfl) (by decide) (fun {K} hK=>HM (m:=1) rq rfl hK) fun u S' _ e2 e3 e4 e5=>?_
   refine hk u S' e2 e3 ?_ (e5 na);subst e;rw [VQ,List.drop_length,Cc];have:Gr ([p]++[])=toC p:=by show toC p++[]=_;rw [vJ]
   rw [this];exact e4
 ·right
  have JT:i<l.length:=by omega
  generalize hn:l.length=n at h na JT hk;generalize hd:Gr l=ds at h;cases h with
  | nil=>omega
  | own=>omega
  | pO=>exact absurd rfl (na _ _ _ _ _)
  | @acc b _ vs _ h0 h Ac Ae hv=>
   have DI:vs.all tO=true:=uO.one ⟨Ac.trans Ae.symm,hv⟩;refine⟨JT,b,vs,Gt p,75,rfl,h,rq,bN _,DI,rfl,?_⟩;have e0:((Gt p).drop 0).take 2=Gt p:=rfl;rw [e0];unfold sE;refine HM (m:=1) rq rfl ?_;refine⟨rfl,?_⟩;simp only [h];refine⟨trivial,trivial,Ac,by omega,?_⟩;have hi2:=oQ 2 JT;have rP:(Gt p).length=2:=rfl;unfold aGg;simp only [aD];refine⟨trivial,?_,?_⟩
   ·simp only [bW,mO,Ac,rP];omega
   ·rw [fG]
    refine hk _ _ (fun j o e hj=>by rw [aF (fun c=>hj (show b=j from c.symm))];exact e) (fun j e=> .inl (by cases e;exact rfl)) ?_ (fun _ _ _ _ _ e=>by cases e);have ht:(Gr (l.take i)).length=i*2:=by rw [Cb,iX];omega
    refine .acc h0 aD ?_ ?_ ?_
    ·rw [JP (by simp only [bW,mO,Ac,rP];omega)]
     simp only [bW,Ac,rP];omega
    ·rw [Cb];simp only [bW,iX,mO,rZ,PZ];omega
    ·rw [Cc,Cc,show Gr [p]=toC p by show toC p++[]=_;rw [vJ],<-ht]
     have Lu:BQ (vs++Gt p) (Gr (l.take i)):=fun j d e=>by
      have hj:=(cZ.1 e).1
      have:ds[j]? =some d:=by
       have e3:ds=Gr (l.take i)++Gr (l.drop i):=by rw [<-hd,<-Cc,IE]
       rw [e3,fQ hj];exact e
      obtain⟨t,q⟩:=hv j d this;exact⟨t,by rw [fQ (cZ.1 q).1];exact q⟩
     refine Lu.aG (by rw [ht];simp only [bW,mO,Ac,rP];omega) ?_;have ht2:i*2=(Gr (l.take i)).length:=ht.symm;refine(aGr p).app ⟨by rw [mO,Ac,Cb,Cb,mO,iX];omega,?_⟩;rw [ht,Vz,hd];exact hv.drop _
end
section
variable{M d:Nat}{x:VE}{S:Hp}{K:KV}{b:Nat}{B:Bd}{sd:Nat->Prop}
theorem aLN:gT oB=none:=rfl
theorem aDx{l:List (Int×List UInt8)}{tx:List UInt8}{j:Nat} (h:j<l.length):NN (l.take (j+1)) tx=NN (l.take j) tx+(if l[j].2=tx then 1 else 0):=by
 unfold NN;rw [GE,aS h,Cj,bW]
 congr 1
 simp only [Option.toList,VT,La];by_cases e:l[j].2=tx<;>simp [e]
theorem aLO (hM:100000<M) (hx:Deep PP cM gT M (d+3) x) (h:vA S b B sd) (hl:B.told.length<9999) (hs:OY B.told){z:Int} (hz:0<=z/\z<=1000){tx:List UInt8}
 (hK:∀S' KN,vA S' b (B.RV z tx) KN->Ca sd S S' KN->K (.tuple []) S'):x.call oB [.ptr b 0,nz z,.str tx] S K:=by
 obtain⟨bv,tv,kv,SB,h,rfl⟩:=h;refine hx.call aLN fun y hy=>?_;rw [RN];unfold EM;have l16:∀{K:KV},aH (.ptr b 16) S K=K tv S:=cD h.row rfl;rw [bG,aX,l16];refine aNx (d:=d) hM hy h.told (by omega) hs hz ?_;show pA (.bool (Gu B.told z)) _ _;cases e:Gu B.told z with
 | true=>
  rw [jS];have:B.RV z tx=B:=by unfold Bd.RV;rw [e];rfl
  rw [this]at hK;exact aJ (hK S _ ⟨bv,tv,kv,SB,h,rfl⟩ (.refl _ _))
 | false=>
  have eh:B.RV z tx={B with told:=pZ B.told (z,tx),dec:=if 1<NN (pZ B.told (z,tx)) tx then tx else B.dec}:=by unfold Bd.RV;rw [e];rfl
  rw [eh]at hK;rw [iF,bG,aX,l16];have bld:∀{k:V->Prop},k (.agg (Gt (z,tx)))->iQ [(.int .i64 (.ofNat 0)),(.string ⟨⟨[]⟩⟩)] [(0,1,nz z),(1,1,.str tx)] k:=fun {k} hk=>⟨rfl,bE rfl,rfl,bE rfl,hk⟩;refine bld ?_;refine FR rfl rfl rfl rfl fun q hq=>?_;have iM:gA S (aR S q (.row (Gt (z,tx)) 75)):= .aT hq;have rq:aR S q (.row (Gt (z,tx)) 75) q=some (.row (Gt (z,tx)) 75):=aD;have g:=h.up iM;generalize aR S q (.row (Gt (z,tx)) 75)=S1 at iM rq g;refine hy.GL (g:=aIy) rfl ?_;refine g.told.ins g.tna (aBV _ _) (by omega) rq fun u S2 kp DV sl na=>?_;have nb2:¬qQ tv b:=g.told.nat g.row;have rb2:=kp _ _ g.row nb2;rw [bG,aX,Ig rb2 (bE rfl) sl.one];have nu_:¬qQ u b:=fun c=>(DV b c).elim nb2 fun c=>by rw [g.row]at c;cases c
  have QQ:(pJ B bv tv kv).set 16 u=pJ {B with told:=pZ B.told (z,tx)} bv u kv:=rfl;rw [QQ];have kp3:∀j o,j≠b->S1 j=some o->¬qQ tv j->aR S2 b (.row (pJ {B with told:=pZ B.told (z,tx)} bv u kv) 82) j=some o:=fun j o h1 h2 h3=>by rw [aF h1];exact kp _ _ h2 h3
  have gg:Brd (aR S2 b (.row (pJ {B with told:=pZ B.told (z,tx)} bv u kv) 82)) b {B with told:=pZ B.told (z,tx)} bv u kv SB:=by
   refine⟨aD,?_,?_,?_,g.nb,na⟩
   ·have:=sl.set (o:= .row (pJ {B with told:=pZ B.told (z,tx)} bv u kv) 82) nu_
    rw [Wa];exact this
   ·exact g.kept.but fun j o h1 h2=>kp3 j o (fun c=>by rw [c]at h1;exact g.kept.nat g.row h1) h2 (g.kept.ne2 g.told (by decide) h1)
   ·exact g.qP.but fun j o h1 h2=>kp3 j o (fun c=>g.nb (by rw [<-c];exact h1)) h2 (fun c=>g.told.aDw g.qP c h1)
  have F:Ca (Own b tv kv SB) S (aR S2 b (.row (pJ {B with told:=pZ B.told (z,tx)} bv u kv) 82)) (Own b u kv SB):=by
   refine⟨fun j o hn e=>kp3 j o (fun c=>hn (.inl c)) (iM _ _ e) fun c=>hn (.inr (.inl c)),fun j hj=>?_⟩;rcases hj with hj | hj | hj | hj
   ·exact .inl (.inl hj)
   ·rcases DV j hj with c | c
    ·exact .inl (.inr (.inl c))
    ·exact .inr (iM.none c)
   ·exact .inl (.inr (.inr (.inl hj)))
   ·exact .inl (.inr (.inr (.inr hj)))
  generalize aR S2 b (.row (pJ {B with told:=pZ B.told (z,tx)} bv u kv) 82)=S3 at gg F;have m16:∀{K:KV},aH (.ptr b 16) S3 K=K u S3:=cD gg.row rfl;rw [bG,aX,m16,gg.told.len,hy.most];have hlen:(pZ B.told (z,tx)).length<10000:=by rw [Wa];omega
  have go:∀(q j k:Nat) (Skz:Hp),j+q=(pZ B.told (z,tx)).length->q<k->gA S3 Skz->iC y k (.ptr b 0) (.str tx) (ni (NN ((pZ B.told (z,tx)).take j) tx)) u (ni (pZ B.told (z,tx)).length) (ni j) Skz K:=by
   intro q;induction q with
   | zero=>
    intro j k Skz hj hk le;obtain⟨k,rfl⟩:=eY (show k≠0 by omega);rw [sO];unfold nK;refine MT S3 le ?_;have l6:∀{K:KV},aH (.ptr b 6) S3 K=K (ni 1) S3:=cD gg.row rfl;rw [mV,VB (by omega),iF,bG,aX,aX,l6,XT,uG (by omega)];cases e2:decide (1<NN (pZ B.told (z,tx)) tx)with
    | true=>
     rw [jS,bG,aX,Ig gg.row (bE rfl) rfl];rw [if_pos (BD e2)]at hK;refine aJ (hK _ _ ⟨bv,u,kv,SB,gg.setRow (B':={B with told:=pZ B.told (z,tx),dec:=tx}) rfl rfl rfl,rfl⟩ (F.trans ⟨fun j o hn e=>by rw [aF (fun c=>hn (.inl c))];exact e,fun j hj=> .inl hj⟩))
    | false=>
     rw [iF];rw [if_neg (KW e2)]at hK;exact aJ (hK _ _ ⟨bv,u,kv,SB,gg,rfl⟩ F)
   | succ q ih=>
    intro j k Skz hj hk le;obtain⟨k,rfl⟩:=eY (show k≠0 by omega);rw [sO];unfold nK;refine aQ ?_;have PF:j<(pZ B.told (z,tx)).length:=by omega
    obtain⟨us,Br,Aw⟩:=(gg.told.up le).ldn PF;rw [aGp (aS PF)]at Br;rw [aGq Br]at Aw;rw [mV,dlt PF,jS,Aw];intro r hr;refine nG (cs:=Gt (pZ B.told (z,tx))[j]) aD rfl rfl (by rfl) ?_;rw [fG];have pT:gA Skz (aR Skz r (.row (Gt (pZ B.told (z,tx))[j]) 75)):= .aT hr;have rr:aR Skz r (.row (Gt (pZ B.told (z,tx))[j]) 75) r=some (.row (Gt (pZ B.told (z,tx))[j]) 75):=aD;generalize aR Skz r (.row (Gt (pZ B.told (z,tx))[j]) 75)=Sr at pT rr;have l1:∀{K:KV},aH (.ptr r 1) Sr K=K (.str (pZ B.told (z,tx))[j].2) Sr:=cD rr rfl;have q9:∀{k:V->Prop},aE PP .eql 9 (.str (pZ B.told (z,tx))[j].2) (.str tx) k=k (.bool (decide ((pZ B.told (z,tx))[j].2=tx))):=fun {k}=>rfl;rw [aX,l1,q9];have ct:=aDx (tx:=tx) PF
    have cl:NN ((pZ B.told (z,tx)).take j) tx<=10000:=by
     unfold NN;refine rD (VJ _ _) ?_;rw [iX];omega
    have:=ih (j+1) k Sr (by omega) (by omega) (le.trans pT);rw [ct]at this;by_cases e2:(pZ B.told (z,tx))[j].2=tx
    ·rw [if_pos e2]at this
     rw [bK e2,jS,qO (by omega),qO (by omega)];exact this
    ·rw [if_neg e2,II]at this
     rw [bM e2,iF,qO (by omega)];exact this
  exact go (pZ B.told (z,tx)).length 0 M S3 (by omega) (by omega) (.refl _)
end
section
variable{M d:Nat}{x:VE}{S:Hp}{K:KV}{b:Nat}{B:Bd}{sd:Nat->Prop}
theorem aIK:gT iA=none:=rfl
theorem aLP:gT lL=none:=rfl
theorem aO9:IZ [(.int .u8 (.ofNat 0)),(.int .i64 (.ofNat 0)),(.int .i64 (.ofNat 0)),(.int .i64 (.ofNat 0)),(.int .i64 (.ofNat 0)),(.int .i64 (.ofNat 0)),(.int .i64 (.ofNat 0)),(.int .i64 (.ofNat 0)),(.int .i64 (.ofNat 0)),(.string ⟨⟨[]⟩⟩),(.slice none 0 0)]=some [n8 0,ni 0,ni 0,ni 0,ni 0,ni 0,ni 0,ni 0,ni 0,.str [],.nil]:=rfl
theorem aAK (O:Tag) (m:Ms):uO (pC O m) (ZV m):= .cons O _ (.cons O _ (.cons O _ (.cons O _ (.cons O _ (.cons O _ (.cons O _ (.cons O _ (.cons O _ (.cons O _ (.cons O _ .nil))))))))))
theorem aIL (hx:Deep PP cM gT M (d+1) x) (hM:M≠0){S0:Hp}{bv tv kv nv:V}{i a:Nat}{t:Tag}{g:Ms}{l:List Ms} (rb:S b=some (.row (pJ B bv tv kv) 82)) (ri:S i=some (.row [.ptr b 0] 25)) (ra:S a=some (.row [nv] 23)) (hs:gA S0 S) (sl:SL 37 11 S0 S nv (pI l) l.length) (hl:l.length<100000)
 (hF:decide (g.ht=B.ht)=false->K (.bool false) S)
 (hT:decide (g.ht=B.ht)=true->∀w S',(∀j o,j≠a->¬qQ nv j->S j=some o->S' j=some o)->S' a=some (.row [w] 23)->(∀j,qQ w j->qQ nv j\/S j=none)->SL 37 11 S0 S' w (pI (l++[g])) (l++[g]).length->K (.bool true) S'):x.call iA [.agg (pC t g),.ptr i 0,.ptr a 0] S K:=by
 refine hx.call aIK fun y hy=>?_;rw [NE];unfold AQ;refine mB rfl fun r hr=>?_;have iM:gA S (aR S r (.row (pC t g) 37)):= .aT hr;have rr:aR S r (.row (pC t g) 37) r=some (.row (pC t g) 37):=aD;have rb1:=iM _ _ rb;have ri1:=iM _ _ ri;have ra1:=iM _ _ ra;have sl1:=sl.up iM;generalize aR S r (.row (pC t g) 37)=S1 at iM rr rb1 ri1 ra1 sl1;have l3:∀{K:KV},aH (.ptr r 3) S1 K=K (nz g.ht) S1:=cD rr rfl;have li:∀{K:KV},aH (.ptr i 0) S1 K=K (.ptr b 0) S1:=cD ri1 rfl;have la:∀{K:KV},aH (.ptr a 0) S1 K=K nv S1:=cD ra1 rfl;have lb:∀{K:KV},aH (.ptr b 13) S1 K=K (nz B.ht) S1:=cD rb1 rfl;have hm:y.most≠0:=by rw [hy.most];exact hM
 rw [aX,l3,li,bG,aX,lb,fB];cases e:decide (g.ht=B.ht)with
 | false=>
  rw [iF,uW _ hm];unfold lX;refine aQ ?_;rw [aX,l3,li,bG,aX,lb,fB,e];exact dZ iM (hF e)
 | true=>
  rw [jS,la];refine jD (n:=11) (i:=r) rr rfl ?_;refine sl1.app (hs.trans iM) (by omega) aO9 rfl (aAK t g) rfl (by decide) fun w S2 e1 kp DV sw=>?_;have nva:¬qQ nv a:=sl1.nat ra1;have ra2:=kp _ _ ra1 nva;rw [Ig ra2 (bE rfl) sw.one,uW _ hm];unfold lX;refine aQ ?_;have kp2:∀j o,j≠a->¬qQ nv j->S1 j=some o->aR S2 a (.row ([nv].set 0 w) 23) j=some o:=fun j o h1 h2 h3=>by rw [aF h1];exact kp _ _ h3 h2
  have nra:r≠a:=fun c=>by rw [c,ra1]at rr;cases rr
  have nia:i≠a:=fun c=>by rw [c,ra1]at ri1;cases ri1
  have nba:b≠a:=fun c=>by rw [c,ra1]at rb1;cases rb1
  have rr3:=kp2 _ _ nra (sl1.nat rr) rr;have ri3:=kp2 _ _ nia (sl1.nat ri1) ri1;have rb3:=kp2 _ _ nba (sl1.nat rb1) rb1;have l3':∀{K:KV},aH (.ptr r 3) (aR S2 a (.row ([nv].set 0 w) 23)) K=K (nz g.ht) (aR S2 a (.row ([nv].set 0 w) 23)):=cD rr3 rfl;have li':∀{K:KV},aH (.ptr i 0) (aR S2 a (.row ([nv].set 0 w) 23)) K=K (.ptr b 0) (aR S2 a (.row ([nv].set 0 w) 23)):=cD ri3 rfl;have lb':∀{K:KV},aH (.ptr b 13) (aR S2 a (.row ([nv].set 0 w) 23)) K=K (nz B.ht) (aR S2 a (.row ([nv].set 0 w) 23)):=cD rb3 rfl;rw [aX,l3',li',bG,aX,lb',fB,e];refine aJ (hT e w _ (fun j o h1 h2 h3=>kp2 j o h1 h2 (iM _ _ h3)) aD (fun j hj=>(DV j hj).imp id iM.none) ?_);have e3:pI (l++[g])=pI l++ZV g:=by rw [JQ];show pI l++(ZV g++[])=_;rw [vJ]
  rw [e3,bW];exact sw.set (fun c=>(DV a c).elim nva fun c=>by rw [ra1]at c;cases c)
end
def aAL (p:Int×List UInt8):List (Int×List UInt8)->List (Int×List UInt8)
 | []=>[p]
 | q::l=>if q.1<p.1 then q::aAL p l else p::q::l
theorem aGs (p:Int×List UInt8):∀l,pZ l p=aAL p l:=by
 intro l;induction l with
 | nil=>rfl
 | cons q l ih=>
  unfold pZ Pq at ih ⊢;unfold aAL;by_cases h:q.1<p.1
  ·rw [if_pos h,Ks,if_pos (by simpa using h),<-ih];rfl
  ·rw [if_neg h,Ks,if_neg (by simpa using h)];rfl
theorem Gv{p q:Int×List UInt8}{l:List (Int×List UInt8)} (h:q∈aAL p l):q=p\/q∈l:=by
 induction l with
 | nil=>exact .inl (wN.1 h)
 | cons a l ih=>
  unfold aAL at h;split at h
  ·rcases cO.1 h with rfl | h
   ·exact .inr (.head _)
   ·exact(ih h).imp id (.tail _)
  ·rcases cO.1 h with rfl | h
   ·exact .inl rfl
   ·exact .inr h
theorem OY.ins{l:List (Int×List UInt8)}{z:Int}{tx:List UInt8} (h:OY l) (hn:Gu l z=false) (hz:0<=z/\z<=1000):OY (pZ l (z,tx)):=by
 rw [aGs];refine⟨?_,fun p hp=>(Gv hp).elim (fun e=>by rw [e];exact hz) (h.2 p)⟩
 have hn':∀p∈l,p.1≠z:=fun p hp e=>by
  have:=Kw.1 hn p hp;simp [e]at this
 have h':=h.1;clear h hn;revert h' hn';induction l with
 | nil=>intro _ _;exact List.pairwise_singleton _ _
 | cons a l ih=>
  intro hn h;rw [rC]at h;unfold aAL;by_cases e:a.1<z
  ·rw [if_pos e,rC]
   refine⟨fun q hq=>?_,ih (fun p hp=>hn p (.tail _ hp)) h.2⟩;rcases Gv hq with rfl | hq
   ·exact e
   ·exact h.1 q hq
  ·rw [if_neg e,rC,rC]
   have:=hn a (.head _);refine⟨fun q hq=>?_,h.1,h.2⟩;have e2:z<a.1:=by omega
   rcases cO.1 hq with rfl | hq
   ·exact e2
   ·exact Int.lt_trans e2 (h.1 q hq)
theorem OY.len{l:List (Int×List UInt8)} (h:OY l):l.length<=1001:=by
 have go:∀(l:List (Int×List UInt8)) (lo:Nat),lo<=1001->l.Pairwise (fun p q=>p.1<q.1)->(∀p∈l,(lo:Int)<=p.1/\p.1<=1000)->l.length+lo<=1001:=by
  intro l;induction l with
  | nil=>intro lo h _ _;simpa using h
  | cons a l ih=>
   intro lo hlo hp hb;rw [rC]at hp;have ha:=hb a (.head _);have:=ih (a.1.toNat+1) (by omega) hp.2 fun q hq=>⟨by have:=hp.1 q hq;omega,(hb q (.tail _ hq)).2⟩;simp only [rZ];omega
 have:=go l 0 (by omega) h.1 fun p hp=>by have:=h.2 p hp;omega
 omega
theorem aGt{B:Bd}{z:Int}{tx:List UInt8} (h:OY B.told) (hz:0<=z/\z<=1000):OY (B.RV z tx).told:=by
 unfold Bd.RV;cases e:Gu B.told z with
 | true=>exact h
 | false=>exact h.ins e hz
def Bd.yE (ms:List Int) (B:Bd) (m:Ms):Bd:=if(decide (uP ms m.fr= -1) || !decide (B.dec=[]))then B else if m.kind=5 then B.RV m.fr m.text else {B with qP:=B.qP.map fun a=>a.UX (uP ms m.fr+1) m.kind m.ht m.rd m.vl m.text}
def Bd.open_ (ms:List Int) (B:Bd):Bd:=(B.kept.filter fun m=>decide (m.ht=B.ht)).foldl (Bd.yE ms) {B with kept:=B.kept.filter fun m=> !decide (m.ht=B.ht)}
theorem aGu{ms:List Int}{z:Int} (h:uP ms z≠ -1):z∈ms:=by
 unfold uP at h;split at h
 ·rename_i i e
  obtain⟨hi,h1,_⟩:=Kj.1 e;have:z=ms[i]:=by simpa using h1
  rw [this];exact sW _
 ·exact absurd rfl h
theorem aBW{ms:List Int}{z:Int}: -1<=uP ms z/\uP ms z<ms.length:=by
 unfold uP;split
 ·rename_i i e
  obtain⟨hi,_,_⟩:=Kj.1 e;simp only [jZ];omega
 ·omega
theorem Wb{B:Bd}{z:Int}{tx:List UInt8}:(B.RV z tx).qP=B.qP:=by unfold Bd.RV;split<;>rfl
theorem aDy{ms:List Int}{B:Bd}{m:Ms} (h:B.qP.isSome):(B.yE ms m).qP.isSome:=by
 unfold Bd.yE;split
 ·exact h
 ·split
  ·rw [Wb];exact h
  ·simpa using h
section
variable{M d:Nat}{x:VE}{S:Hp}{K:KV}{b:Nat}{B:Bd}{sd:Nat->Prop}
theorem aIM (hM:100000<M) (hx:Deep PP cM gT M (d+4) x){O:Tag}{ms:List Int} (KA:ms.length<1000) (hms:∀z∈ms,1<=z/\z<=5){i:Nat}{S0:Hp}{nv:V}{now:List Ms} (IC:now.length<100000) (pS:∀m∈now,m.kind<256)
 (ri:S i=some (.row [.ptr b 0] 25)) (sn:SL 37 11 S0 S nv (pI now) now.length) (ni_:¬sd i) (nn:∀j,qQ nv j->¬sd j):
 ∀(q j k:Nat) (Skz:Hp) (Bk:Bd) (Sk:Nat->Prop),j+q=now.length->q<k->vA Skz b Bk Sk->Ca sd S Skz Sk->OY Bk.told->Bk.qP.isSome=true->
  (∀S' KN,vA S' b ((now.drop j).foldl (Bd.yE ms) Bk) KN->Ca sd S S' KN->K (.tuple []) S')->
  fA x k (.list O (As ms) ms.length) (.ptr i 0) nv (ni now.length) (ni j) Skz K:=by
 intro q;induction q with
 | zero=>
  intro j k Skz Bk Sk hj hk hB hF hs hb hK;obtain⟨k,rfl⟩:=eY (show k≠0 by omega);rw [uF];unfold oX;refine aQ ?_;rw [mV,VB (by omega),iF];rw [Ko (by omega)]at hK;exact aJ (hK Skz Sk hB hF)
 | succ q ih=>
  intro j k Skz Bk Sk hj hk hB hF hs hb hK;obtain⟨k,rfl⟩:=eY (show k≠0 by omega);rw [uF];unfold oX;refine aQ ?_;have PF:j<now.length:=by omega
  rw [BB PF,PY]at hK;have rik:=hF.rK _ _ ni_ ri;have snk:SL 37 11 S0 Skz nv (pI now) now.length:=sn.but fun j o h1 h2=>hF.rK _ _ (nn j h1) h2;obtain⟨us,Br,Aw⟩:=snk.ldn PF;rw [XU (aS PF)]at Br;obtain⟨t,rfl⟩:=XV Br;rw [mV,dlt PF,jS,Aw];intro r hr;refine nG (cs:=pC t now[j]) aD rfl rfl (by rfl) ?_;rw [fG];have pT:gA Skz (aR Skz r (.row (pC t now[j]) 37)):= .aT hr;have rr:aR Skz r (.row (pC t now[j]) 37) r=some (.row (pC t now[j]) 37):=aD;have Wn:=hB.up pT;have ri1:=pT _ _ rik;have hF1:Ca sd S (aR Skz r (.row (pC t now[j]) 37)) Sk:=hF.trans (.le pT);generalize aR Skz r (.row (pC t now[j]) 37)=Sr at pT rr Wn ri1 hF1;have hkd:=pS _ (sW PF);generalize now[j]=m at hK rr hkd;have l1:∀{K:KV},aH (.ptr r 1) Sr K=K (nz m.fr) Sr:=cD rr rfl;have l0:∀{K:KV},aH (.ptr r 0) Sr K=K (n8 m.kind) Sr:=cD rr rfl;have l9:∀{K:KV},aH (.ptr r 9) Sr K=K (.str m.text) Sr:=cD rr rfl;have li:∀{K:KV},aH (.ptr i 0) Sr K=K (.ptr b 0) Sr:=cD ri1 rfl;obtain⟨bv,tv,kv,SB,g,rfl⟩:=Wn;have Qb:∀{K:KV},aH (.ptr b 14) Sr K=K (.str Bk.dec) Sr:=cD g.row rfl;have By:∀{K:KV},aH (.ptr b 15) Sr K=K bv Sr:=cD g.row rfl;rw [aX,l1];refine aAJ (d:=d+3) hx (by omega) (by omega) ?_;have hz:=aBW (ms:=ms) (z:=m.fr)
  have q7:∀{k:V->Prop},aE PP .add 3 (nz (uP ms m.fr)) (.int .i64 (.ofNat 1)) k=k (nz (uP ms m.fr+1)):=fun {k}=>by
   rw [kU]
   congr 2
   exact wrap_small (by simp only [jZ];omega) (by simp only [jZ];omega)
  have q8:∀{k:V->Prop},aE PP .eql 3 (nz (uP ms m.fr+1)) (.int .i64 (.ofNat 0)) k=k (.bool (decide (uP ms m.fr= -1))):=fun {k}=>by
   rw [fB]
   congr 2
   rw [pL];simp only [decide_eq_true_eq,jZ];omega
  have q9:∀{k:V->Prop},aE PP .neq 9 (.str Bk.dec) (.str []) k=k (.bool (!decide (Bk.dec=[]))):=fun {k}=>rfl;have qk:∀{k:V->Prop},aE PP .eql 5 (n8 m.kind) (.int .u8 (.ofNat 5)) k=k (.bool (decide (m.kind=5))):=fun {k}=>by rw [fB];congr 2;simp;omega
  have skip:Bk.yE ms m=Bk->(aE PP .add 3 (ni j) (.int .i64 (.ofNat 1)) fun v20=>fA x k (.list O (As ms) ms.length) (.ptr i 0) nv (ni now.length) v20 Sr K):=fun e=>by
   rw [qO (by omega)];rw [e]at hK;exact ih (j+1) k Sr Bk _ (by omega) (by omega) ⟨bv,tv,kv,SB,g,rfl⟩ hF1 hs hb hK
  rw [q7,q8];by_cases e1:uP ms m.fr= -1
  ·rw [bK e1]
   repeat (first | rw [aP] | rw [nM] | rw [gC] | rw [jS] | dsimp only)
   refine skip ?_;unfold Bd.yE;rw [bK e1];rfl
  ·have hfr:=hms _ (aGu e1)
   rw [bM e1]
   repeat (first | rw [aP] | rw [aN] | rw [li] | rw [bG] | rw [aX] | rw [Qb] | rw [q9] | rw [dO] | dsimp only)
   by_cases e2:Bk.dec=[]
   ·rw [bK e2,fJ,iF]
    repeat (first | rw [l0] | rw [aX])
    rw [qk]
    have est:Bk.yE ms m=if m.kind=5 then Bk.RV m.fr m.text else {Bk with qP:=Bk.qP.map fun a=>a.UX (uP ms m.fr+1) m.kind m.ht m.rd m.vl m.text}:=by
     unfold Bd.yE;rw [bM e1,bK e2];rfl
    by_cases e3:m.kind=5
    ·rw [bK e3,jS]
     repeat (first | rw [li] | rw [l1] | rw [l9] | rw [aX])
     rw [if_pos e3]at est;have hlen:=hs.len;refine aLO (d:=d+1) hM hx (h:=⟨bv,tv,kv,SB,g,rfl⟩) (by omega) hs (by omega) fun S' KN hB' hF'=>?_;rw [qO (by omega)];refine ih (j+1) k S' _ KN (by omega) (by omega) hB' (hF1.trans hF') (aGt hs (by omega)) (by rw [Wb];exact hb) ?_;rw [<-est];exact hK
    ·rw [bM e3,iF]
     repeat (first | rw [li] | rw [bG] | rw [By] | rw [aX])
     rw [if_neg e3]at est;refine jD (n:=11) (i:=r) rr rfl ?_;obtain⟨me,ht,dec,qP,told,kept⟩:=Bk;have gb:=g.qP;have gnb:=g.nb;cases gb with
     | no=>cases hb
     | @is q' t' m' a kb=>
      refine aNo (n:=d) (by omega) hx kb (fr:=uP ms m.fr+1) (g:=⟨m.kind,m.fr,m.to,m.ht,m.rd,m.vl,m.ep,m.dl,m.id,m.text,m.nums.map (fun n=>Dt.int .u64 (.ofNat n)),m.nums.length⟩) (O:=t) fun S' c' kb'=>?_
      have hib:i≠q'/\i≠m':=by
       constructor<;>intro c<;>subst c
       ·exact ni_ ((hF1.new _ (.inr (.inr (.inr (.inl rfl))))).resolve_right (by rw [ri];intro c;cases c))
       ·exact ni_ ((hF1.new _ (.inr (.inr (.inr (.inr (.inr rfl)))))).resolve_right (by rw [ri];intro c;cases c))
      have li':∀{K:KV},aH (.ptr i 0) S' K=K (.ptr b 0) S':=cD ((c' _ hib.1 hib.2).trans ri1) rfl;dsimp only;rw [li',mZ rfl,qO (by omega)];have kp:∀j o,¬(j=q'\/j=t'\/j=m')->Sr j=some o->S' j=some o:=fun j o h1 h2=>by rw [c' j (fun c=>h1 (.inl c)) (fun c=>h1 (.inr (.inr c)))];exact h2
      refine ih (j+1) k S' {me:=me,ht:=ht,dec:=dec,qP:=some (a.UX (uP ms m.fr+1) m.kind m.ht m.rd m.vl m.text),told:=told,kept:=kept} (Own b tv kv fun j=>j=q'\/j=t'\/j=m') (by omega) (by omega) ⟨_,tv,kv,_,⟨?_,?_,?_,.is kb',gnb,g.tna⟩,rfl⟩ (hF1.trans ⟨fun j o hn e=>kp j o (fun c=>hn (.inr (.inr (.inr c)))) e,fun j hj=> .inl hj⟩) hs rfl ?_
      ·exact kp _ _ gnb g.row
      ·exact g.told.but fun j o h1 h2=>kp j o (fun c=>g.told.aDw g.qP h1 c) h2
      ·exact g.kept.but fun j o h1 h2=>kp j o (fun c=>g.kept.aDw g.qP h1 c) h2
      ·rw [est]at hK;exact hK
   ·rw [bM e2,fD,jS]
    refine skip ?_;unfold Bd.yE;rw [bM e2];simp
end
section
variable{M d:Nat}{x:VE}{S:Hp}{K:KV}{b:Nat}{B:Bd}{sd:Nat->Prop}
theorem aLQ (hM:100000<M) (hx:Deep PP cM gT M (d+5) x){O:Tag}{ms:List Int} (KA:ms.length<1000) (hms:∀z∈ms,1<=z/\z<=5) (h:vA S b B sd) (hl:B.kept.length<90000) (pS:∀m∈B.kept,m.kind<256) (hs:OY B.told) (hb:B.qP.isSome=true)
 (hK:∀S' KN,vA S' b (B.open_ ms) KN->Ca sd S S' KN->K (.tuple []) S'):x.call lL [.ptr b 0,.list O (As ms) ms.length] S K:=by
 obtain⟨bv,tv,kv,SB,h,rfl⟩:=h;refine hx.call aLP fun y hy=>?_;rw [RM];unfold EL;intro i hi;have iM:gA S (aR S i (.row [.ptr b 0] 25)):= .aT hi;have ri:aR S i (.row [.ptr b 0] 25) i=some (.row [.ptr b 0] 25):=aD;have g1:=h.up iM;generalize aR S i (.row [.ptr b 0] 25)=S1 at iM ri g1;intro a ha;have pT:gA S1 (aR S1 a (.row [.nil] 23)):= .aT ha;have ra:aR S1 a (.row [.nil] 23) a=some (.row [.nil] 23):=aD;have g:=g1.up pT;have ri2:=pT _ _ ri;generalize aR S1 a (.row [.nil] 23)=S2 at pT ra g ri2;have hia:i≠a:=fun c=>by rw [c,ha]at ri;cases ri
 have hba:b≠a:=fun c=>by have:=g1.row;rw [c,ha]at this;cases this
 have Vn:gA S S2:=iM.trans pT;have li:∀{K:KV},aH (.ptr i 0) S2 K=K (.ptr b 0) S2:=cD ri2 rfl;have l17:∀{K:KV},aH (.ptr b 17) S2 K=K kv S2:=cD g.row rfl;have sp:∀{p:Prop} {a:Nat},bH (.ptr a 0) (.ptr a 0) p=p:=fun {p a}=>mZ rfl;dsimp only;rw [li,li,bG,aX,l17];refine Vv (d:=d+3) hy (fun j o e=>by cases e) g.kept (by omega) fun u S3 EV sl nas=>?_;have ri3:=EV _ _ ri2;have li3:∀{K:KV},aH (.ptr i 0) S3 K=K (.ptr b 0) S3:=cD ri3 rfl
 repeat (first | rw [li3] | rw [sp])
 have ud:∀j,qQ u j->S2 j=none:=fun j hj=>(sl.at hj).1
 let J:List Ms->Hp->Prop:=fun pre S'=>gA (del S2 a) S'/\∃nv,S' a=some (.row [nv] 23)/\SL 37 11 (del S2 a) S' nv (pI (pre.filter fun m=>decide (m.ht=B.ht))) (pre.filter fun m=>decide (m.ht=B.ht)).length/\∀j,qQ u j->S' j≠none/\¬qQ nv j/\j≠a
 have ds:∀{j:Nat} {o:Ob},j≠a->S2 j=some o->del S2 a j=some o:=fun {j o} h1 h2=>by unfold del;rw [if_neg h1];exact h2
 have hJ0:J [] S3:=by
  refine⟨aFd.trans EV,.nil,EV _ _ ra,.nil,fun j hj=>⟨fun c=>?_,fun c=>c,fun c=>?_⟩⟩
  ·rcases(sl.at hj).2 with e | ⟨_,_,e⟩<;>(rw [e]at c;cases c)
  ·rw [c]at hj;have:=ud _ hj;rw [ra]at this;cases this
 have ask:∀d',aGk M (d'+1) (.func iA [] [.ptr i 0,.ptr a 0]) (fun m=>decide (m.ht=B.ht)) B.kept u J:=fun d'=>by
  refine⟨fun z hz pre m aPa t S' K hJ hK=>?_,fun pre S' vs vs' n j hj hJ he=>?_,fun pre S' j o hJ hj=>?_⟩
  ·obtain⟨hle,nv,e1,e2,e3⟩:=hJ
   have rP:pre.length<90000:=by obtain⟨suf,e⟩:=aPa;rw [e]at hl;simp at hl;omega
   refine aIL (B:=B) (bv:=bv) (tv:=tv) (kv:=kv) (d:=d') hz (by omega) (hle _ _ (ds hba g.row)) (hle _ _ (ds hia ri2)) e1 hle e2 (by have:=VJ (fun m:Ms=>decide (m.ht=B.ht)) pre;omega) (fun e=>?_) fun e w S'' kp ew DV sw=>?_
   ·rw [e]at hK
    refine hK S' ⟨hle,nv,e1,?_,e3⟩ (fun _ _ _ e=>e) fun _ _ _ e=>e;rw [Cj,VT,if_neg (by rw [e];simp),La,vJ];exact e2
   ·rw [e]at hK
    have nva:∀{j:Nat} {o:Ob},S' j=some o->(∀vs m,o≠ .jK vs 37 m)->o≠ .row [] 37->¬qQ nv j:=fun {j o} q1 q2 q3 c=>by
     rcases(e2.at c).2 with q | ⟨_,_,q⟩<;>(rw [q1]at q;injection q with q)
     ·exact q3 q
     ·exact q2 _ _ q
    refine hK S'' ⟨fun j o q=>kp j o (fun c=>by rw [c,aFe]at q;cases q) (fun c=>by have:=(e2.at c).1;rw [q]at this;cases this) (hle _ _ q),w,ew,?_,fun j hj=>?_⟩ (fun j o q1 q2=>kp j o (e3 j q1).2.2 (e3 j q1).2.1 q2) fun r t' a' q=>?_
    ·rw [Cj,VT,if_pos e,La]
     exact sw
    ·obtain⟨q1,q2,q3⟩:=e3 j hj
     cases hq:S' j with
     | none=>exact absurd hq q1
     | some o=>
      refine⟨(fun c=>by rw [kp j o q3 q2 hq]at c;cases c),fun c=>?_,q3⟩;rcases DV j c with c | c
      ·exact q2 c
      ·exact q1 c
    ·exact kp r _ (fun c=>by rw [c,e1]at q;injection q with q;injection q with q1 q2;cases q2) (e2.nat q) q
  ·obtain⟨hle,nv,e1,e2,e3⟩:=hJ
   obtain⟨q1,q2,q3⟩:=e3 j hj;refine⟨fun k o e=>?_,nv,by rw [aF q3.symm];exact e1,e2.set q2,fun k hk=>⟨?_,(e3 k hk).2⟩⟩
   ·rw [aF (fun c=>by have:=ud j hj;rw [c]at e;have:=aFd (S:=S2) (i:=a) _ _ e;rw [ud j hj]at this;cases this)];exact hle _ _ e
   ·by_cases c:k=j
    ·subst c;rw [aD];intro e;cases e
    ·rw [aF c];exact(e3 k hk).1
  ·obtain⟨hle,nv,e1,e2,e3⟩:=hJ
   have hu:gA S' (aR S' j o):= .aT hj;refine⟨hle.trans hu,nv,hu _ _ e1,e2.up hu,fun k hk=>⟨?_,(e3 k hk).2⟩⟩;have:=(e3 k hk).1;cases hq:S' k with
   | none=>exact absurd hq this
   | some p=>rw [hu _ _ hq];intro e;cases e
 refine aGl (d:=d+2) (J:=J) hM hy sl (by omega) (fun i q c=>nas _ _ _ _ _) (ask (d+1)) (ask (d+2)) hJ0 fun w S4 hJ4 DV sw=>?_;obtain⟨aLR,nv,ra4,sn,hu4⟩:=hJ4;have ri4:=aLR _ _ (ds hia ri2);have rb4:=aLR _ _ (ds hba g.row);have li4:∀{K:KV},aH (.ptr i 0) S4 K=K (.ptr b 0) S4:=cD ri4 rfl
 repeat (first | rw [li4] | rw [sp])
 rw [bG,aX,Ig rb4 (bE rfl) sw.one];have QQ:(pJ B bv tv kv).set 17 w=pJ {B with kept:=B.kept.filter fun m=> !decide (m.ht=B.ht)} bv tv w:=rfl;rw [QQ];have wb:¬qQ w b:=fun c=>by have:=ud _ (DV _ c);rw [g.row]at this;cases this
 have kp5:∀j o,j≠a->j≠b->S2 j=some o->aR S4 b (.row (pJ {B with kept:=B.kept.filter fun m=> !decide (m.ht=B.ht)} bv tv w) 82) j=some o:=fun j o h1 h2 h3=>by rw [aF h2];exact aLR _ _ (ds h1 h3)
 have na0:∀{j:Nat} {o:Ob},S j=some o->j≠a:=fun {j o} e c=>by have:=iM _ _ e;rw [c,ha]at this;cases this
 have gg:vA (aR S4 b (.row (pJ {B with kept:=B.kept.filter fun m=> !decide (m.ht=B.ht)} bv tv w) 82)) b {B with kept:=B.kept.filter fun m=> !decide (m.ht=B.ht)} (Own b tv w SB):=by
  refine⟨bv,tv,w,SB,⟨aD,?_,?_,?_,g.nb,g.tna⟩,rfl⟩
  ·exact h.told.but fun j o h1 h2=>kp5 j o (na0 h2) (fun c=>by rw [c]at h1;exact h.told.nat h.row h1) (Vn _ _ h2)
  ·exact(sw.base (fun j o e=>by cases e)).set wb
  ·exact h.qP.but fun j o h1 h2=>kp5 j o (na0 h2) (fun c=>h.nb (by rw [<-c];exact h1)) (Vn _ _ h2)
 have F:Ca (Own b tv kv SB) S (aR S4 b (.row (pJ {B with kept:=B.kept.filter fun m=> !decide (m.ht=B.ht)} bv tv w) 82)) (Own b tv w SB):=by
  refine⟨fun j o hn e=>kp5 j o (na0 e) (fun c=>hn (.inl c)) (Vn _ _ e),fun j hj=>?_⟩;rcases hj with hj | hj | hj | hj
  ·exact .inl (.inl hj)
  ·exact .inl (.inr (.inl hj))
  ·exact .inr (Vn.none (ud _ (DV _ hj)))
  ·exact .inl (.inr (.inr (.inr hj)))
 have nab:a≠b:=hba.symm;have ra5:aR S4 b (.row (pJ {B with kept:=B.kept.filter fun m=> !decide (m.ht=B.ht)} bv tv w) 82) a=some (.row [nv] 23):=by rw [aF nab];exact ra4
 have nib:i≠b:=fun c=>by rw [c]at ri2;rw [g.row]at ri2;cases ri2
 have ri5:aR S4 b (.row (pJ {B with kept:=B.kept.filter fun m=> !decide (m.ht=B.ht)} bv tv w) 82) i=some (.row [.ptr b 0] 25):=by rw [aF nib];exact ri4
 have nvb:¬qQ nv b:=sn.nat rb4;have sn5:=sn.set (o:= .row (pJ {B with kept:=B.kept.filter fun m=> !decide (m.ht=B.ht)} bv tv w) 82) nvb
 have aNy:∀{j:Nat},Own b tv w SB j->¬qQ w j->∃o,S j=some o:=fun {j} hj hw=>by
  rcases hj with hj | hj | hj | hj
  ·exact h.some_ (.inl hj)
  ·exact h.some_ (.inr (.inl hj))
  ·exact absurd hj hw
  ·exact h.some_ (.inr (.inr (.inr hj)))
 have nn:∀j,qQ nv j->¬Own b tv w SB j:=fun j hj c=>by
  have hja:j≠a:=fun c=>by rw [c]at hj;exact sn.nat ra4 hj
  have h2:=(sn.at hj).1;have h3:¬qQ w j:=fun c=>(hu4 j (DV j c)).2.1 hj;obtain⟨o,e⟩:=aNy c h3;rw [ds hja (Vn _ _ e)]at h2;cases h2
 have nio:¬Own b tv w SB i:=fun c=>by
  have h3:¬qQ w i:=fun c=>by have:=ud _ (DV _ c);rw [ri2]at this;cases this
  obtain⟨o,e⟩:=aNy c h3;rw [hi]at e;cases e
 generalize aR S4 b (.row (pJ {B with kept:=B.kept.filter fun m=> !decide (m.ht=B.ht)} bv tv w) 82)=S5 at gg F ra5 ri5 sn5;have la:∀{K:KV},aH (.ptr a 0) S5 K=K nv S5:=cD ra5 rfl;rw [la,sn5.len,hy.most];have IC:=VJ (fun m:Ms=>decide (m.ht=B.ht)) B.kept;refine aIM (d:=d) (ms:=ms) hM hy KA hms (i:=i) (nv:=nv) (by omega) (fun m hm=>pS m (dU.1 hm).1) ri5 sn5 nio nn (B.kept.filter fun m=>decide (m.ht=B.ht)).length 0 M S5 _ _ (by omega) (by omega) gg (.refl _ _) hs hb fun S' KN hB' hF'=>?_;exact hK S' KN hB' (F.trans hF')
end
def wM:Code->Nat
 | .region i _ _=>i
 | _=>0
def tZ:Code->Array Oper
 | .region _ o _=>o
 | _=> #[]
def uA:Code->Bool
 | .region _ _ d=>d
 | _=>false
def aM8:Code->Operand
 | .cond c _ _=>c
 | _=> .tmp 0
def aOW:Code->Nat
 | .block i _=>i
 | _=>0
section
variable (P:Program) (tb:oN) (lp:Code->LpV)
def aAp (R5 R6 R7:Code) (c:Operand) (R8:Code) (la lj:List Nat) (lpv jv:List V->Nat->Hp->Prop) (E:VE) (A:VA) (S:Hp):Prop:=
 (Uc P (tZ R5) (uA R5)).f E A S fun A S=>(Uc P (tZ R6) (uA R6)).f E A S fun A S=>(Uc P (tZ R7) (uA R7)).f E A S fun A S=>
  (uE c).f A fun v=>pA v ((Uc P (tZ R8) (uA R8)).f E A S fun A S=>EG la A fun ws=>lpv ws A.tmps.n S) (EG lj A fun ws=>jv ws A.tmps.n S)
end
section
variable{P:Program}{tb:FuncId->oN}{f:FuncId}{fn:Func}{a0 s1 s2 R5 R6 R7 R8 R9 a Y:Code}{c:Operand}{id:Nat}{l3 lj:List Nat}{E:VE}{vs:List V}{S:Hp}{K:KV}
theorem aOX (hf:P.funcs[f]? =some fn) (hb:fn.body=some (.seq a0 (.seq s1 (.seq s2 (.seq (.region (wM R5) (tZ R5) (uA R5)) (.seq (.region (wM R6) (tZ R6) (uA R6)) (.seq (.seq (.region (wM R7) (tZ R7) (uA R7)) (.cond c (.seq (.seq (.region (wM R8) (tZ R8) (uA R8)) (.block id (.loop a))) R9) .skip)) Y)))))))
 (h3:mQ (tb f) (.seq (.region (wM R5) (tZ R5) (uA R5)) (.seq (.region (wM R6) (tZ R6) (uA R6)) (.seq (.seq (.region (wM R7) (tZ R7) (uA R7)) (.cond c (.seq (.seq (.region (wM R8) (tZ R8) (uA R8)) (.block id (.loop a))) R9) .skip)) Y)))=some l3)
 (h6:mQ (tb f) (.seq (.region (wM R6) (tZ R6) (uA R6)) (.seq (.seq (.region (wM R7) (tZ R7) (uA R7)) (.cond c (.seq (.seq (.region (wM R8) (tZ R8) (uA R8)) (.block id (.loop a))) R9) .skip)) Y))=none)
 (h7:mQ (tb f) (.seq (.seq (.region (wM R7) (tZ R7) (uA R7)) (.cond c (.seq (.seq (.region (wM R8) (tZ R8) (uA R8)) (.block id (.loop a))) R9) .skip)) Y)=none)
 (hc:mQ (tb f) (.cond c (.seq (.seq (.region (wM R8) (tZ R8) (uA R8)) (.block id (.loop a))) R9) .skip)=none)
 (hl:mQ (tb f) (.block id (.loop a))=none) (hj:mQ (tb f) Y=some lj):
 BU P tb f E [.r,.r,.r] [] vs S K=jC S fun S=>BK l3 vs fn.ntmps P.globals.size fun A=>aAp P R5 R6 R7 c R8 (sC (tb f) a) lj
  (fun ws n S=>FV P (tb f) a (kY P (tb f) none (BL P (tb f) none 4) a) E (Ud P (tb f) a (Fj id (UD P (mQ (tb f) R9) (kY P (tb f) none (BL P (tb f) none rS) R9) E (UD P (mQ (tb f) Y) (kY P (tb f) none (BL P (tb f) none rS) Y) E (Ia P fn K))))) E.most ws n S)
  (fun ws n S=>Ue P lj (kY P (tb f) none (BL P (tb f) none rS) Y) E (Ia P fn K) ws n S) E A S:=by
 have e0:BU P tb f E [.r,.r,.r] [] vs S K=jC S fun S=>BK l3 vs fn.ntmps P.globals.size fun A=>(kY P (tb f) none (BL P (tb f) none rS) (.seq (.region (wM R5) (tZ R5) (uA R5)) (.seq (.region (wM R6) (tZ R6) (uA R6)) (.seq (.seq (.region (wM R7) (tZ R7) (uA R7)) (.cond c (.seq (.seq (.region (wM R8) (tZ R8) (uA R8)) (.block id (.loop a))) R9) .skip)) Y)))).f E A S (Ia P fn K):=by
  unfold BU;rw [hf];simp only [hb];show(match mQ (tb f) _ with | some l=>_ | none=>False)=_;rw [h3]
 rw [e0]
 congr 1
 funext S
 congr 1
 funext A
 unfold aAp;simp only [kY,UD,h6,h7,hc,hl,hj];rfl
theorem aOY (hf:P.funcs[f]? =some fn) (hb:fn.body=some (.seq a0 (.seq s1 (.seq s2 (.seq (.region (wM R5) (tZ R5) (uA R5)) (.seq (.region (wM R6) (tZ R6) (uA R6)) (.seq (.seq (.region (wM R7) (tZ R7) (uA R7)) (.cond c (.seq (.seq (.region (wM R8) (tZ R8) (uA R8)) (.block id (.loop a))) R9) .skip)) Y))))))){m:Nat}:
 sL P tb f E [.r,.r,.r,.r,.r,.l,.r,.l,.l,.r,.d] m [] vs S K=FV P (tb f) a (kY P (tb f) none (BL P (tb f) none 4) a) E (Ud P (tb f) a (Fj id (UD P (mQ (tb f) R9) (kY P (tb f) none (BL P (tb f) none rS) R9) E (UD P (mQ (tb f) Y) (kY P (tb f) none (BL P (tb f) none rS) Y) E (Ia P fn K))))) m vs fn.ntmps S:=by
 unfold sL;rw [hf];simp only [hb];rfl
theorem aOZ (hf:P.funcs[f]? =some fn) (hb:fn.body=some (.seq a0 (.seq s1 (.seq s2 (.seq (.region (wM R5) (tZ R5) (uA R5)) (.seq (.region (wM R6) (tZ R6) (uA R6)) (.seq (.seq (.region (wM R7) (tZ R7) (uA R7)) (.cond c (.seq (.seq (.region (wM R8) (tZ R8) (uA R8)) (.block id (.loop a))) R9) .skip)) Y))))))) (hj:mQ (tb f) Y=some lj):
 EC P tb f E [.r,.r,.r,.r,.r,.r] [] vs S K=Ue P lj (kY P (tb f) none (BL P (tb f) none rS) Y) E (Ia P fn K) vs fn.ntmps S:=by
 unfold EC;rw [hf];simp only [hb];show(match mQ (tb f) Y with | some l=>_ | none=>False)=_;rw [hj]
end
def aKF (P:Program) (tb:FuncId->oN) (f:FuncId) (E:VE) (p:List Dir) (m:Nat) (ms:List Nat) (vs:List V) (S:Hp) (K:KV):Prop:=
 match P.funcs[f]? with
 | some fn=>match fn.body with
  | some c=>qF P (tb f) none E p rS c ms (Ia P fn K) fun D c K=>match D,c with
   | D+1,.loop a=>aBA (β:=List V->Nat->Hp->Prop) (fun _ _ _=>False) (fun _ ih vs n S=>jC S fun S=>BK (sC (tb f) a) vs n P.globals.size fun A=>(kY P (tb f) none (BL P (tb f) none D) a).f E A S (Oa (tb f) a ih (Ud P (tb f) a K))) m vs fn.ntmps S
   | _,_=>False
  | none=>False
 | none=>False
def pH (x:VE) (t0 t1 t2 t3 t4:V) (S:Hp) (K:KV):Prop:=EC PP cM aI x [.r,.r,.r] [] [t0,t1,t2,t3,t4] S K
def fY (x:VE) (m:Nat) (t0 t1 t11 Ka t89 Hd:V) (S:Hp) (K:KV):Prop:=sL PP cM aI x [.r,.r,.r,.r,.r,.l,.r,.l,.l,.r,.d] m [] [t0,t1,t11,Ka,t89,Hd] S K
def iS (x:VE) (m:Nat) (m0:Nat) (t0 t1 t11 t13 Ka t89 Hd t94 t95 t96:V) (S:Hp) (K:KV):Prop:=sL PP cM aI x [.r,.r,.r,.r,.r,.l,.r,.l,.l,.r,.d,.d,.r,.r,.l,.d,.r,.r,.d] m [m0] [t0,t1,t11,t13,Ka,t89,Hd,t94,t95,t96] S K
def gU (x:VE) (t0 t1 t11:V) (S:Hp) (K:KV):Prop:=EC PP cM aI x [.r,.r,.r,.r,.r,.r] [] [t0,t1,t11] S K
def BO (x:VE) (m:Nat) (t0 t11 t148 aO0:V) (S:Hp) (K:KV):Prop:=sL PP cM aI x [.r,.r,.r,.r,.r,.r,.l,.r,.l,.r,.d] m [] [t0,t11,t148,aO0] S K
def HY (x:VE) (a0 a1 a2 a3 a4:V) (S:Hp) (K:KV):Prop:=
 aE PP .eql 25 a0 .sD fun v0=>
 aC x.most (aB false v0 (fun k=>k a0 S) S fun v1 S=>aC x.most (aB false v0 (fun k=>cP PP v1 fun v2=>k v2 S) S fun v3 S=>aC x.most (aB false v0 (fun k=>aL 14 v3 fun v4=>k v4 S) S fun v5 S=>aC x.most (aB false v0 (fun k=>aH v5 S fun v6 S=>k v6 S) S fun v7 S=>aC x.most (aB false v0 (fun k=>aE PP .neq 9 v7 (.str []) fun v8=>k v8 S) S fun v9 S=>aC x.most (cK v0 (.bool true) v9 fun v10=>aC x.most (aB false v10 (fun k=>k a0 S) S fun v11 S=>aC x.most (aB false v10 (fun k=>cP PP v11 fun v12=>k v12 S) S fun pB S=>aC x.most (aB false v10 (fun k=>aL 13 pB fun pU=>k pU S) S fun qS S=>aC x.most (aB false v10 (fun k=>aH qS S fun sV S=>k sV S) S fun v17 S=>aC x.most (aB false v10 (fun k=>aE PP .gtr 3 v17 (.int .i64 (.ofNat 64)) fun xS=>k xS S) S fun yH S=>aC x.most (cK v10 (.bool true) yH fun v20=>aC x.most (aB false v20 (fun k=>k a0 S) S fun v21 S=>aC x.most (aB false v20 (fun k=>k a1 S) S fun v22 S=>aC x.most (aB false v20 (fun k=>x.call mM [v21,v22] S fun v23 S=>k v23 S) S fun v24 S=>aC x.most (aB false v20 (fun k=>NX .not v24 fun v25=>k v25 S) S fun v26 S=>aC x.most (cK v20 (.bool true) v26 fun CP=>pA CP (bD .nil S K) (cP PP a0 fun v28=>aL 15 v28 fun JG=>aH JG S fun v30 S=>aE PP .eql 80 v30 .sD fun v31=>pA v31 (cP PP a0 fun v32=>aL 13 v32 fun v33=>aH v33 S fun BV S=>cP PP a0 fun v35=>aL 0 v35 fun KJ=>aL 5 KJ fun v37=>aH v37 S fun VF S=>cP PP a0 fun v39=>aL 0 v39 fun v40=>aL 6 v40 fun v41=>aH v41 S fun Ic S=>cP PP a0 fun Id=>aL 12 Id fun v44=>aH v44 S fun v45 S=>x.call dN [a1,v45] S fun v46 S=>aH v41 S fun Bv _=>bH Bv Ic (aH v37 S fun Jy _=>bH Jy VF (aH v33 S fun v49 _=>bH v49 BV (aE PP .add 3 v46 (.int .i64 (.ofNat 1)) fun v50=>x.call xQ [BV,VF,Ic,v50] S fun v51 S=>pY 0 v51 fun v52=>pY 1 v51 fun v53=>cP PP a0 fun v54=>aL 15 v54 fun v55=>sU 1 v55 v52 S fun S=>pH x a0 a1 a2 a3 a4 S K)))) (pH x a0 a1 a2 a3 a4 S K)))))))))))))))))))
theorem XR (x:VE) (a0 a1 a2 a3 a4:V) (S:Hp) (K:KV):pP PP cM aI x [a0,a1,a2,a3,a4] S K=HY x a0 a1 a2 a3 a4 S K:=by kernel_rfl
def oI (x:VE) (t0 t1 t2 t3 t4:V) (S:Hp) (K:KV):Prop:=
 jC S fun S=>
 x.call lL [t0,t1] S fun v0 S=>
 cP PP t0 fun v1=>
 aL 14 v1 fun v2=>
 aH v2 S fun v3 S=>
 aE PP .eql 9 v3 (.str []) fun v4=>
 pA v4 (cP PP t0 fun v5=>aL 15 v5 fun v6=>aH v6 S fun v7 S=>fF x t4 [v7,t2,t3] S fun v8 S=>dJ v8 fun v9=>fY x x.most t0 t1 .nil v8 v9 (.int .i64 (.ofNat 0)) S K) (gU x t0 t1 .nil S K)
def yK (lpv jv:List V->Nat->Hp->Prop) (x:VE) (t0 t1 t2 t3 t4:V) (S:Hp):Prop:=
 jC S fun S=>
 x.call lL [t0,t1] S fun v0 S=>
 cP PP t0 fun v1=>
 aL 14 v1 fun v2=>
 aH v2 S fun v3 S=>
 aE PP .eql 9 v3 (.str []) fun v4=>
 pA v4 (cP PP t0 fun v5=>aL 15 v5 fun v6=>aH v6 S fun v7 S=>fF x t4 [v7,t2,t3] S fun v8 S=>dJ v8 fun v9=>lpv [t0,t1,.nil,v8,v9,.int .i64 (.ofNat 0)] Go.Proofs.Tryz.f32.ntmps S) (jv [t0,t1,.nil] Go.Proofs.Tryz.f32.ntmps S)
theorem Pc:Go.Proofs.Tryz.f32.body=some (.seq (xI PP aI [.l]) (.seq (xI PP aI [.r,.l]) (.seq (xI PP aI [.r,.r,.l]) (.seq (.region (wM (xI PP aI [.r,.r,.r,.l])) (tZ (xI PP aI [.r,.r,.r,.l])) (uA (xI PP aI [.r,.r,.r,.l]))) (.seq (.region (wM (xI PP aI [.r,.r,.r,.r,.l])) (tZ (xI PP aI [.r,.r,.r,.r,.l])) (uA (xI PP aI [.r,.r,.r,.r,.l]))) (.seq (.seq (.region (wM (xI PP aI [.r,.r,.r,.r,.r,.l,.l])) (tZ (xI PP aI [.r,.r,.r,.r,.r,.l,.l])) (uA (xI PP aI [.r,.r,.r,.r,.r,.l,.l]))) (.cond (aM8 (xI PP aI [.r,.r,.r,.r,.r,.l,.r])) (.seq (.seq (.region (wM (xI PP aI [.r,.r,.r,.r,.r,.l,.r,.l,.l,.l])) (tZ (xI PP aI [.r,.r,.r,.r,.r,.l,.r,.l,.l,.l])) (uA (xI PP aI [.r,.r,.r,.r,.r,.l,.r,.l,.l,.l]))) (.block (aOW (xI PP aI [.r,.r,.r,.r,.r,.l,.r,.l,.l,.r])) (.loop (xI PP aI [.r,.r,.r,.r,.r,.l,.r,.l,.l,.r,.d,.d])))) (xI PP aI [.r,.r,.r,.r,.r,.l,.r,.l,.r])) .skip)) (xI PP aI [.r,.r,.r,.r,.r,.r]))))))):=by kernel_rfl
theorem aM9 (lpv jv:List V->Nat->Hp->Prop) (x:VE) (t0 t1 t2 t3 t4:V) (S:Hp):(jC S fun S=>BK [0,1,2,3,4] [t0,t1,t2,t3,t4] Go.Proofs.Tryz.f32.ntmps PP.globals.size fun A=>aAp PP (xI PP aI [.r,.r,.r,.l]) (xI PP aI [.r,.r,.r,.r,.l]) (xI PP aI [.r,.r,.r,.r,.r,.l,.l]) (aM8 (xI PP aI [.r,.r,.r,.r,.r,.l,.r])) (xI PP aI [.r,.r,.r,.r,.r,.l,.r,.l,.l,.l]) (sC (cM aI) (xI PP aI [.r,.r,.r,.r,.r,.l,.r,.l,.l,.r,.d,.d])) [0,1,11] lpv jv x A S)=yK lpv jv x t0 t1 t2 t3 t4 S:=by kernel_rfl
theorem JL (x:VE) (t0 t1 t2 t3 t4:V) (S:Hp) (K:KV):BU PP cM aI x [.r,.r,.r] [] [t0,t1,t2,t3,t4] S K=oI x t0 t1 t2 t3 t4 S K:=by
 rw [aOX (P:=PP) (tb:=cM) (f:=aI) (l3:=[0,1,2,3,4]) (lj:=[0,1,11]) Go.Proofs.Tryz.func32 Pc (by kernel_rfl) (by kernel_rfl) (by kernel_rfl) (by kernel_rfl) (by kernel_rfl) (by kernel_rfl)];rw [aM9];unfold yK oI fY gU;simp only [aOY (P:=PP) (tb:=cM) (f:=aI) Go.Proofs.Tryz.func32 Pc,aOZ (P:=PP) (tb:=cM) (f:=aI) (lj:=[0,1,11]) Go.Proofs.Tryz.func32 Pc (by kernel_rfl)]
theorem KM (x:VE) (hm:x.most≠0) (t0 t1 t2 t3 t4:V) (S:Hp) (K:KV):pH x t0 t1 t2 t3 t4 S K=oI x t0 t1 t2 t3 t4 S K:=(tP (hm:=hm) ..).trans (JL x t0 t1 t2 t3 t4 S K)
def iK (x:VE) (m:Nat) (m0:Nat) (t0 t1 t11 t13 Ka t89 Hd t94 t95 t96:V) (S:Hp) (K:KV):Prop:=aKF PP cM aI x [.r,.r,.r,.r,.r,.l,.r,.l,.l,.r,.d,.d,.r,.r,.l,.d,.r,.r,.d] m [m0] [t0,t1,t11,t13,Ka,t89,Hd,t94,t95,t96] S K
theorem tR (x:VE) (m:Nat) (m0:Nat) (t0 t1 t11 t13 Ka t89 Hd t94 t95 t96:V) (S:Hp) (K:KV):iS x m m0 t0 t1 t11 t13 Ka t89 Hd t94 t95 t96 S K=iK x m m0 t0 t1 t11 t13 Ka t89 Hd t94 t95 t96 S K:=by kernel_rfl
def rA (x:VE) (m0:Nat) (t0 t1 t11 Ka t89 Hd:V) (S:Hp) (K:KV):Prop:=
 jC S fun S=>
 aE PP .lss 3 Hd t89 fun v0=>
 pA v0 (kX 11 Ka Hd fun v1=>iP 11 v1 S fun v2 S=>gZ [(.int .u8 (.ofNat 0)),(.int .i64 (.ofNat 0)),(.int .i64 (.ofNat 0)),(.int .i64 (.ofNat 0)),(.int .i64 (.ofNat 0)),(.int .i64 (.ofNat 0)),(.int .i64 (.ofNat 0)),(.int .i64 (.ofNat 0)),(.int .i64 (.ofNat 0)),(.string ⟨⟨[]⟩⟩),(.slice none 0 0)] 37 S fun v3 S=>sU 11 v3 v2 S fun S=>dJ t1 fun v4=>iS x x.most m0 t0 t1 t11 v3 Ka t89 Hd t1 v4 (.int .i64 (.ofNat 0)) S K) (cP PP t0 fun v5=>aL 15 v5 fun v6=>aH v6 S fun v7 S=>x.call jP [v7] S fun v8 S=>pY 0 v8 fun v9=>pY 1 v8 fun v10=>cP PP t0 fun v11=>aL 14 v11 fun v12=>sU 1 v12 v9 S fun S=>gU x t0 t1 t11 S K)
def zD (lp:VE->Nat->Nat->V->V->V->V->V->V->V->V->V->V->Hp->KV->Prop) (x:VE) (m0:Nat) (t0 t1 t11 Ka t89 Hd:V) (S:Hp) (K:KV):Prop:=
 jC S fun S=>
 aE PP .lss 3 Hd t89 fun v0=>
 pA v0 (kX 11 Ka Hd fun v1=>iP 11 v1 S fun v2 S=>gZ [(.int .u8 (.ofNat 0)),(.int .i64 (.ofNat 0)),(.int .i64 (.ofNat 0)),(.int .i64 (.ofNat 0)),(.int .i64 (.ofNat 0)),(.int .i64 (.ofNat 0)),(.int .i64 (.ofNat 0)),(.int .i64 (.ofNat 0)),(.int .i64 (.ofNat 0)),(.string ⟨⟨[]⟩⟩),(.slice none 0 0)] 37 S fun v3 S=>sU 11 v3 v2 S fun S=>dJ t1 fun v4=>lp x x.most m0 t0 t1 t11 v3 Ka t89 Hd t1 v4 (.int .i64 (.ofNat 0)) S K) (cP PP t0 fun v5=>aL 15 v5 fun v6=>aH v6 S fun v7 S=>x.call jP [v7] S fun v8 S=>pY 0 v8 fun v9=>pY 1 v8 fun v10=>cP PP t0 fun v11=>aL 14 v11 fun v12=>sU 1 v12 v9 S fun S=>gU x t0 t1 t11 S K)
theorem AZ (x:VE) (m0:Nat) (t0 t1 t11 Ka t89 Hd:V) (S:Hp) (K:KV):fY x (m0+1) t0 t1 t11 Ka t89 Hd S K=rA x m0 t0 t1 t11 Ka t89 Hd S K:=by
 have h1:fY x (m0+1) t0 t1 t11 Ka t89 Hd S K=zD iK x m0 t0 t1 t11 Ka t89 Hd S K:=by kernel_rfl
 have h2:iS=iK:=by funext x m m0 t0 t1 t11 t13 Ka t89 Hd t94 t95 t96 S K;exact tR ..
 rw [h1,<-h2];rfl
def pR (x:VE) (t0 t1 t11:V) (S:Hp) (K:KV):Prop:=
 jC S fun S=>
 cP PP t0 fun v0=>
 aL 14 v0 fun v1=>
 aH v1 S fun v2 S=>
 aE PP .neq 9 v2 (.str []) fun v3=>
 aC x.most (aB true v3 (fun k=>k t1 S) S fun v4 S=>aC x.most (aB true v3 (fun k=>k t0 S) S fun v5 S=>aC x.most (aB true v3 (fun k=>cP PP v5 fun v6=>k v6 S) S fun v7 S=>aC x.most (aB true v3 (fun k=>aL 12 v7 fun v8=>k v8 S) S fun v9 S=>aC x.most (aB true v3 (fun k=>aH v9 S fun v10 S=>k v10 S) S fun v11 S=>aC x.most (aB true v3 (fun k=>x.call lM [v4,v11] S fun v12 S=>k v12 S) S fun pB S=>aC x.most (cK v3 pB (.bool false) fun pU=>pA pU (cP PP t0 fun qS=>aL 0 qS fun sV=>aL 4 sV fun v17=>aH v17 S fun xS S=>aE PP .add 3 xS (.int .i64 (.ofNat 1)) fun yH=>BO x x.most t0 t11 yH (.int .i64 (.ofNat 0)) S K) (bD t11 S K))))))))
theorem FA (x:VE) (t0 t1 t11:V) (S:Hp) (K:KV):BU PP cM aI x [.r,.r,.r,.r,.r,.r] [] [t0,t1,t11] S K=pR x t0 t1 t11 S K:=by kernel_rfl
theorem GO (x:VE) (hm:x.most≠0) (t0 t1 t11:V) (S:Hp) (K:KV):gU x t0 t1 t11 S K=pR x t0 t1 t11 S K:=(tP (hm:=hm) ..).trans (FA x t0 t1 t11 S K)
theorem aGv{l:List Int}{z:Int}:z∈sR l↔z∈l:=by unfold sR;exact(List.mergeSort_perm l _).mem_iff
theorem aIN (l:List Int):(sR l).Pairwise (· <= ·):=by
 unfold sR;refine(List.pairwise_mergeSort (le:=fun x y:Int=>decide (x<=y)) (fun a b c h1 h2=>?_) (fun a b=>?_) l).imp fun h=>BD h
 ·have:=BD h1;have:=BD h2;exact bK (by omega)
 ·rcases Int.le_total a b with h | h
  ·rw [bK h];rfl
  ·rw [bK h,Bool.or_true]
theorem aGw{ms:List Int} (h:GC ms=true):ms.length=4/\∀z∈ms,1<=z/\z<=5:=by
 unfold GC at h;simp only [bT,decide_eq_true_eq]at h;obtain⟨h1,h2,h3,h4⟩:=h;refine⟨h1,fun z hz=>?_⟩;have hl:(sR ms).length=4:=by rw [EA];exact h1
 have hz:=aGv.2 hz;obtain⟨k,hk,rfl⟩:=KU hz;have pw:=Km.1 (aIN ms);rw [NL (by omega)]at h3 h4;constructor
 ·rcases IG k with rfl | h
  ·exact h3
  ·have:=pw 0 k (by omega) hk h;omega
 ·rcases yL k 3 with h | h
  ·have:=pw k 3 hk (by omega) h;omega
  ·obtain rfl:k=3:=by omega
   exact h4
def Bd.iL (ms:List Int) (B:Bd):Bd:={B with qP:=some (B.qP.getD ⟨.start B.ht 4 1 (uP ms B.me+1),[]⟩)}
def Bd.done (ms:List Int) (B:Bd):Bd:=if((B.iL ms).open_ ms).dec=[]then(match((B.iL ms).open_ ms).qP with | some a=>{(B.iL ms).open_ ms with qP:=some (a.Bw [] []).1,dec:=(a.Bw [] []).1.s.dec} | none=>(B.iL ms).open_ ms)else(B.iL ms).open_ ms
theorem aIO{B:Bd}{z:Int}{tx:List UInt8}:(B.RV z tx).me=B.me:=by unfold Bd.RV;split<;>rfl
theorem aGx{ms:List Int}{B:Bd}{m:Ms}:(B.yE ms m).me=B.me:=by unfold Bd.yE;split;rfl;split;exact aIO;rfl
theorem aGy{ms:List Int}{l:List Ms}:∀{B:Bd},(l.foldl (Bd.yE ms) B).me=B.me:=by
 induction l with
 | nil=>intro B;rfl
 | cons m l ih=>intro B;rw [PY,ih,aGx]
theorem aIP{ms:List Int}{B:Bd}:(B.open_ ms).me=B.me:=aGy
theorem aDz{ms:List Int}{l:List Ms}:∀{B:Bd},B.qP.isSome=true->(l.foldl (Bd.yE ms) B).qP.isSome=true:=by
 induction l with
 | nil=>intro B h;exact h
 | cons m l ih=>intro B h;rw [PY];exact ih (aDy h)
theorem aJw{p:Prop}{z:Int}:bH (nz z) (nz z) p=p:=mZ rfl
section
variable{M d:Nat}{x:VE}{S:Hp}{K:KV}{b:Nat}{B:Bd}{sd:Nat->Prop}
theorem aLS:gT aI=none:=rfl
theorem aLT:gT xQ=none:=rfl
theorem aLU:gT wE=none:=rfl
theorem aIQ:gT jP=none:=rfl
theorem aLV (hM:100000<M) (hM2:M<=125000) (hx:Deep PP cM gT M (d+12) x){O Ow:Tag}{ms:List Int} (KA:ms.length<1000) (h:vA S b B sd) (hl:B.kept.length<90000) (pS:∀m∈B.kept,m.kind<256) (hs:OY B.told) (hht:1<=B.ht/\B.ht<=1000) (hme:uP ms B.me= -1)
 (ON:∀a,((B.iL ms).open_ ms).qP=some a->(a.Bw [] []).2=[])
 (CH:(B.dec≠[]\/64<B.ht\/GC ms=false)->K .nil S)
 (If:B.dec=[]->B.ht<=64->GC ms=true->∀S' KN,vA S' b (B.done ms) KN->Ca sd S S' KN->K .nil S'):
 x.call aI [.ptr b 0,.list O (As ms) ms.length,.str [],.list Ow [] 0,.func jM [] []] S K:=by
 refine hx.call aLS fun y hy=>?_;rw [XR];unfold HY;have hm:y.most≠0:=by rw [hy.most];omega
 obtain⟨bv,tv,kv,SB,g,rfl⟩:=h;have Qb:∀{K:KV},aH (.ptr b 14) S K=K (.str B.dec) S:=cD g.row rfl;have Kf:∀{K:KV},aH (.ptr b 13) S K=K (nz B.ht) S:=cD g.row rfl;have Qa:∀{K:KV},aH (.ptr b 12) S K=K (nz B.me) S:=cD g.row rfl;have l5:∀{K:KV},aH (.ptr b 5) S K=K (nz 4) S:=cD g.row rfl;have l6:∀{K:KV},aH (.ptr b 6) S K=K (nz 1) S:=cD g.row rfl;have By:∀{K:KV},aH (.ptr b 15) S K=K bv S:=cD g.row rfl;have q9:∀{k:V->Prop},aE PP .neq 9 (.str B.dec) (.str []) k=k (.bool (!decide (B.dec=[]))):=fun {k}=>rfl;have qh:∀{k:V->Prop},aE PP .gtr 3 (nz B.ht) (.int .i64 (.ofNat 64)) k=k (.bool (decide (64<B.ht))):=fun {k}=>by rw [nR];rfl
 have rest:∀S1 Vw,GC ms=true->B.dec=[]->B.ht<=64->vA S1 b (B.iL ms) Vw->Ca (Own b tv kv SB) S S1 Vw->pH y (.ptr b 0) (.list O (As ms) ms.length) (.str []) (.list Ow [] 0) (.func jM [] []) S1 K:=fun S1 Vw hc hd h64 h1 f1=>by
  have If:=If hd h64 hc;obtain⟨c1,c2⟩:=aGw hc;rw [KM _ hm];unfold oI;refine aQ ?_;refine aLQ (d:=d+6) (B:=B.iL ms) hM hy KA c2 h1 hl pS hs rfl fun S2 sd2 h2 f2=>?_;have OO:((B.iL ms).open_ ms).qP.isSome=true:=aDz rfl;have aLW:((B.iL ms).open_ ms).me=B.me:=aIP;unfold Bd.done at If;generalize (B.iL ms).open_ ms=B2 at h2 OO If ON aLW
  have fin:∀S3 sd3 (B3:Bd),B3.me=B.me->vA S3 b B3 sd3->K .nil S3->gU y (.ptr b 0) (.list O (As ms) ms.length) .nil S3 K:=fun S3 sd3 B3 e3 h3 hK=>by
   rw [GO _ hm];unfold pR;refine aQ ?_;obtain⟨bv3,tv3,kv3,SB3,g3,rfl⟩:=h3;have m14:∀{K:KV},aH (.ptr b 14) S3 K=K (.str B3.dec) S3:=cD g3.row rfl;have m12:∀{K:KV},aH (.ptr b 12) S3 K=K (nz B3.me) S3:=cD g3.row rfl;have q93:∀{k:V->Prop},aE PP .neq 9 (.str B3.dec) (.str []) k=k (.bool (!decide (B3.dec=[]))):=fun {k}=>rfl;rw [bG,aX,m14,q93];cases decide (B3.dec=[])with
   | true=>
    rw [fJ]
    repeat (first | rw [aP] | rw [mW] | rw [dO] | rw [iF] | dsimp only)
    exact aJ hK
   | false=>
    rw [fD]
    repeat (first | rw [aP] | rw [aN] | rw [bG] | rw [aX] | rw [m12] | dsimp only)
    refine hy.call (show gT lM=none from rfl) fun z hz=>?_;rw [zB];unfold qK;refine aAJ (d:=d+9) hz (by omega) (by omega) ?_;rw [e3,hme,nS];refine aJ ?_
    try dsimp only
    rw [show decide (Int.ofNat 0<=(-1:Int))=false from rfl]
    repeat (first | rw [aP] | rw [aN] | rw [gC] | rw [iF] | dsimp only)
    exact aJ hK
  obtain⟨bv2,tv2,kv2,SB2,g2,rfl⟩:=h2;have m14:∀{K:KV},aH (.ptr b 14) S2 K=K (.str B2.dec) S2:=cD g2.row rfl;have m15:∀{K:KV},aH (.ptr b 15) S2 K=K bv2 S2:=cD g2.row rfl;have q92:∀{k:V->Prop},aE PP .eql 9 (.str B2.dec) (.str []) k=k (.bool (decide (B2.dec=[]))):=fun {k}=>rfl;rw [bG,aX,m14,q92];cases e:decide (B2.dec=[])with
  | false=>
   rw [iF];rw [if_neg (KW e)]at If;exact fin S2 _ B2 aLW ⟨bv2,tv2,kv2,SB2,g2,rfl⟩ (If S2 _ ⟨bv2,tv2,kv2,SB2,g2,rfl⟩ (f1.trans f2))
  | true=>
   rw [jS,bG,aX,m15];rw [if_pos (BD e)]at If;obtain⟨me,ht,dec,qP,told,kept⟩:=B2;have gb:=g2.qP;have gnb:=g2.nb;cases gb with
   | no=>cases OO
   | @is q t m a kb=>
    have hn2:=ON a rfl;show y.call jM [.ptr q 0,.str [],.list Ow [] 0] S2 _;refine aO7 (n:=d+3) (may:=[]) (Ow:=Ow) hM hM2 hy kb (by simp) fun S3 c3 kb3 O3=>?_;rw [hn2];have kp:∀j o,¬(j=q\/j=t\/j=m)->S2 j=some o->S3 j=some o:=fun j o h1 h2=>by rw [c3 j (fun c=>h1 (.inl c)) (fun c=>h1 (.inr (.inr c)))];exact h2
    have g3:Brd S3 b {me:=me,ht:=ht,dec:=dec,qP:=some (a.Bw [] []).1,told:=told,kept:=kept} (.ptr q 0) tv2 kv2 (fun j=>j=q\/j=t\/j=m):=by
     refine⟨kp _ _ gnb g2.row,?_,?_,.is kb3,gnb,g2.tna⟩
     ·exact g2.told.but fun j o h1 h2=>kp j o (fun c=>g2.told.aDw g2.qP h1 c) h2
     ·exact g2.kept.but fun j o h1 h2=>kp j o (fun c=>g2.kept.aDw g2.qP h1 c) h2
    have f3:Ca (Own b tv2 kv2 fun j=>j=q\/j=t\/j=m) S2 S3 (Own b tv2 kv2 fun j=>j=q\/j=t\/j=m):=⟨fun j o hn e=>kp j o (fun c=>hn (.inr (.inr (.inr c)))) e,fun j hj=> .inl hj⟩;show fY y y.most (.ptr b 0) (.list O (As ms) ms.length) .nil (.list O3 [] 0) (ni 0) (ni 0) S3 K;obtain⟨p,hp⟩:=eY hm;rw [hp,AZ];unfold rA;refine aQ ?_;have n15:∀{K:KV},aH (.ptr b 15) S3 K=K (.ptr q 0) S3:=cD g3.row rfl;rw [mV,VB (by omega),iF,bG,aX,n15];refine aKP (n:=d+10) aIQ hy kb3.row ?_;refine oH rfl ?_;refine oH rfl ?_;rw [bG,aX,Ig g3.row (bE rfl) rfl];have g4:=g3.setRow (B':={me:=me,ht:=ht,dec:=(a.Bw [] []).1.s.dec,qP:=some (a.Bw [] []).1,told:=told,kept:=kept}) rfl rfl rfl;have f4:Ca (Own b tv2 kv2 fun j=>j=q\/j=t\/j=m) S3 (aR S3 b (.row (pJ {me:=me,ht:=ht,dec:=(a.Bw [] []).1.s.dec,qP:=some (a.Bw [] []).1,told:=told,kept:=kept} (.ptr q 0) tv2 kv2) 82)) (Own b tv2 kv2 fun j=>j=q\/j=t\/j=m):=⟨fun j o hn e=>by rw [aF (fun c=>hn (.inl c))];exact e,fun j hj=> .inl hj⟩;have QQ:(pJ {me:=me,ht:=ht,dec:=dec,qP:=some (a.Bw [] []).1,told:=told,kept:=kept} (.ptr q 0) tv2 kv2).set 14 (.str (a.Bw [] []).1.s.dec)=pJ {me:=me,ht:=ht,dec:=(a.Bw [] []).1.s.dec,qP:=some (a.Bw [] []).1,told:=told,kept:=kept} (.ptr q 0) tv2 kv2:=rfl;rw [QQ];exact fin _ _ {me:=me,ht:=ht,dec:=(a.Bw [] []).1.s.dec,qP:=some (a.Bw [] []).1,told:=told,kept:=kept} aLW ⟨_,_,_,_,g4,rfl⟩ (If _ _ ⟨_,_,_,_,g4,rfl⟩ (((f1.trans f2).trans f3).trans f4))
 rw [aBR];cases e1:decide (B.dec=[])with
 | false=>
  rw [e1,fD]at q9
  repeat (first | rw [aP] | rw [aN] | rw [nM] | rw [bG] | rw [aX] | rw [Qb] | rw [q9] | rw [dO] | rw [gC] | rw [jS] | dsimp only)
  exact aJ (CH (.inl (KW e1)))
 | true=>
  rw [e1,fJ]at q9;cases e2:decide (64<B.ht)with
  | true=>
   rw [e2]at qh
   repeat (first | rw [aP] | rw [aN] | rw [nM] | rw [bG] | rw [aX] | rw [Qb] | rw [Kf] | rw [q9] | rw [qh] | rw [dO] | rw [gC] | rw [jS] | dsimp only)
   exact aJ (CH (.inr (.inl (BD e2))))
  | false=>
   rw [e2]at qh
   repeat (first | rw [aP] | rw [aN] | rw [nM] | rw [bG] | rw [aX] | rw [Qb] | rw [Kf] | rw [q9] | rw [qh] | rw [dO] | rw [gC] | dsimp only)
   refine Vy (d:=d+9) hM hy (by omega) g.row ?_;cases e3:GC ms with
   | false=>
    have nt:∀{k:V->Prop},NX .not (.bool false) k=k (.bool true):=fun {k}=>rfl
    repeat (first | rw [aP] | rw [aN] | rw [nt] | rw [dO] | rw [jS] | dsimp only)
    exact aJ (CH (.inr (.inr e3)))
   | true=>
    have nt:∀{k:V->Prop},NX .not (.bool true) k=k (.bool false):=fun {k}=>rfl;have hd:=BD e1;have h64:B.ht<=64:=by have:=KW e2;omega
    repeat (first | rw [aP] | rw [aN] | rw [nt] | rw [dO] | rw [iF] | rw [bG] | rw [aX] | rw [By] | dsimp only)
    obtain⟨me,ht,dec,qP,told,kept⟩:=B;have gb:=g.qP;cases gb with
    | @is q t m a kb=>
     have ne:∀{k:V->Prop},aE PP .eql 80 (.ptr q 0) .sD k=k (.bool false):=fun {k}=>propext ⟨fun h=>h.2.2.2.2,fun h=>⟨rfl,Gh,.inr rfl,fun e=>absurd e (by decide),h⟩⟩;rw [ne,iF];exact rest S _ e3 hd h64 ⟨_,tv,kv,_,g,rfl⟩ (.refl _ _)
    | no=>
     have ne:∀{k:V->Prop},aE PP .eql 80 .sD .sD k=k (.bool true):=fun {k}=>propext ⟨fun h=>h.2.2.2.2,fun h=>⟨rfl,Gh,.inr rfl,fun _ _ e=>(by cases e),h⟩⟩;rw [ne,jS]
     repeat (first | rw [bG] | rw [aX] | rw [Kf] | rw [l5] | rw [l6] | rw [Qa])
     refine aAJ (d:=d+10) hy (by omega) (by omega) ?_
     have ad:∀{k:V->Prop},aE PP .add 3 (nz (uP ms me)) (.int .i64 (.ofNat 1)) k=k (nz (uP ms me+1)):=fun {k}=>by
      rw [kU]
      congr 2
      have:=aBW (ms:=ms) (z:=me);exact wrap_small (by simp only [jZ];omega) (by simp only [jZ];omega)
     repeat (first | rw [Kf] | rw [l5] | rw [l6] | rw [aJw] | rw [ad])
     have hme:uP ms me= -1:=hme
     have ok:bOk ht 4 1 (uP ms me+1):=by
      rw [hme];exact⟨by omega,⟨hht.1,h64⟩,by omega,by omega,by omega,by omega⟩
     refine aKN (n:=d+9) aLT aLU hy (fun c=>absurd ok c) fun _ m t q hm0 htm ht0 hqt hqm hq0=>?_;refine oH rfl ?_;refine oH rfl ?_
     have le:gA S (aR (aR (aR S m (.map [])) t (.row [.int .i64 4,.tM m] 160)) q (.row (qN (.start ht 4 1 (uP ms me+1)) t) 124)):=
      ((gA.aT hm0).trans (.aT (by rw [aF htm];exact ht0))).trans (.aT (by rw [aF hqt,aF hqm];exact hq0))
     have kb:zJ (aR (aR (aR S m (.map [])) t (.row [.int .i64 4,.tM m] 160)) q (.row (qN (.start ht 4 1 (uP ms me+1)) t) 124)) q t m 124 ⟨.start ht 4 1 (uP ms me+1),[]⟩:=
      ⟨aD,⟨[],⟨by rw [aF (dV hqt)];exact aD,by rw [aF (dV hqm),aF (dV htm)];exact aD⟩,.refl _⟩,kD.start ok,hqt,hqm,htm⟩
     have g1:=g.up le;generalize aR (aR (aR S m (.map [])) t (.row [.int .i64 4,.tM m] 160)) q (.row (qN (.start ht 4 1 (uP ms me+1)) t) 124)=S1 at le kb g1;rw [bG,aX,Ig g1.row (bE rfl) rfl];have nb1:∀j,(j=q\/j=t\/j=m)->S j=none:=fun j hj=>by rcases hj with rfl | rfl | rfl<;>assumption
     have nb0:¬(b=q\/b=t\/b=m):=fun c=>by have:=nb1 _ c;rw [g.row]at this;cases this
     have n1:¬qQ tv b:=g1.told.nat g1.row;have n2:¬qQ kv b:=g1.kept.nat g1.row;refine rest _ (Own b tv kv fun j=>j=q\/j=t\/j=m) e3 hd h64 ⟨.ptr q 0,tv,kv,_,⟨aD,g1.told.set n1,g1.kept.set n2,.is (kb.but fun j p h1 h2=>by rw [aF (fun c=>nb0 (by rw [<-c];exact h1))];exact h2),nb0,g.tna⟩,rfl⟩ ⟨fun j o hn e=>by rw [aF (fun c=>hn (.inl c))];exact le _ _ e,fun j hj=>?_⟩;rcases hj with hj | hj | hj | hj
     ·exact .inl (.inl hj)
     ·exact .inl (.inr (.inl hj))
     ·exact .inl (.inr (.inr (.inl hj)))
     ·exact .inr (nb1 j hj)
end
def oJ (x:VE) (m:Nat) (t0 t1 t5:V) (S:Hp) (K:KV):Prop:=sL PP cM rT x [.r,.r,.l,.r,.d] m [] [t0,t1,t5] S K
def KC (x:VE) (a0 a1:V) (S:Hp) (K:KV):Prop:=
 dJ a0 fun v0=>
 dJ a1 fun v1=>
 aE PP .neq 3 v0 v1 fun v2=>
 pA v2 (bD (.bool false) S K) (oJ x x.most a0 a1 (.int .i64 (.ofNat 0)) S K)
theorem An (x:VE) (a0 a1:V) (S:Hp) (K:KV):pP PP cM rT x [a0,a1] S K=KC x a0 a1 S K:=by kernel_rfl
def rN (x:VE) (m0:Nat) (t0 t1 t5:V) (S:Hp) (K:KV):Prop:=
 jC S fun S=>
 dJ t0 fun v0=>
 aE PP .lss 3 t5 v0 fun v1=>
 pA v1 (kX 1 t0 t5 fun v2=>aH v2 S fun v3 S=>kX 1 t1 t5 fun v4=>aH v4 S fun v5 S=>aE PP .neq 9 v3 v5 fun v6=>pA v6 (bD (.bool false) S K) (aE PP .add 3 t5 (.int .i64 (.ofNat 1)) fun v7=>oJ x m0 t0 t1 v7 S K)) (bD (.bool true) S K)
theorem yA (x:VE) (m0:Nat) (t0 t1 t5:V) (S:Hp) (K:KV):oJ x (m0+1) t0 t1 t5 S K=rN x m0 t0 t1 t5 S K:=by kernel_rfl
def Bd.take (B:Bd) (m:Ms):Bd:=if XW B.ht B.kept m then {B with kept:=B.kept++[m]}else B
def jI (fr ht:Int) (tx:List UInt8):Ms:=⟨5,fr,5,ht,0,0,0,0,0,tx,[]⟩
def strs (l:List (List UInt8)):List Dt:=l.map Dt.str
section
variable{M d:Nat}{x:VE}{S:Hp}{K:KV}{b:Nat}{B:Bd}{sd:Nat->Prop}
theorem aIR:gT zW=none:=rfl
theorem aLX:gT xK=none:=rfl
theorem aLY:gT CN=none:=rfl
theorem aIS:gT FX=none:=rfl
theorem aDA:gT rT=none:=rfl
theorem aBX (hM:100000<M) (hx:Deep PP cM gT M (d+7) x){O:Tag}{m:Ms} (h:vA S b B sd) (hl:B.kept.length<90000) (pS:m.kind<256) (hK:∀v S' KN,vA S' b (B.take m) KN->Ca sd S S' KN->K v S'):x.call lK [.ptr b 0,.agg (pC O m)] S K:=by
 obtain⟨bv,tv,kv,SB,g,rfl⟩:=h;have Pw:gA PK S:=fun j o e=>by cases e
 refine aLB (d:=d) (S0:=PK) (l:=B.kept) hM hx g.row rfl rfl rfl rfl Pw g.kept hl pS (fun e=>?_) fun e u S' _ kp ru DV su=>?_
 ·unfold Bd.take at hK
  rw [e]at hK;exact hK _ S _ ⟨bv,tv,kv,SB,g,rfl⟩ (.refl _ _)
 ·unfold Bd.take at hK
  rw [e]at hK;have n2:¬qQ kv b:=g.kept.nat g.row;refine hK _ S' (Own b tv u SB) ⟨bv,tv,u,SB,⟨ru,?_,?_,?_,g.nb,g.tna⟩,rfl⟩ ⟨fun j o hn e=>kp j o (fun c=>hn (.inl c)) e (fun c=>hn (.inr (.inr (.inl c)))),fun j hj=>?_⟩
  ·exact g.told.but fun j o h1 h2=>kp j o (fun c=>by rw [c]at h1;exact g.told.nat g.row h1) h2 (g.told.ne2 g.kept (by decide) h1)
  ·simp only [if_true,bW];exact su
  ·exact g.qP.but fun j o h1 h2=>kp j o (fun c=>g.nb (by rw [<-c];exact h1)) h2 fun c=>g.kept.aDw g.qP c h1
  ·rcases hj with hj | hj | hj | hj
   ·exact .inl (.inl hj)
   ·exact .inl (.inr (.inl hj))
   ·exact(DV j hj).imp (fun c=> .inr (.inr (.inl c))) id
   ·exact .inl (.inr (.inr (.inr hj)))
theorem aBY:pvS.all tO=true:=rfl
theorem aIT (hx:Deep PP cM gT M (d+1) x) (hK:K (.agg pvS) S):x.call zW [] S K:=by
 refine hx.call aIR fun y hy=>?_;rw [Ib];unfold PT;intro i hi
 have bld:∀{k:V->Prop},k (.agg pvS)->iQ [(.int .u64 (.ofNat 0)),(.int .u64 (.ofNat 0)),(.int .u64 (.ofNat 0)),(.int .u64 (.ofNat 0)),(.int .i64 (.ofNat 0)),(.int .i64 (.ofNat 0)),(.int .i64 (.ofNat 0)),(.int .i64 (.ofNat 0)),(.int .i64 (.ofNat 0)),(.int .i64 (.ofNat 0)),(.int .i64 (.ofNat 0)),(.int .i64 (.ofNat 0))] [(0,1,(.int .u64 (.ofNat 23))),(1,1,(.int .u64 (.ofNat 11))),(2,1,(.int .u64 (.ofNat 4))),(3,1,(.int .u64 (.ofNat 9))),(4,1,(.int .i64 (.ofNat 5))),(5,1,(.int .i64 (.ofNat 4))),(6,1,(.int .i64 (.ofNat 1))),(7,1,(.int .i64 (.ofNat 1))),(8,1,(.int .i64 (.ofNat 1))),(9,1,(.int .i64 (.ofNat 1))),(10,1,(.int .i64 (.ofNat 1))),(11,1,(.int .i64 (.ofNat 1)))] k:=fun {k} hk=>
  ⟨rfl,bE rfl,rfl,bE rfl,rfl,bE rfl,rfl,bE rfl,rfl,bE rfl,rfl,bE rfl,rfl,bE rfl,rfl,bE rfl,rfl,bE rfl,rfl,bE rfl,rfl,bE rfl,rfl,bE rfl,hk⟩
 refine bld ?_;refine nG (cs:=pvS) aD aBY rfl (by rfl) ?_;refine jD (n:=12) (i:=i) aD rfl ?_;rw [fG];exact dZ (.aT hi) hK
theorem aGz (hx:Deep PP cM gT M (d+1) x) (hK:∀O,K (.list O (As [1,2,3,4]) 4) S):x.call CN [] S K:=by
 refine hx.call aLY fun y hy=>?_;rw [Or];unfold UK
 have bld:∀{k:KV},(∀j,S j=none->k (.own j 0 4 4) (aR S j (.row (zvs [1,2,3,4]) 3)))->cQ 3 4 [(.int .i64 (.ofNat 0))] [(0,1,(.int .i64 (.ofNat 1))),(1,1,(.int .i64 (.ofNat 2))),(2,1,(.int .i64 (.ofNat 3))),(3,1,(.int .i64 (.ofNat 4)))] S k:=fun {k} hk=>
  ⟨rfl,bE rfl,rfl,bE rfl,rfl,bE rfl,rfl,bE rfl,hk⟩
 refine bld fun j hj=>?_;refine MX (S':=S) (cs:=As [1,2,3,4]) (.aT hj) (.own aD hj (bN _) (bN _) fun q v d e1 e2=>?_) hK;rw [fK]at e1;unfold zvs at e1;unfold As at e2;rw [lA]at e1 e2;cases hq:[(1:Int),2,3,4][q]? with
 | none=>rw [hq]at e1;cases e1
 | some z=>rw [hq]at e1 e2;injection e1 with e1;injection e2 with e2;subst e1 e2;exact .int
theorem aGA (hx:Deep PP cM gT M (d+1) x){fr ht:Int}{tx:List UInt8} (hK:∀O,K (.agg (pC O (jI fr ht tx))) S):x.call xK [nz fr,nz ht,.str tx] S K:=by
 refine hx.call aLX fun y hy=>?_;rw [Oq];unfold UJ;intro i hi
 have bld:∀{k:V->Prop},k (.agg [n8 5,nz fr,nz 5,nz ht,ni 0,ni 0,ni 0,ni 0,ni 0,.str tx,.nil])->iQ [(.int .u8 (.ofNat 0)),(.int .i64 (.ofNat 0)),(.int .i64 (.ofNat 0)),(.int .i64 (.ofNat 0)),(.int .i64 (.ofNat 0)),(.int .i64 (.ofNat 0)),(.int .i64 (.ofNat 0)),(.int .i64 (.ofNat 0)),(.int .i64 (.ofNat 0)),(.string ⟨⟨[]⟩⟩),(.slice none 0 0)] [(0,1,(.int .u8 (.ofNat 5))),(1,1,nz fr),(2,1,(.int .i64 (.ofNat 5))),(3,1,nz ht),(9,1,.str tx)] k:=fun {k} hk=>
  ⟨rfl,bE rfl,rfl,bE rfl,rfl,bE rfl,rfl,bE rfl,rfl,bE rfl,hk⟩
 refine bld ?_;refine nG (cs:=[n8 5,nz fr,nz 5,nz ht,ni 0,ni 0,ni 0,ni 0,ni 0,.str tx,.nil]) aD rfl rfl (by rfl) ?_;refine jD (n:=11) (i:=i) aD rfl ?_;rw [fG];refine⟨S,fun O=> .agg (pC (O 10) (jI fr ht tx)),.aT hi,fun O=> .agg ⟨rfl,fun q v u e1 e2=>?_⟩,fun O=>hK _⟩
 match q with
 | 0 | 1 | 2 | 3 | 4 | 5 | 6 | 7 | 8 | 9=>injection e1 with e1;injection e2 with e2;subst e1 e2;exact .rK _
 | 10=>injection e1 with e1;injection e2 with e2;subst e1 e2;exact .dat (d:= .list [] 0) .nil
 | q+11=>cases e1
def bd0:Bd:={me:=5,ht:=1,dec:=[],qP:=none,told:=[],kept:=[]}
theorem aLZ (hx:Deep PP cM gT M (d+2) x) (hK:∀b S' KN,vA S' b bd0 KN->gA S S'->(∀j,KN j->S j=none)->K (.tuple [.ptr b 0,ni 0]) S'):x.call FX [.agg pvS,.int .i64 (.ofNat 5)] S K:=by
 refine hx.call aIS fun y hy=>?_;rw [Ux];unfold ZJ;refine mB aBY fun a ha=>?_;have iM:gA S (aR S a (.row pvS 31)):= .aT ha;have ra:aR S a (.row pvS 31) a=some (.row pvS 31):=aD;generalize aR S a (.row pvS 31)=S1 at iM ra;refine jD (n:=12) (i:=a) ra rfl ?_;refine hy.GL (g:=aLF) rfl ⟨rfl,?_⟩;have l4:∀{K:KV},aH (.ptr a 4) S1 K=K (ni 5) S1:=cD ra rfl;have nt:∀{k:V->Prop},NX .not (.bool true) k=k (.bool false):=fun {k}=>rfl;have c1:∀{k:V->Prop},aE PP .lss 3 (.int .i64 (.ofNat 5)) (.int .i64 (.ofNat 0)) k=k (.bool false):=fun {k}=>by rw [cI];rfl
 have c2:∀{k:V->Prop},aE PP .gtr 3 (.int .i64 (.ofNat 5)) (ni 5) k=k (.bool false):=fun {k}=>by rw [nR];rfl
 repeat (first | rw [nt] | rw [aP] | rw [aN] | rw [dO] | rw [aX] | rw [c1] | rw [c2] | rw [l4] | rw [iF] | dsimp only)
 refine jD (n:=12) (i:=a) ra rfl ?_
 have bld:∀{k:V->Prop},k (.agg (pJ bd0 .sD .nil .nil))->iQ [(.int .u64 (.ofNat 0)),(.int .u64 (.ofNat 0)),(.int .u64 (.ofNat 0)),(.int .u64 (.ofNat 0)),(.int .i64 (.ofNat 0)),(.int .i64 (.ofNat 0)),(.int .i64 (.ofNat 0)),(.int .i64 (.ofNat 0)),(.int .i64 (.ofNat 0)),(.int .i64 (.ofNat 0)),(.int .i64 (.ofNat 0)),(.int .i64 (.ofNat 0)),(.int .i64 (.ofNat 0)),(.int .i64 (.ofNat 0)),(.string ⟨⟨[]⟩⟩),(.pointer none),(.slice none 0 0),(.slice none 0 0)] [(0,12,.agg pvS),(12,1,(.int .i64 (.ofNat 5))),(13,1,(.int .i64 (.ofNat 1)))] k:=fun {k} hk=>
  ⟨rfl,rfl,bE rfl,rfl,bE rfl,rfl,bE rfl,hk⟩
 refine bld ?_;refine mB rfl fun c hc=>?_;have pT:gA S1 (aR S1 c (.row (pJ bd0 .sD .nil .nil) 82)):= .aT hc;refine aJ (hK c _ (Own c .nil .nil fun _=>False) ⟨.sD,.nil,.nil,_,⟨aD,.nil,.nil,.no,fun c=>c,fun _ _ _ _ _ e=>by cases e⟩,rfl⟩ (iM.trans pT) fun j hj=>?_);rcases hj with hj | hj | hj | hj
 ·subst hj;exact iM.none hc
 ·cases hj
 ·cases hj
 ·cases hj
theorem aDB (hM:100000<M) (hx:Deep PP cM gT M (d+1) x){S0:Hp}{v:V}{O:Tag}{l:List (List UInt8)} (h:SL 9 1 S0 S v (strs l) l.length) (hl:l.length<100000) (hK:K (.bool true) S):x.call rT [v,.list O (strs l) l.length] S K:=by
 refine hx.call aDA fun y hy=>?_;rw [An];unfold KC;have g:∀{k:V->Prop},dJ (.list O (strs l) l.length) k=k (ni l.length):=fun {k}=>rfl;rw [h.len,g,zK,show(!decide (l.length=l.length))=false by simp,iF,hy.most]
 have go:∀(q i k:Nat),i+q=l.length->q<k->oJ y k v (.list O (strs l) l.length) (ni i) S K:=by
  intro q;induction q with
  | zero=>
   intro i k hi hk;obtain⟨k,rfl⟩:=eY (show k≠0 by omega);rw [yA];unfold rN;refine aQ ?_;rw [h.len,mV,VB (by omega),iF];exact aJ hK
  | succ q ih=>
   intro i k hi hk;obtain⟨k,rfl⟩:=eY (show k≠0 by omega);rw [yA];unfold rN;refine aQ ?_;have DW:i<l.length:=by omega
   have e1:(strs l)[i]? =some (.str l[i]):=by unfold strs;rw [lA,aS DW];rfl
   have ld:∀{K:KV},(kX 1 v (ni i) fun p=>aH p S K)=K (.str l[i]) S:=fun {K}=>by
    generalize hn:l.length=n at h;generalize hd:strs l=ds at h;cases h with
    | nil=>omega
    | own=>omega
    | @acc b _ vs _ h0 h Ac Ae hv=>
     obtain⟨t,q⟩:=hv i _ (by rw [<-hd];exact e1);have a1:(kX 1 (.acc b n) (ni i) fun p=>aH p S K)=(i<n/\aH (.nZ b n (i*1)) S K):=rfl;rw [a1,sA]
     have a2:aH (.nZ b n i) S K=K (.str l[i]) S:=by
      unfold aH;simp only [h];rw [lJ q];exact propext ⟨fun q=>q.2,fun q=>⟨trivial,q⟩⟩
     rw [a2];exact propext ⟨fun q=>q.2,fun q=>⟨by omega,q⟩⟩
    | @pO b m _ vs _ h0 h Ac hnm Ae hv=>
     obtain⟨t,q⟩:=hv i _ (by rw [<-hd];exact e1);have a1:(kX 1 (.pO b m 0 n m) (ni i) fun p=>aH p S K)=(i<n/\aH (.nZ b m (0+i*1)) S K):=rfl;rw [a1,sA,fK]
     have a2:aH (.nZ b m i) S K=K (.str l[i]) S:=by
      unfold aH;simp only [h];rw [lJ q];exact propext ⟨fun q=>q.2,fun q=>⟨trivial,q⟩⟩
     rw [a2];exact propext ⟨fun q=>q.2,fun q=>⟨by omega,q⟩⟩
   rw [h.len,mV,dlt DW,jS,ld,RD DW,ZE,sA,lJ e1];show aE PP .neq 9 (.str l[i]) (.str l[i]) _;rw [show ∀{k:V->Prop},aE PP .neq 9 (.str l[i]) (.str l[i]) k=k (.bool (!decide (l[i]=l[i])))from fun {k}=>rfl,show(!decide (l[i]=l[i]))=false by simp,iF,qO (by omega)];exact ih (i+1) k (by omega) (by omega)
 exact go l.length 0 M (by omega) (by omega)
end
def gL (x:VE) (m:Nat) (t0 t2 t3 t9 t11 t12 t13:V) (S:Hp) (K:KV):Prop:=sL PP cM gI x [.r,.r,.r,.r,.r,.r,.l,.r,.d] m [] [t0,t2,t3,t9,t11,t12,t13] S K
def eE (x:VE) (m:Nat) (t0 t2 t3 t9 t12 t14 t15:V) (S:Hp) (K:KV):Prop:=sL PP cM gI x [.r,.r,.r,.r,.r,.r,.r,.r,.l,.r,.d] m [] [t0,t2,t3,t9,t12,t14,t15] S K
def fX (x:VE) (m0:Nat) (t0 t2 t3 t9 t12 t14 t15:V) (S:Hp) (K:KV):Prop:=EC PP cM gI x [.r,.r,.r,.r,.r,.r,.r,.r,.l,.r,.d,.d,.r,.l,.d,.r] [m0] [t0,t2,t3,t9,t12,t14,t15] S K
def eX (x:VE) (m:Nat) (m0:Nat) (t0 t2 t3 t9 t12 t14 t15:V) (S:Hp) (K:KV):Prop:=sL PP cM gI x [.r,.r,.r,.r,.r,.r,.r,.r,.l,.r,.d,.d,.r,.l,.d,.r,.r,.r,.r,.d] m [m0] [t0,t2,t3,t9,t12,t14,t15] S K
def GA (x:VE) (a0 a1 a2 a3:V) (S:Hp) (K:KV):Prop:=
 dJ a0 fun v0=>
 aE PP .gtr 3 v0 (.int .i64 (.ofNat 8)) fun v1=>
 aC x.most (aB false v1 (fun k=>k a3 S) S fun v2 S=>aC x.most (aB false v1 (fun k=>dJ v2 fun v3=>k v3 S) S fun v4 S=>aC x.most (aB false v1 (fun k=>aE PP .gtr 3 v4 (.int .i64 (.ofNat 30)) fun v5=>k v5 S) S fun v6 S=>aC x.most (cK v1 (.bool true) v6 fun v7=>aC x.most (aB false v7 (fun k=>x.call zV [] S fun v8 S=>k v8 S) S fun v9 S=>aC x.most (aB false v7 (fun k=>NX .not v9 fun v10=>k v10 S) S fun v11 S=>aC x.most (cK v7 (.bool true) v11 fun v12=>pA v12 (x.call zV [] S fun pB S=>bD pB S K) (x.call zW [] S fun pU S=>x.call FX [pU,(.int .i64 (.ofNat 5))] S fun qS S=>pY 0 qS fun sV=>pY 1 qS fun v17=>aE PP .neq 26 v17 (.int .i64 (.ofNat 0)) fun xS=>pA xS (bD (.bool false) S K) (cQ 3 2 [(.int .i64 (.ofNat 0))] [(0,1,(.int .i64 (.ofNat 1))),(1,1,(.int .i64 (.ofNat 2)))] S fun yH S=>cQ 3 2 [(.int .i64 (.ofNat 0))] [(0,1,(.int .i64 (.ofNat 1))),(1,1,(.int .i64 (.ofNat 3)))] S fun v20 S=>cQ 3 2 [(.int .i64 (.ofNat 0))] [(0,1,(.int .i64 (.ofNat 2))),(1,1,(.int .i64 (.ofNat 3)))] S fun v21 S=>cQ 33 3 [(.slice none 0 0)] [(0,1,yH),(1,1,v20),(2,1,v21)] S fun v22 S=>aE PP .rem 5 a1 (.int .u8 (.ofNat 3)) fun v23=>kX 1 v22 v23 fun v24=>aH v24 S fun v25 S=>gL x x.most a0 a2 a3 sV v25 .nil (.int .i64 (.ofNat 0)) S K)))))))))
theorem UV (x:VE) (a0 a1 a2 a3:V) (S:Hp) (K:KV):pP PP cM gI x [a0,a1,a2,a3] S K=GA x a0 a1 a2 a3 S K:=by kernel_rfl
def mU (x:VE) (m0:Nat) (t0 t2 t3 t9 t11 t12 t13:V) (S:Hp) (K:KV):Prop:=
 jC S fun S=>
 dJ t0 fun v0=>
 aE PP .lss 3 t13 v0 fun v1=>
 pA v1 (kX 1 t0 t13 fun v2=>aH v2 S fun v3 S=>aE PP .eql 9 v3 (.str []) fun v4=>aC x.most (aB false v4 (fun k=>k t0 S) S fun v5 S=>aC x.most (aB false v4 (fun k=>k t13 S) S fun v6 S=>aC x.most (aB false v4 (fun k=>kX 1 v5 v6 fun v7=>k v7 S) S fun v8 S=>aC x.most (aB false v4 (fun k=>aH v8 S fun v9 S=>k v9 S) S fun v10 S=>aC x.most (aB false v4 (fun k=>uD v10 fun v11=>k v11 S) S fun v12 S=>aC x.most (aB false v4 (fun k=>aE PP .gtr 3 v12 (.int .i64 (.ofNat 500)) fun pB=>k pB S) S fun pU S=>aC x.most (cK v4 (.bool true) pU fun qS=>pA qS (bD (.bool true) S K) (kX 1 t11 (.int .i64 (.ofNat 0)) fun sV=>aH sV S fun v17 S=>aE PP .add 3 t13 (.int .i64 (.ofNat 1)) fun xS=>kX 1 t0 t13 fun yH=>aH yH S fun v20 S=>kX 1 t11 (.int .i64 (.ofNat 1)) fun v21=>aH v21 S fun v22 S=>aE PP .add 3 t13 (.int .i64 (.ofNat 1)) fun v23=>kX 1 t0 t13 fun v24=>aH v24 S fun v25 S=>x.call xK [v17,xS,v20] S fun v26 S=>aH v24 S fun CP _=>bH CP v25 (aH v21 S fun v28 _=>bH v28 v22 (x.call xK [v22,v23,v25] S fun JG S=>(cQ 37 2 [(.int .u8 (.ofNat 0)),(.int .i64 (.ofNat 0)),(.int .i64 (.ofNat 0)),(.int .i64 (.ofNat 0)),(.int .i64 (.ofNat 0)),(.int .i64 (.ofNat 0)),(.int .i64 (.ofNat 0)),(.int .i64 (.ofNat 0)),(.int .i64 (.ofNat 0)),(.string ⟨⟨[]⟩⟩),(.slice none 0 0)] [(0,11,v26),(11,11,JG)] S fun v30 S=>True)/\(cQ 37 2 [(.int .u8 (.ofNat 0)),(.int .i64 (.ofNat 0)),(.int .i64 (.ofNat 0)),(.int .i64 (.ofNat 0)),(.int .i64 (.ofNat 0)),(.int .i64 (.ofNat 0)),(.int .i64 (.ofNat 0)),(.int .i64 (.ofNat 0)),(.int .i64 (.ofNat 0)),(.string ⟨⟨[]⟩⟩),(.slice none 0 0)] [(0,11,v26),(11,11,JG)] S fun v31 S=>sE 37 11 112 t12 v31 S fun v32 S=>aE PP .add 3 t13 (.int .i64 (.ofNat 1)) fun v33=>gL x m0 t0 t2 t3 t9 t11 v32 v33 S K)))))))))))) (eE x x.most t0 t2 t3 t9 t12 .nil (.int .i64 (.ofNat 0)) S K)
theorem rV (x:VE) (m0:Nat) (t0 t2 t3 t9 t11 t12 t13:V) (S:Hp) (K:KV):gL x (m0+1) t0 t2 t3 t9 t11 t12 t13 S K=mU x m0 t0 t2 t3 t9 t11 t12 t13 S K:=by kernel_rfl
def lP (x:VE) (m0:Nat) (t0 t2 t3 t9 t12 t14 t15:V) (S:Hp) (K:KV):Prop:=
 jC S fun S=>
 dJ t12 fun v0=>
 aE PP .gtr 3 v0 (.int .i64 (.ofNat 0)) fun v1=>
 pA v1 (dJ t3 fun v2=>aE PP .lss 3 t15 v2 fun v3=>aC x.most (aB true v3 (fun k=>k t3 S) S fun v4 S=>aC x.most (aB true v3 (fun k=>k t15 S) S fun v5 S=>aC x.most (aB true v3 (fun k=>kX 11 v4 v5 fun v6=>k v6 S) S fun v7 S=>aC x.most (aB true v3 (fun k=>aL 9 v7 fun v8=>k v8 S) S fun v9 S=>aC x.most (aB true v3 (fun k=>aH v9 S fun v10 S=>k v10 S) S fun v11 S=>aC x.most (aB true v3 (fun k=>uD v11 fun v12=>k v12 S) S fun pB S=>aC x.most (aB true v3 (fun k=>aE PP .lss 3 pB (.int .i64 (.ofNat 500)) fun pU=>k pU S) S fun qS S=>aC x.most (cK v3 qS (.bool false) fun sV=>aC x.most (aB true sV (fun k=>k t3 S) S fun v17 S=>aC x.most (aB true sV (fun k=>k t15 S) S fun xS S=>aC x.most (aB true sV (fun k=>kX 11 v17 xS fun yH=>k yH S) S fun v20 S=>aC x.most (aB true sV (fun k=>aL 10 v20 fun v21=>k v21 S) S fun v22 S=>aC x.most (aB true sV (fun k=>aH v22 S fun v23 S=>k v23 S) S fun v24 S=>aC x.most (aB true sV (fun k=>dJ v24 fun v25=>k v25 S) S fun v26 S=>aC x.most (aB true sV (fun k=>aE PP .lss 3 v26 (.int .i64 (.ofNat 50)) fun CP=>k CP S) S fun v28 S=>aC x.most (cK sV v28 (.bool false) fun JG=>pA JG (kX 11 t3 t15 fun v30=>iP 11 v30 S fun v31 S=>gZ [(.int .u8 (.ofNat 0)),(.int .i64 (.ofNat 0)),(.int .i64 (.ofNat 0)),(.int .i64 (.ofNat 0)),(.int .i64 (.ofNat 0)),(.int .i64 (.ofNat 0)),(.int .i64 (.ofNat 0)),(.int .i64 (.ofNat 0)),(.int .i64 (.ofNat 0)),(.string ⟨⟨[]⟩⟩),(.slice none 0 0)] 37 S fun v32 S=>sU 11 v32 v31 S fun S=>aL 1 v32 fun v33=>sU 1 v33 (.int .i64 (.ofNat 4)) S fun S=>iP 11 v32 S fun BV S=>x.call lK [t9,BV] S fun v35 S=>fX x m0 t0 t2 t3 t9 t12 t14 t15 S K) (fX x m0 t0 t2 t3 t9 t12 t14 t15 S K)))))))))))))))))) (x.call rT [t14,t0] S fun KJ S=>bD KJ S K)
theorem qM (x:VE) (m0:Nat) (t0 t2 t3 t9 t12 t14 t15:V) (S:Hp) (K:KV):eE x (m0+1) t0 t2 t3 t9 t12 t14 t15 S K=lP x m0 t0 t2 t3 t9 t12 t14 t15 S K:=by kernel_rfl
def jH (x:VE) (m0:Nat) (t0 t2 t3 t9 t12 t14 t15:V) (S:Hp) (K:KV):Prop:=
 jC S fun S=>
 aE PP .mul 3 (.int .i64 (.ofNat 7)) t15 fun v0=>
 aE PP .add 3 t2 v0 fun v1=>
 GK .u64 v1 fun v2=>
 dJ t12 fun v3=>
 GK .u64 v3 fun v4=>
 aE PP .rem 40 v2 v4 fun v5=>
 GK .i64 v5 fun v6=>
 kX 11 t12 v6 fun v7=>
 iP 11 v7 S fun v8 S=>
 x.call lK [t9,v8] S fun v9 S=>
 JB 37 11 t12 none (some v6) none S fun v10=>
 aE PP .add 3 v6 (.int .i64 (.ofNat 1)) fun v11=>
 JB 37 11 t12 (some v11) none none S fun v12=>
 (cQ 37 0 [(.int .u8 (.ofNat 0)),(.int .i64 (.ofNat 0)),(.int .i64 (.ofNat 0)),(.int .i64 (.ofNat 0)),(.int .i64 (.ofNat 0)),(.int .i64 (.ofNat 0)),(.int .i64 (.ofNat 0)),(.int .i64 (.ofNat 0)),(.int .i64 (.ofNat 0)),(.string ⟨⟨[]⟩⟩),(.slice none 0 0)] [] S fun pB S=>True)/\(cQ 37 0 [(.int .u8 (.ofNat 0)),(.int .i64 (.ofNat 0)),(.int .i64 (.ofNat 0)),(.int .i64 (.ofNat 0)),(.int .i64 (.ofNat 0)),(.int .i64 (.ofNat 0)),(.int .i64 (.ofNat 0)),(.int .i64 (.ofNat 0)),(.int .i64 (.ofNat 0)),(.string ⟨⟨[]⟩⟩),(.slice none 0 0)] [] S fun pU S=>sE 37 11 112 pU v10 S fun qS S=>sE 37 11 112 qS v12 S fun sV S=>eX x x.most m0 t0 t2 t3 t9 sV t14 t15 S K)
theorem uN (x:VE) (m0:Nat) (t0 t2 t3 t9 t12 t14 t15:V) (S:Hp) (K:KV):BU PP cM gI x [.r,.r,.r,.r,.r,.r,.r,.r,.l,.r,.d,.d,.r,.l,.d,.r] [m0] [t0,t2,t3,t9,t12,t14,t15] S K=jH x m0 t0 t2 t3 t9 t12 t14 t15 S K:=by kernel_rfl
theorem uZ (x:VE) (hm:x.most≠0) (m0:Nat) (t0 t2 t3 t9 t12 t14 t15:V) (S:Hp) (K:KV):fX x m0 t0 t2 t3 t9 t12 t14 t15 S K=jH x m0 t0 t2 t3 t9 t12 t14 t15 S K:=(tP (hm:=hm) ..).trans (uN x m0 t0 t2 t3 t9 t12 t14 t15 S K)
def gP (x:VE) (m1:Nat) (m0:Nat) (t0 t2 t3 t9 t12 t14 t15:V) (S:Hp) (K:KV):Prop:=
 jC S fun S=>
 x.call CN [] S fun v0 S=>
 x.call tX [t9,v0,(.str []),.nil] S fun v1 S=>
 dJ v1 fun v2=>
 aE PP .neq 3 v2 (.int .i64 (.ofNat 0)) fun v3=>
 pA v3 (bD (.bool false) S K) (x.call rL [t9] S fun v4 S=>pY 0 v4 fun v5=>pY 1 v4 fun v6=>NX .not v6 fun v7=>pA v7 (aE PP .add 3 t15 (.int .i64 (.ofNat 1)) fun v8=>eE x m0 t0 t2 t3 t9 t12 t14 v8 S K) (cQ 9 1 [(.string ⟨⟨[]⟩⟩)] [(0,1,v5)] S fun v9 S=>sE 9 1 16 t14 v9 S fun v10 S=>eX x m1 m0 t0 t2 t3 t9 t12 v10 t15 S K))
theorem lS (x:VE) (m1:Nat) (m0:Nat) (t0 t2 t3 t9 t12 t14 t15:V) (S:Hp) (K:KV):eX x (m1+1) m0 t0 t2 t3 t9 t12 t14 t15 S K=gP x m1 m0 t0 t2 t3 t9 t12 t14 t15 S K:=by kernel_rfl
abbrev KO:List Int:=[1,2,3,4]
def GP (B:Bd):Bd:=if(decide (B.dec=[])&&decide (B.ht<=64))&&GC KO then B.done KO else B
structure BOk (B:Bd):Prop where
 len:B.kept.length<80000
 kind:∀m∈B.kept,m.kind<256
 OX:OY B.told
 ht:1<=B.ht/\B.ht<=1000
 me:B.me=5
 nil:∀a,((B.iL KO).open_ KO).qP=some a->(a.Bw [] []).2=[]
inductive InR:Nat->Bd->List (List UInt8)->Bd->List (List UInt8)->Prop
 | stop {B:Bd} {log:List (List UInt8)} (ok:BOk B) (h:(GP B).dec=[]) (hk:(GP B).kept.length<80000) (hht:0<=(GP B).ht/\(GP B).ht<1000) (n:Nat):InR (n+1) B log (GP B) log
 | go {n:Nat} {B B':Bd} {log Gw:List (List UInt8)} (ok:BOk B) (h:(GP B).dec≠[]) (hk:(GP B).kept.length<80000) (hht:0<=(GP B).ht/\(GP B).ht<1000) (h2:InR n (GP B).next (log++[(GP B).dec]) B' Gw):InR (n+1) B log B' Gw
theorem vA.some_{S:Hp}{b:Nat}{B:Bd}{sd:Nat->Prop} (h:vA S b B sd){j:Nat} (hj:sd j):∃o,S j=some o:=by
 obtain⟨bv,tv,kv,SB,g,rfl⟩:=h;exact g.some_ hj
theorem vA.but{S S':Hp}{b:Nat}{B:Bd}{sd:Nat->Prop} (h:vA S b B sd) (hs:∀j o,sd j->S j=some o->S' j=some o):vA S' b B sd:=by
 obtain⟨bv,tv,kv,SB,g,rfl⟩:=h;exact⟨bv,tv,kv,SB,g.but hs,rfl⟩
section
variable{M d n:Nat}{x:VE}{S:Hp}{K:KV}{b:Nat}{B:Bd}{sd:Nat->Prop}
theorem aNz (hx:Deep PP cM gT M (n+1) x){f:FuncId} (hf:gT f=none){args:List V}{us:(Nat->Tag)->List V} (hz:∀O,FzL S S O args (us O)) (h:∀O y,Deep PP cM gT M n y->pP PP cM f y (us O) S K):x.call f args S K:=by
 obtain⟨_,_,y,hy,hC,_⟩:=hx;exact⟨S,us,.refl S,hz,fun O=>by rw [hC f hf];exact h O y hy⟩
theorem aNA:gT tX=none:=rfl
theorem aNB:GC KO=true:=by
 have e:sR KO=[1,2,3,4]:=by unfold sR;exact List.mergeSort_of_pairwise (by decide)
 unfold GC;rw [e];decide
theorem Wc (hM:100000<M) (hM2:M<=125000) (hx:Deep PP cM gT M (d+13) x){O:Tag} (h:vA S b B sd) (ok:BOk B) (hK:∀S' KN,vA S' b (GP B) KN->Ca sd S S' KN->K .nil S'):x.call tX [.ptr b 0,.list O (As KO) 4,.str [],.nil] S K:=by
 refine aNz hx aNA (us:=fun O'=>[.ptr b 0,.list O (As KO) 4,.str [],.list (O' 3) [] 0]) (fun O'=>⟨rfl,fun q v u e1 e2=>?_⟩) fun O' y hy=>?_
 ·match q with
  | 0 | 1 | 2=>injection e1 with e1;injection e2 with e2;subst e1 e2;exact .rK _
  | 3=>injection e1 with e1;injection e2 with e2;subst e1 e2;exact .dat (d:= .list [] 0) .nil
  | q+4=>cases e1
 rw [XP];unfold HQ;have hk:=ok.len;refine aLV (d:=d) (ms:=KO) hM hM2 hy (by decide) h (by omega) ok.kind ok.OX ok.ht (by rw [ok.me];rfl) ok.nil (fun e=>?_) fun e1 e2 e3 S' KN h' f'=>?_
 ·refine aJ (hK S sd ?_ (.refl _ _))
  have:GP B=B:=by
   unfold GP;rw [if_neg];intro c;simp only [bT,decide_eq_true_eq]at c;rcases e with e | e | e
   ·exact e c.1.1
   ·have:=c.1.2;omega
   ·rw [e]at c;cases c.2
  rw [this];exact h
 ·refine aJ (hK S' KN ?_ f')
  have:GP B=B.done KO:=by
   unfold GP;rw [if_pos (by rw [bK e1,bK e2,e3];rfl)]
  rw [this];exact h'
theorem aIU (hs:gA PK S){v:V}{log:List (List UInt8)}{tx:List UInt8} (h:SL 9 1 PK S v (strs log) log.length) (hl:log.length<100000)
 (hk:∀u S',(∀j o,S j=some o->¬qQ v j->S' j=some o)->(∀j,qQ u j->qQ v j\/S j=none)->SL 9 1 PK S' u (strs (log++[tx])) (log++[tx]).length->K u S'):cQ 9 1 [(.string ⟨⟨[]⟩⟩)] [(0,1,.str tx)] S fun v9 S=>sE 9 1 16 v v9 S K:=by
 have bld:∀{k:KV},(∀j,S j=none->k (.own j 0 1 1) (aR S j (.row [.str tx] 9)))->cQ 9 1 [(.string ⟨⟨[]⟩⟩)] [(0,1,.str tx)] S k:=fun {k} hk=>⟨rfl,bE rfl,hk⟩;refine bld fun j hj=>?_;have De:gA S (aR S j (.row [.str tx] 9)):= .aT hj;have nj:=h.Vu hj;refine(h.up De).apps (m:=0) (us:=[.str tx]) (new:=[.str tx]) (hs.trans De) (by omega) (by omega) (.cons (.root 0) _ .nil) rfl (.inl rfl) (by decide) (fun {K} hK=>HM (m:=1) aD rfl hK) fun u S' e1 e2 e3 e4 _=>?_;refine hk u S' (fun q o e CH=>e2 q o (De _ _ e) CH) (fun q e=>(e3 q e).elim .inl fun c=> .inr (De.none c)) ?_;unfold strs at e4 ⊢;rw [List.map_append,bW];exact e4
end
section
variable{M d:Nat}{x:VE}{K:KV}{b:Nat}
theorem aIV (hM:100000<M) (hM2:M<=125000) (hx:Deep PP cM gT M (d+13) x){t0 t2 t3 t12 t15:V}{m0:Nat}{n:Nat}{B B':Bd}{log Gw:List (List UInt8)} (h:InR n B log B' Gw):
 ∀(k:Nat) (S:Hp) (sd:Nat->Prop) (lv:V),n<=k->log.length+n<90000->vA S b B sd->SL 9 1 PK S lv (strs log) log.length->(∀j,qQ lv j->¬sd j)->
  (∀S' KN lv',vA S' b B' KN->SL 9 1 PK S' lv' (strs Gw) Gw.length->(∀j,qQ lv' j->¬KN j)->(∀j o,S j=some o->¬sd j->¬qQ lv j->S' j=some o)->(∀j,KN j\/qQ lv' j->sd j\/qQ lv j\/S j=none)->(aE PP .add 3 t15 (.int .i64 (.ofNat 1)) fun v8=>eE x m0 t0 t2 t3 (.ptr b 0) t12 lv' v8 S' K))->
  eX x k m0 t0 t2 t3 (.ptr b 0) t12 lv t15 S K:=by
 induction h with
 | @stop B log ok hd hkl hht n=>
  intro k S sd lv hk hlen hB hL Ry hK;obtain⟨k,rfl⟩:=eY (show k≠0 by omega);rw [lS];unfold gP;refine aQ ?_;refine aGz (d:=d+12) hx fun O=>?_;refine Wc (d:=d) hM hM2 hx hB ok fun S1 Vw h1 f1=>?_;rw [NY,kT,show(!decide (Int.ofNat 0=Int.ofNat 0))=false by simp,iF];obtain⟨bv,tv,kv,SB,g,rfl⟩:=h1;refine aGm (d:=d+9) hM hx ⟨bv,tv,kv,SB,g,rfl⟩ (by omega) (by omega) (fun _=>?_) fun c=>absurd hd c;refine oH rfl ?_;refine oH rfl ?_;rw [show ∀{b:Bool} {k:V->Prop},NX .not (.bool b) k=k (.bool (!b))from fun {b k}=>rfl,fD];rw [jS];refine hK S1 _ lv ⟨bv,tv,kv,SB,g,rfl⟩ (hL.but fun j o h1 h2=>f1.rK j o (Ry j h1) h2) (fun j hj c=>?_) (fun j o e h1 h2=>f1.rK j o h1 e) (fun j hj=>?_)
  ·rcases f1.new j c with c | c
   ·exact Ry j hj c
   ·exact hL.Vu c hj
  ·rcases hj with hj | hj
   ·exact(f1.new j hj).imp id .inr
   ·exact .inr (.inl hj)
 | @go n B B' log Gw ok hd hkl hht h2 ih=>
  intro k S sd lv hk hlen hB hL Ry hK;obtain⟨k,rfl⟩:=eY (show k≠0 by omega);rw [lS];unfold gP;refine aQ ?_;refine aGz (d:=d+12) hx fun O=>?_;refine Wc (d:=d) hM hM2 hx hB ok fun S1 Vw h1 f1=>?_;rw [NY,kT,show(!decide (Int.ofNat 0=Int.ofNat 0))=false by simp,iF];refine aGm (d:=d+9) hM hx h1 (by omega) (by omega) (fun c=>absurd c hd) fun _ S2 sd2 h2 f2=>?_;refine oH rfl ?_;refine oH rfl ?_;rw [show ∀{b:Bool} {k:V->Prop},NX .not (.bool b) k=k (.bool (!b))from fun {b k}=>rfl,fJ];rw [iF];have f12:=f1.trans f2;have Df:SL 9 1 PK S2 lv (strs log) log.length:=hL.but fun j o h1 h2=>f12.rK j o (Ry j h1) h2;have hd2:∀j,qQ lv j->¬sd2 j:=fun j hj c=>(f12.new j c).elim (Ry j hj) fun c=>hL.Vu c hj;refine aIU (fun j o e=>by cases e) Df (by omega) fun u S3 e2 e3 e4=>?_;refine ih k S3 sd2 u (by omega) (by simp only [bW,rZ,PZ];omega) (h2.but fun j o h1 h2=>e2 j o h2 fun c=>hd2 j c h1) e4 (fun j hj c=>?_) fun S' KN lv' h1 h2' h3 h4 h5=>?_
  ·rcases e3 j hj with q | q
   ·exact hd2 j q c
   ·obtain⟨o,e⟩:=h2.some_ c
    rw [q]at e;cases e
  ·refine hK S' KN lv' h1 h2' h3 (fun j o e q1 q2=>?_) fun j hj=>?_
   ·have a1:=f12.rK j o q1 e
    refine h4 j o (e2 j o a1 q2) (fun c=>?_) fun c=>?_
    ·exact(f12.new j c).elim q1 fun c=>by rw [e]at c;cases c
    ·exact(e3 j c).elim q2 fun c=>by rw [a1]at c;cases c
   ·have nn:S2 j=none->sd j\/qQ lv j\/S j=none:=fun c=>by
     by_cases q:sd j
     ·exact .inl q
     ·right;right
      cases e:S j with
      | none=>rfl
      | some o=>rw [f12.rK j o q e]at c;cases c
    rcases h5 j hj with c | c | c
    ·exact(f12.new j c).imp id .inr
    ·rcases e3 j c with c | c
     ·exact .inr (.inl c)
     ·exact nn c
    ·by_cases q:qQ lv j
     ·exact .inr (.inl q)
     ·cases e:S2 j with
      | none=>exact nn e
      | some o=>rw [e2 j o e q]at c;cases c
end
theorem aGB (z:Int):0<=dW .u64 z:=by
 rw [LI];unfold IntKind.wrap;have:IntKind.u64.signed=false:=rfl;simp only [this,Cl,cJ,if_false];exact Kz _ (by decide)
def Wp (n:Int) (i len:Nat):Nat:=((dW .u64 (dW .i64 (n+dW .i64 (7*(i:Int)))))%(len:Int)).toNat
theorem aGC{n:Int}{i len:Nat} (h:0<len):Wp n i len<len:=by
 unfold Wp;have:=Int.emod_lt_of_pos (dW .u64 (dW .i64 (n+dW .i64 (7*(i:Int))))) (show(0:Int)<(len:Int)by omega);have:=Kz (dW .u64 (dW .i64 (n+dW .i64 (7*(i:Int))))) (show(len:Int)≠0 by omega);omega
def jOk (m:Ms):Bool:=decide (m.text.length<500)&&decide (m.nums.length<50)
def jB (junk:List Ms) (i:Nat) (B:Bd):Bd:=match junk[i]? with
 | some m=>if jOk m then B.take {m with fr:=4}else B
 | none=>B
inductive aAM (junk:List Ms) (n:Int):Nat->List Ms->Nat->Bd->List (List UInt8)->List (List UInt8)->Prop
 | stop {i f:Nat} {B:Bd} {log:List (List UInt8)}:aAM junk n (f+1) [] i B log log
 | go {f i nI:Nat} {all:List Ms} {m:Ms} {B B':Bd} {log Gw out:List (List UInt8)} (hm:all[Wp n i all.length]? =some m) (hkd:m.kind<256) (hal:all.length<1000) (hi:i<1000) (hk0:B.kept.length<80000) (Yb:(jB junk i B).kept.length<80000) (hn:nI<=1000) (aPb:log.length<10000)
  (JT:InR nI ((jB junk i B).take m) log B' Gw) (hr:aAM junk n f (all.take (Wp n i all.length)++all.drop (Wp n i all.length+1)) (i+1) B' Gw out):aAM junk n (f+1) all i B log out
section
variable{el:TypeId}{k:Nat}{S0 S S':Hp}{v:V}{ds:List Dt}{n:Nat}
theorem SL.aL0 (h:SL el k S0 S v ds n) (hs:gA S0 S) (na:∀i q o n c,v≠ .pO i q o n c) (hl:n<=1000000){us:List V}{new:List Dt}{q:Nat} (hq:q<1000000) (hu:uO us new) (Wo:new.length=q*k){b:Nat} (hb:b<=200){x:V} (hx:∀{K:Nat->List V->Prop},K q us->HJ k x S K){K:KV}
 (hk:∀u S',gA S0 S'->(∀j o,S j=some o->¬qQ v j->S' j=some o)->(∀j,qQ u j->qQ v j\/S j=none)->SL el k S0 S' u (ds++new) (n+q)->(∀i q o n c,u≠ .pO i q o n c)->K u S'):sE el k b v x S K:=by
 cases q with
 | zero=>
  have e:new=[]:=lZ (by simpa using Wo);subst e;have tT:K v S:=hk v S hs (fun _ _ e _=>e) (fun _ e=> .inl e) (by rw [vJ];exact h) na;unfold sE;refine hx ?_;cases h with
  | nil=>exact tT
  | acc h0 h hl hd hv=>exact tT
  | pO h0 h hl hn hd hv=>exact absurd rfl (na _ _ _ _ _)
  | own h0 h=>exact⟨bN _,tT⟩
 | succ m=>exact h.apps hs hl (by omega) hu Wo (.inr fun i q o c=>na _ _ _ _ _) hb hx fun u S' e1 e2 e3 e4 e5=>hk u S' e1 e2 e3 e4 (e5 na)
end
theorem aGD (l:List Ms) (k:Nat):pI (l.take k)=(pI l).take (k*11):=by
 have h:pI l=pI (l.take k)++pI (l.drop k):=by rw [<-JQ,IE]
 by_cases hk:k<=l.length
 ·rw [h]
  exact(List.take_left' (by rw [zY,iX];omega)).symm
 ·rw [uG (by omega),uG (by rw [zY];omega)]
section
variable{M d:Nat}{x:VE}{K:KV}{b:Nat}
theorem aIW{S0 S:Hp}{v:V}{ds:List Dt}{n:Nat} (h:SL 37 11 S0 S v ds n) (na:∀i q o n c,v≠ .pO i q o n c) (hn:0<n):∃b vs,v= .acc b n/\S b=some (.jK vs 37 n)/\vs.length=n*11/\BQ vs ds:=by
 cases h with
 | nil=>omega
 | own=>omega
 | pO=>exact absurd rfl (na _ _ _ _ _)
 | acc h0 h hl hd hv=>exact⟨_,_,rfl,h,hl,hv⟩
theorem aNC{S:Hp}{va:V}{all:List Ms}{k:Nat} (h:SL 37 11 PK S va (pI all) all.length) (na:∀i q o n c,va≠ .pO i q o n c) (hk:k<all.length) (hal:all.length<1000){K:KV}
 (hK:∀u S',gA S S'->SL 37 11 PK S' u (pI (all.take k++all.drop (k+1))) (all.take k++all.drop (k+1)).length->(∀i q o n c,u≠ .pO i q o n c)->(∀j,qQ u j->S j=none)->K u S'):
 JB 37 11 va none (some (ni k)) none S fun v10=>aE PP .add 3 (ni k) (.int .i64 (.ofNat 1)) fun v11=>JB 37 11 va (some v11) none none S fun v12=>
  (cQ 37 0 [(.int .u8 (.ofNat 0)),(.int .i64 (.ofNat 0)),(.int .i64 (.ofNat 0)),(.int .i64 (.ofNat 0)),(.int .i64 (.ofNat 0)),(.int .i64 (.ofNat 0)),(.int .i64 (.ofNat 0)),(.int .i64 (.ofNat 0)),(.int .i64 (.ofNat 0)),(.string ⟨⟨[]⟩⟩),(.slice none 0 0)] [] S fun pB S=>True)/\
  (cQ 37 0 [(.int .u8 (.ofNat 0)),(.int .i64 (.ofNat 0)),(.int .i64 (.ofNat 0)),(.int .i64 (.ofNat 0)),(.int .i64 (.ofNat 0)),(.int .i64 (.ofNat 0)),(.int .i64 (.ofNat 0)),(.int .i64 (.ofNat 0)),(.int .i64 (.ofNat 0)),(.string ⟨⟨[]⟩⟩),(.slice none 0 0)] [] S fun pU S=>
   sE 37 11 112 pU v10 S fun qS S=>sE 37 11 112 qS v12 S K):=by
 obtain⟨p,vs,rfl,hp,Ac,hv⟩:=aIW h na (by omega);have Pw:∀{S:Hp},gA PK S:=fun {S} j o e=>by cases e
 refine Nt hp (by omega) (by omega) ?_;rw [qO (by omega)]
 have part:∀(v12:V),(∀(S':Hp),gA S S'->∀{K:Nat->List V->Prop},K (all.length-(k+1)) ((vs.drop ((k+1)*11)).take ((all.length-(k+1))*11))->HJ 11 v12 S' K)->
  (cQ 37 0 [(.int .u8 (.ofNat 0)),(.int .i64 (.ofNat 0)),(.int .i64 (.ofNat 0)),(.int .i64 (.ofNat 0)),(.int .i64 (.ofNat 0)),(.int .i64 (.ofNat 0)),(.int .i64 (.ofNat 0)),(.int .i64 (.ofNat 0)),(.int .i64 (.ofNat 0)),(.string ⟨⟨[]⟩⟩),(.slice none 0 0)] [] S fun pB S=>True)/\
  (cQ 37 0 [(.int .u8 (.ofNat 0)),(.int .i64 (.ofNat 0)),(.int .i64 (.ofNat 0)),(.int .i64 (.ofNat 0)),(.int .i64 (.ofNat 0)),(.int .i64 (.ofNat 0)),(.int .i64 (.ofNat 0)),(.int .i64 (.ofNat 0)),(.int .i64 (.ofNat 0)),(.string ⟨⟨[]⟩⟩),(.slice none 0 0)] [] S fun pU S=>
   sE 37 11 112 pU (.pO p all.length 0 k all.length) S fun qS S=>sE 37 11 112 qS v12 S K):=by
  intro v12 Hr;refine⟨fun j hj=>trivial,fun j hj=>?_⟩;have hle:gA S (aR S j (.row [] 37)):= .aT hj;have own:SL 37 11 PK (aR S j (.row [] 37)) (.own j 0 0 0) [] 0:= .own rfl aD;have aPC:k*11+11<=all.length*11:=by have:=oQ 11 hk;omega
  have ft:BQ vs (pI (all.take k)):=by
   rw [aGD];intro q d e;rw [kZ]at e;split at e
   ·exact hv q d e
   ·cases e
  have ftl:(pI (all.take k)).length=k*11:=by rw [zY,iX];omega
  have aPD:SL 37 11 PK (aR S j (.row [] 37)) (.pO p all.length 0 k all.length) (pI (all.take k)) k:= .pO rfl (hle _ _ hp) Ac (by omega) ftl ft;show sE 37 11 112 (.own j 0 0 0) (.pO p all.length 0 k all.length) (aR S j (.row [] 37)) _;have hu1:uO (vs.take (k*11)) (pI (all.take k)):=by have:=ft.take (by omega);rw [ftl]at this;exact this
  have aND:∀{K:Nat->List V->Prop},K k (vs.take (k*11))->HJ 11 (.pO p all.length 0 k all.length) (aR S j (.row [] 37)) K:=fun {K} hK=>by
   unfold HJ;simp only [hle _ _ hp];refine⟨trivial,?_⟩;rw [qG (by omega),DE];exact hK
  refine own.aL0 Pw (fun _ _ _ _ _ e=>by cases e) (by omega) (q:=k) (us:=vs.take (k*11)) (new:=pI (all.take k)) (by omega) hu1 ftl (by decide) aND fun u S1 _ e2 e3 e4 e5=>?_
  have np:¬qQ u p:=fun c=>by
   rcases e3 p c with c | c
   ·have c:j=p:=c
    rw [c,hp]at hj;cases hj
   ·rw [hle _ _ hp]at c;cases c
  have aF5:gA S S1:=fun q o e=>e2 q o (hle _ _ e) fun c=>by have c:j=q:=c;rw [c,e]at hj;cases hj
  have hdr:BQ (vs.drop ((k+1)*11)) (pI (all.drop (k+1))):=by rw [Gq];exact hv.drop _
  have Ae:(pI (all.drop (k+1))).length=(all.length-(k+1))*11:=by rw [zY,mO]
  have aEa:(all.length-(k+1))*11+(k+1)*11=all.length*11:=by rw [<-kJ];congr 1;omega
  have hu2:uO ((vs.drop ((k+1)*11)).take ((all.length-(k+1))*11)) (pI (all.drop (k+1))):=by
   have:=hdr.take (by rw [Ae,mO];omega);rw [Ae]at this;exact this
  have aNE:∀{K:Nat->List V->Prop},K (all.length-(k+1)) ((vs.drop ((k+1)*11)).take ((all.length-(k+1))*11))->HJ 11 v12 S1 K:=fun {K} hK=>Hr S1 aF5 hK;rw [QA,fK]at e4;refine e4.aL0 Pw e5 (by omega) (q:=all.length-(k+1)) (us:=(vs.drop ((k+1)*11)).take ((all.length-(k+1))*11)) (new:=pI (all.drop (k+1))) (by omega) hu2 Ae (by decide) aNE fun u2 S2 _ g2 g3 g4 g5=>?_
  have un:∀q,qQ u q->S q=none:=fun q c=>by
   rcases e3 q c with c | c
   ·have c:j=q:=c
    rw [<-c];exact hj
   ·exact hle.none c
  refine hK u2 S2 (fun q o e=>g2 q o (aF5 _ _ e) fun c=>by rw [un q c]at e;cases e) ?_ g5 (fun q c=>?_)
  ·rw [JQ,bW,iX,mO,Nat.min_eq_left (by omega)];exact g4
  ·rcases g3 q c with c | c
   ·exact un q c
   ·exact aF5.none c
 by_cases aAZ:k+1=all.length
 ·rw [aAZ]
  refine aFc hp ?_;refine part _ fun S' hle {K} hK=>?_;rw [aAZ,Nat.sub_self,GG,List.take_zero]at hK;exact hK
 ·refine UC hp (by omega) ?_
  refine part _ fun S' hle {K} hK=>?_;have aEa:(all.length-(k+1))*11+(k+1)*11=all.length*11:=by rw [<-kJ];congr 1;omega
  unfold HJ;simp only [hle _ _ hp];refine⟨trivial,?_⟩;rw [qG (by omega)];exact hK
end
section
variable{M d:Nat}{x:VE}{K:KV}{b:Nat}
theorem aNF{t:TypeId}{w:Int}{len:Nat}{k:V->Prop} (hw:0<=w) (h:0<len):aE PP .rem t (.int .u64 w) (nu len) k=k (.int .u64 (w%(len:Int))):=by
 rw [XH (by simp only [jZ];omega)]
 congr 2
 rw [jZ,Int.tmod_eq_emod_of_nonneg hw]
theorem aPc{n:Int}{i len:Nat} (h:0<len) (hl:len<1000){k:V->Prop}:(aE PP .mul 3 (.int .i64 (.ofNat 7)) (ni i) fun v0=>aE PP .add 3 (nz n) v0 fun v1=>GK .u64 v1 fun v2=>GK .u64 (ni len) fun v4=>aE PP .rem 40 v2 v4 fun v5=>GK .i64 v5 k)=k (ni (Wp n i len)):=by
 rw [Jq,kU];show(GK .u64 (ni len) fun v4=>aE PP .rem 40 (.int .u64 (dW .u64 (dW .i64 (n+dW .i64 (Int.ofNat 7*Int.ofNat i))))) v4 fun v5=>GK .i64 v5 k)=_;show(aE PP .rem 40 (.int .u64 (dW .u64 (dW .i64 (n+dW .i64 (Int.ofNat 7*Int.ofNat i))))) (.int .u64 (dW .u64 (Int.ofNat len))) fun v5=>GK .i64 v5 k)=_;rw [aJv (by omega),aNF (aGB _) h];have hk:=aGC (n:=n) (i:=i) h
 have e:dW .u64 (dW .i64 (n+dW .i64 (Int.ofNat 7*Int.ofNat i)))%(len:Int)=Int.ofNat (Wp n i len):=
  (Int.toNat_of_nonneg (Kz _ (show(len:Int)≠0 by omega))).symm
 rw [e];show k (.int .i64 (dW .i64 (Int.ofNat (Wp n i len))))=_;rw [wrap_small (by simp only [jZ];omega) (by simp only [jZ];omega)]
theorem aPd{O:Tag}{l:List Ms}{i:Nat} (h:i<l.length):∃t,Tl O (i*11) (((pI l).drop (i*11)).take 11)=pC t l[i]:=by
 have:=aNu O (((pI l).drop (i*11)).take 11) (i*11);rw [XU (aS h)]at this ⊢;exact XV this
theorem Wd{l:List Ms}{i:Nat} (h:i<l.length) (q:Nat) (hq:q<11):(pI l)[i*11+q]? =(ZV l[i])[q]? :=by
 have:=XU (l:=l) (aS h);rw [<-this,kZ,if_pos hq,kI]
theorem aIX (hM:100000<M) (hM2:M<=125000) (hx:Deep PP cM gT M (d+13) x){O0 Oj:Tag}{texts:List (List UInt8)}{junk:List Ms}{n:Int} (PF:junk.length<=30) (Xu:∀m∈junk,m.kind<256) (htl:texts.length<1000){f:Nat}{all:List Ms}{i:Nat}{B:Bd}{log out:List (List UInt8)} (h:aAM junk n f all i B log out) (Rg:out=texts) (hK:∀S,K (.bool true) S):
 ∀(k:Nat) (S:Hp) (sd:Nat->Prop) (va lv:V),f<=k->vA S b B sd->SL 37 11 PK S va (pI all) all.length->(∀i q o n c,va≠ .pO i q o n c)->(∀j,qQ va j->¬sd j)->SL 9 1 PK S lv (strs log) log.length->(∀j,qQ lv j->¬sd j)->
  eE x k (.list O0 (strs texts) texts.length) (nz n) (.list Oj (pI junk) junk.length) (.ptr b 0) va lv (ni i) S K:=by
 have hm:x.most≠0:=by rw [hx.most];omega
 induction h with
 | @stop i f B log=>
  intro k S sd va lv hk hB hA na hdA hL hdL;obtain⟨k,rfl⟩:=eY (show k≠0 by omega);rw [qM];unfold lP;refine aQ ?_;rw [hA.len,XT,VB (by simp),iF];subst Rg;refine aDB (d:=d+12) hM hx hL (by omega) ?_;exact aJ (hK S)
 | @go f i nI all m B B' log Gw out hmk hkd hal hi hk0 Yb hn aPb JT hr ih=>
  intro k S sd va lv hk hB hA na hdA hL hdL;obtain⟨k,rfl⟩:=eY (show k≠0 by omega);have hkl:=(cZ.1 hmk).1;have wK:0<all.length:=by omega
  rw [qM];unfold lP;refine aQ ?_;rw [hA.len,XT,dlt wK,jS]
  have rest:∀S1 Vw,vA S1 b (jB junk i B) Vw->Ca sd S S1 Vw->fX x k (.list O0 (strs texts) texts.length) (nz n) (.list Oj (pI junk) junk.length) (.ptr b 0) va lv (ni i) S1 K:=fun S1 Vw h1 f1=>by
   rw [uZ _ hm];unfold jH;refine aQ ?_;have hA1:SL 37 11 PK S1 va (pI all) all.length:=hA.but fun j o h1 h2=>f1.rK j o (hdA j h1) h2;have Hb:SL 9 1 PK S1 lv (strs log) log.length:=hL.but fun j o h1 h2=>f1.rK j o (hdL j h1) h2;have aPe:∀j,qQ va j->¬Vw j:=fun j hj c=>(f1.new j c).elim (hdA j hj) fun c=>hA.Vu c hj;have aNG:∀j,qQ lv j->¬Vw j:=fun j hj c=>(f1.new j c).elim (hdL j hj) fun c=>hL.Vu c hj
   have e1:∀{k:V->Prop},(aE PP .mul 3 (.int .i64 (.ofNat 7)) (ni i) fun v0=>aE PP .add 3 (nz n) v0 fun v1=>GK .u64 v1 fun v2=>dJ va fun v3=>GK .u64 v3 fun v4=>aE PP .rem 40 v2 v4 fun v5=>GK .i64 v5 k)=k (ni (Wp n i all.length)):=fun {k}=>by
    rw [<-aPc (n:=n) (i:=i) (k:=k) wK hal]
    congr 1;funext v0;congr 1;funext v1;congr 1;funext v2
    rw [hA1.len]
   rw [e1];obtain⟨us,Br,Aw⟩:=hA1.ldn hkl;rw [XU hmk]at Br;obtain⟨t,rfl⟩:=XV Br;rw [Aw];refine aBX (d:=d+6) hM hx h1 (by omega) hkd fun v9 S2 sd2 h2 f2=>?_;have hA2:SL 37 11 PK S2 va (pI all) all.length:=hA1.but fun j o h1 h2=>f2.rK j o (aPe j h1) h2;have Df:SL 9 1 PK S2 lv (strs log) log.length:=Hb.but fun j o h1 h2=>f2.rK j o (aNG j h1) h2;have aPf:∀j,qQ lv j->¬sd2 j:=fun j hj c=>(f2.new j c).elim (aNG j hj) fun c=>Hb.Vu c hj;refine aNC hA2 na hkl hal fun u S3 EV su nu_ Ct=>?_;have h3:=h2.up EV;have hL3:=Df.up EV;refine aIV (d:=d) hM hM2 hx JT x.most S3 sd2 lv (by rw [hx.most];omega) (by omega) h3 hL3 aPf fun S4 sd4 lv4 h4 hL4 aPg kp4 aPh=>?_;rw [qO (by omega)]
   have nuS:∀j,qQ u j->¬sd2 j:=fun j hj c=>by
    obtain⟨o,e⟩:=h2.some_ c;rw [Ct j hj]at e;cases e
   have su4:SL 37 11 PK S4 u (pI (all.take (Wp n i all.length)++all.drop (Wp n i all.length+1))) (all.take (Wp n i all.length)++all.drop (Wp n i all.length+1)).length:=su.but fun j o h1 h2=>kp4 j o h2 (nuS j h1) (su.ne2 hL3 (by decide) h1);refine ih Rg (k:=k) S4 sd4 u lv4 (by omega) h4 su4 nu_ (fun j hj c=>?_) hL4 aPg;rcases aPh j (.inl c)with c | c | c
   ·exact nuS j hj c
   ·exact su.ne2 hL3 (by decide) hj c
   ·exact su.Vu c hj
  have gj:∀{k:V->Prop},dJ (.list Oj (pI junk) junk.length) k=k (ni junk.length):=fun {k}=>rfl;rw [gj,mV];by_cases KE:i<junk.length
  ·rw [dlt KE]
   have xj:∀{k:V->Prop},kX 11 (.list Oj (pI junk) junk.length) (ni i) k=k (.sS Oj (pI junk) (i*11)):=fun {k}=>RD KE;have f9:∀{k:V->Prop},aL 9 (.sS Oj (pI junk) (i*11)) k=k (.sS Oj (pI junk) (i*11+9)):=fun {k}=>rfl;have f10:∀{k:V->Prop},aL 10 (.sS Oj (pI junk) (i*11)) k=k (.sS Oj (pI junk) (i*11+10)):=fun {k}=>rfl
   have l9:∀{K:KV},aH (.sS Oj (pI junk) (i*11+9)) S K=K (.str junk[i].text) S:=fun {K}=>by
    rw [ZE,lJ (Wd KE 9 (by omega))];rfl
   have l10:∀{K:KV},aH (.sS Oj (pI junk) (i*11+10)) S K=K (.list (.sub Oj (i*11+10)) (junk[i].nums.map fun n=>Dt.int .u64 (.ofNat n)) junk[i].nums.length) S:=fun {K}=>by
    rw [ZE,lJ (Wd KE 10 (by omega))];rfl
   have t9:∀{k:V->Prop},uD (.str junk[i].text) k=k (ni junk[i].text.length):=fun {k}=>rfl;have t10:∀{k:V->Prop},dJ (.list (.sub Oj (i*11+10)) (junk[i].nums.map fun n=>Dt.int .u64 (.ofNat n)) junk[i].nums.length) k=k (ni junk[i].nums.length):=fun {k}=>rfl;have c9:∀{k:V->Prop},aE PP .lss 3 (ni junk[i].text.length) (.int .i64 (.ofNat 500)) k=k (.bool (decide (junk[i].text.length<500))):=fun {k}=>mV;have c10:∀{k:V->Prop},aE PP .lss 3 (ni junk[i].nums.length) (.int .i64 (.ofNat 50)) k=k (.bool (decide (junk[i].nums.length<50))):=fun {k}=>mV;have ej:jB junk i B=if jOk junk[i]then B.take {junk[i]with fr:=4}else B:=by unfold jB;rw [aS KE]
   unfold jOk at ej;have hkj:=Xu _ (sW KE);obtain⟨t,et⟩:=aPd (O:=Oj) KE
   have ld:∀{K:KV},iP 11 (.sS Oj (pI junk) (i*11)) S K=K (.agg (pC t junk[i])) S:=fun {K}=>by
    rw [aKw,qG (by rw [zY];have:=oQ 11 KE;omega),et]
   clear et;generalize junk[i]=mj at ej l9 l10 t9 t10 c9 c10 hkj ld;generalize decide (mj.text.length<500)=p1 at c9 ej;generalize decide (mj.nums.length<50)=p2 at c10 ej;cases p1 with
   | false=>
    repeat (first | rw [aP] | rw [aN] | rw [mW] | rw [xj] | rw [f9] | rw [l9] | rw [t9] | rw [c9] | rw [gC] | rw [dO] | rw [iF] | dsimp only)
    have ej:jB junk i B=B:=ej;rw [ej]at rest;exact rest S sd hB (.refl _ _)
   | true=>
    cases p2 with
    | false=>
     repeat (first | rw [aP] | rw [aN] | rw [mW] | rw [xj] | rw [f9] | rw [f10] | rw [l9] | rw [l10] | rw [t9] | rw [t10] | rw [c9] | rw [c10] | rw [gC] | rw [dO] | rw [iF] | dsimp only)
     have ej:jB junk i B=B:=ej;rw [ej]at rest;exact rest S sd hB (.refl _ _)
    | true=>
     repeat (first | rw [aP] | rw [aN] | rw [mW] | rw [xj] | rw [f9] | rw [f10] | rw [l9] | rw [l10] | rw [t9] | rw [t10] | rw [c9] | rw [c10] | rw [gC] | rw [dO] | rw [jS] | rw [ld] | dsimp only)
     have ej:jB junk i B=B.take {mj with fr:=4}:=ej;intro r hr;refine nG (cs:=pC t mj) aD rfl rfl (by rfl) ?_;rw [fG,aX,Ig aD (bE rfl) rfl,fG];have pT:gA S (aR S r (.row ((pC t mj).set 1 (.int .i64 (.ofNat 4))) 37)):= .aT hr;have QQ:(pC t mj).set 1 (.int .i64 (.ofNat 4))=pC t {mj with fr:=4}:=rfl;rw [QQ]at pT ⊢;have rr:aR S r (.row (pC t {mj with fr:=4}) 37) r=some (.row (pC t {mj with fr:=4}) 37):=aD;have hB2:=hB.up pT;generalize aR S r (.row (pC t {mj with fr:=4}) 37)=Sr at pT rr hB2;refine jD (n:=11) (i:=r) rr rfl ?_;refine aBX (d:=d+6) hM hx hB2 (by omega) hkj fun v9 S2 sd2 h2 f2=>?_;rw [<-ej]at h2;exact rest S2 sd2 h2 ((Ca.le pT).trans f2)
  ·rw [VB KE]
   repeat (first | rw [aP] | rw [mW] | rw [dO] | rw [iF] | dsimp only)
   have ej:jB junk i B=B:=by unfold jB;rw [DC (by omega)]
   rw [ej]at rest;exact rest S sd hB (.refl _ _)
end
def prT (by_:Nat):Int×Int:=match by_%3 with
 | 0=>(1,2)
 | 1=>(1,3)
 | _=>(2,3)
def OZ (p:Int×Int) (texts:List (List UInt8)):Nat->List Ms
 | 0=>[]
 | j+1=>OZ p texts j++(match texts[j]? with
  | some t=>[jI p.1 (.ofNat (j+1)) t,jI p.2 (.ofNat (j+1)) t]
  | none=>[])
theorem We (p:Int×Int) (texts:List (List UInt8)):∀j,(OZ p texts j).length<=j*2:=by
 intro j;induction j with
 | zero=>exact bN _
 | succ j ih=>
  unfold OZ;rw [bW];split
  ·simp only [rZ,PZ];omega
  ·simp only [PZ];omega
def Pr (t:List UInt8):Bool:= !(decide (t=[]) || decide (500<t.length))
def aJx:Prop:=∀(texts:List (List UInt8)) (by_:Nat) (n:Int) (junk:List Ms),texts.length<=8->junk.length<=30->(∀t∈texts,Pr t=true)->(∀m∈junk,m.kind<256)->∃f,f<=100000/\aAM junk n f (OZ (prT by_) texts texts.length) 0 bd0 [] texts
section
variable{M d:Nat}{x:VE}{K:KV}{b:Nat}
theorem aL1 (hM:100000<M) (hx:Deep PP cM gT M (d+1) x){O0:Tag}{texts:List (List UInt8)} (htl:texts.length<=8){t2 t3:V}{p:Int×Int}{jp:Nat}{sd:Nat->Prop}{B:Bd} (hK:∀S,K (.bool true) S)
 (hGo:(∀t∈texts,Pr t=true)->∀S va,vA S b B sd->SL 37 11 PK S va (pI (OZ p texts texts.length)) (OZ p texts texts.length).length->(∀i q o n c,va≠ .pO i q o n c)->(∀j,qQ va j->¬sd j)->eE x x.most (.list O0 (strs texts) texts.length) t2 t3 (.ptr b 0) va .nil (.int .i64 (.ofNat 0)) S K):
 ∀(q j k:Nat) (S:Hp) (va:V),j+q=texts.length->q<k->(∀i (h:i<texts.length),i<j->Pr texts[i]=true)->S jp=some (.row [nz p.1,nz p.2] 3)->vA S b B sd->SL 37 11 PK S va (pI (OZ p texts j)) (OZ p texts j).length->(∀i q o n c,va≠ .pO i q o n c)->(∀j,qQ va j->¬sd j)->
  gL x k (.list O0 (strs texts) texts.length) t2 t3 (.ptr b 0) (.own jp 0 2 2) va (ni j) S K:=by
 intro q;induction q with
 | zero=>
  intro j k S va hj hk YR hjp hB hA na hd;obtain⟨k,rfl⟩:=eY (show k≠0 by omega);rw [rV];unfold mU;refine aQ ?_;rw [UA];show aE PP .lss 3 (ni j) (ni texts.length) _;rw [mV,VB (by omega),iF];obtain rfl:j=texts.length:=by omega
  exact hGo (fun t ht=>by obtain⟨i,hi,rfl⟩:=KU ht;exact YR i hi hi) S va hB hA na hd
 | succ q ih=>
  intro j k S va hj hk YR hjp hB hA na hd;obtain⟨k,rfl⟩:=eY (show k≠0 by omega);rw [rV];unfold mU;refine aQ ?_;rw [UA];show aE PP .lss 3 (ni j) (ni texts.length) _;have PF:j<texts.length:=by omega
  rw [mV,dlt PF,jS];have e1:(strs texts)[j]? =some (.str texts[j]):=by unfold strs;rw [lA,aS PF];rfl
  have xt:∀{k:V->Prop},kX 1 (.list O0 (strs texts) texts.length) (ni j) k=k (.sS O0 (strs texts) (j*1)):=fun {k}=>RD PF;have lt:∀{S:Hp} {K:KV},aH (.sS O0 (strs texts) (j*1)) S K=K (.str texts[j]) S:=fun {S K}=>by rw [ZE,sA,lJ e1];rfl
  have q9:∀{k:V->Prop},aE PP .eql 9 (.str texts[j]) (.str []) k=k (.bool (decide (texts[j]=[]))):=fun {k}=>rfl;have tl:∀{k:V->Prop},uD (.str texts[j]) k=k (ni texts[j].length):=fun {k}=>rfl;have q5:∀{k:V->Prop},aE PP .gtr 3 (ni texts[j].length) (.int .i64 (.ofNat 500)) k=k (.bool (decide (500<texts[j].length))):=fun {k}=>XT;have stop:Pr texts[j]=false->bD (.bool true) S K:=fun _=>aJ (hK S)
  have eJ:OZ p texts (j+1)=OZ p texts j++[jI p.1 (.ofNat (j+1)) texts[j],jI p.2 (.ofNat (j+1)) texts[j]]:=by
   conv=>lhs;unfold OZ
   rw [aS PF]
  have aGE:Pr texts[j]=true->∀i (h:i<texts.length),i<j+1->Pr texts[i]=true:=fun e i h hi=>by
   rcases yL i j with c | c
   ·exact YR i h c
   ·obtain rfl:i=j:=by omega
    exact e
  unfold Pr at stop aGE;generalize texts[j]=tx at lt q9 tl q5 stop eJ aGE;generalize decide (tx=[])=p1 at q9 stop aGE;generalize decide (500<tx.length)=p2 at q5 stop aGE;cases p1 with
  | true=>
   repeat (first | rw [xt] | rw [lt] | rw [q9] | rw [aP] | rw [nM] | rw [gC] | rw [jS] | dsimp only)
   exact stop rfl
  | false=>
   cases p2 with
   | true=>
    repeat (first | rw [xt] | rw [lt] | rw [q9] | rw [aP] | rw [aN] | rw [tl] | rw [q5] | rw [dO] | rw [jS] | dsimp only)
    exact stop rfl
   | false=>
    have x0:∀{k:V->Prop},kX 1 (.own jp 0 2 2) (.int .i64 (.ofNat 0)) k=k (.ptr jp 0):=fun {k}=>propext ⟨fun h=>h.2,fun h=>⟨by decide,h⟩⟩;have x1:∀{k:V->Prop},kX 1 (.own jp 0 2 2) (.int .i64 (.ofNat 1)) k=k (.ptr jp 1):=fun {k}=>propext ⟨fun h=>h.2,fun h=>⟨by decide,h⟩⟩;have l0:∀{K:KV},aH (.ptr jp 0) S K=K (nz p.1) S:=cD hjp rfl;have l1:∀{K:KV},aH (.ptr jp 1) S K=K (nz p.2) S:=cD hjp rfl;have ad:∀{k:V->Prop},aE PP .add 3 (ni j) (.int .i64 (.ofNat 1)) k=k (ni (j+1)):=fun {k}=>qO (by omega)
    repeat (first | rw [xt] | rw [lt] | rw [q9] | rw [aP] | rw [aN] | rw [tl] | rw [q5] | rw [dO] | rw [iF] | rw [x0] | rw [x1] | rw [l0] | rw [l1] | rw [ad] | dsimp only)
    refine aGA (d:=d) hx fun O1=>?_;have ss:∀{p:Prop} {l:List UInt8},bH (.str l) (.str l) p=p:=fun {p l}=>mZ rfl
    repeat (first | rw [lt] | rw [l1] | rw [ss] | rw [aJw])
    refine aGA (d:=d) hx fun O2=>?_
    have bld:∀{k:KV},(∀j0,S j0=none->k (.own j0 0 2 2) (aR S j0 (.row (pC O1 (jI p.1 (.ofNat (j+1)) tx)++pC O2 (jI p.2 (.ofNat (j+1)) tx)) 37)))->cQ 37 2 [(.int .u8 (.ofNat 0)),(.int .i64 (.ofNat 0)),(.int .i64 (.ofNat 0)),(.int .i64 (.ofNat 0)),(.int .i64 (.ofNat 0)),(.int .i64 (.ofNat 0)),(.int .i64 (.ofNat 0)),(.int .i64 (.ofNat 0)),(.int .i64 (.ofNat 0)),(.string ⟨⟨[]⟩⟩),(.slice none 0 0)] [(0,11,.agg (pC O1 (jI p.1 (.ofNat (j+1)) tx))),(11,11,.agg (pC O2 (jI p.2 (.ofNat (j+1)) tx)))] S k:=fun {k} hk=>
     ⟨rfl,rfl,bE rfl,rfl,rfl,bE rfl,hk⟩
    refine⟨bld fun _ _=>trivial,bld fun j0 hj0=>?_⟩;have iM:gA S (aR S j0 (.row (pC O1 (jI p.1 (.ofNat (j+1)) tx)++pC O2 (jI p.2 (.ofNat (j+1)) tx)) 37)):= .aT hj0;have r0:aR S j0 (.row (pC O1 (jI p.1 (.ofNat (j+1)) tx)++pC O2 (jI p.2 (.ofNat (j+1)) tx)) 37) j0=some (.row (pC O1 (jI p.1 (.ofNat (j+1)) tx)++pC O2 (jI p.2 (.ofNat (j+1)) tx)) 37):=aD;have hA1:=hA.up iM;have Wn:=hB.up iM;have aL2:=iM _ _ hjp;generalize aR S j0 (.row (pC O1 (jI p.1 (.ofNat (j+1)) tx)++pC O2 (jI p.2 (.ofNat (j+1)) tx)) 37)=S1 at iM r0 hA1 Wn aL2;have hlen:=We p texts j;have ts:uO (pC O1 (jI p.1 (.ofNat (j+1)) tx)++pC O2 (jI p.2 (.ofNat (j+1)) tx)) (ZV (jI p.1 (.ofNat (j+1)) tx)++ZV (jI p.2 (.ofNat (j+1)) tx)):=(aAK _ _).app (aAK _ _);refine hA1.aL0 (fun j o e=>by cases e) na (by omega) (q:=2) (by omega) ts rfl (by decide) (fun {K} hK=>HM (m:=2) r0 rfl hK) fun u S2 _ e2 e3 e4 e5=>?_;rw [ad];have hdA:∀j,qQ va j->¬sd j:=hd;refine ih (j+1) k S2 u (by omega) (by omega) (aGE rfl) (e2 _ _ aL2 (hA1.nat aL2)) (Wn.but fun j o h1 h2=>e2 j o h2 fun c=>hdA j c h1) ?_ e5 (fun j hj c=>?_)
    ·rw [eJ,JQ,bW]
     have e6:pI [jI p.1 (.ofNat (j+1)) tx,jI p.2 (.ofNat (j+1)) tx]=ZV (jI p.1 (.ofNat (j+1)) tx)++ZV (jI p.2 (.ofNat (j+1)) tx):=by
      show ZV _++(ZV _++[])=_;rw [vJ]
     rw [e6];exact e4
    ·rcases e3 j hj with c2 | c2
     ·exact hdA j c2 c
     ·obtain⟨o,e⟩:=Wn.some_ c
      rw [c2]at e;cases e
theorem aNH:gT gI=none:=rfl
theorem aL3 (law:aJx) (hM:100000<M) (hM2:M<=125000) (hx:Deep PP cM gT M (d+13) x){O0 Oj:Tag}{texts:List (List UInt8)}{junk:List Ms}{n:Int}{by_:Nat} (hby:by_<256) (Xu:∀m∈junk,m.kind<256) (hK:∀S,K (.bool true) S) (S:Hp):
 pP PP cM gI x [.list O0 (strs texts) texts.length,n8 by_,nz n,.list Oj (pI junk) junk.length] S K:=by
 rw [UV];unfold GA;have g0:∀{k:V->Prop},dJ (.list O0 (strs texts) texts.length) k=k (ni texts.length):=fun {k}=>rfl;have gj:∀{k:V->Prop},dJ (.list Oj (pI junk) junk.length) k=k (ni junk.length):=fun {k}=>rfl;have q8:∀{k:V->Prop},aE PP .gtr 3 (ni texts.length) (.int .i64 (.ofNat 8)) k=k (.bool (decide (8<texts.length))):=fun {k}=>XT;have q30:∀{k:V->Prop},aE PP .gtr 3 (ni junk.length) (.int .i64 (.ofNat 30)) k=k (.bool (decide (30<junk.length))):=fun {k}=>XT;have stop:x.call zV [] S fun pB S=>bD pB S K:=hx.GL (g:=aIz) rfl ⟨rfl,aJ (hK S)⟩;have nt:∀{k:V->Prop},NX .not (.bool true) k=k (.bool false):=fun {k}=>rfl;rw [g0];cases e1:decide (8<texts.length)with
 | true=>
  rw [e1]at q8
  repeat (first | rw [q8] | rw [aP] | rw [nM] | rw [gC] | rw [jS] | dsimp only)
  exact stop
 | false=>
  rw [e1]at q8;have htl:texts.length<=8:=by have:=KW e1;omega
  cases e2:decide (30<junk.length)with
  | true=>
   rw [e2]at q30
   repeat (first | rw [q8] | rw [q30] | rw [gj] | rw [aP] | rw [aN] | rw [nM] | rw [dO] | rw [gC] | rw [jS] | dsimp only)
   exact stop
  | false=>
   rw [e2]at q30;have PF:junk.length<=30:=by have:=KW e2;omega
   repeat (first | rw [q8] | rw [q30] | rw [gj] | rw [aP] | rw [aN] | rw [nM] | rw [dO] | dsimp only)
   refine hx.GL (g:=aIz) rfl ⟨rfl,?_⟩
   repeat (first | rw [nt] | rw [aP] | rw [aN] | rw [dO] | rw [iF] | dsimp only)
   refine aIT (d:=d+12) hx ?_;refine aLZ (d:=d+11) hx fun b S1 Vw Wn _ _=>?_;refine oH rfl ?_;refine oH rfl ?_;rw [kT,show(!decide (Int.ofNat 0=Int.ofNat 0))=false by simp,iF];have bl2:∀{S:Hp} {k:KV} {a c:Nat},(∀j,S j=none->k (.own j 0 2 2) (aR S j (.row [ni a,ni c] 3)))->cQ 3 2 [(.int .i64 (.ofNat 0))] [(0,1,(.int .i64 (.ofNat a))),(1,1,(.int .i64 (.ofNat c)))] S k:=fun {S k a c} hk=>⟨rfl,bE rfl,rfl,bE rfl,hk⟩;refine bl2 fun j1 h1=>?_;have iM:=gA.aT (a:= .row [ni 1,ni 2] 3) h1;have r1:aR S1 j1 (.row [ni 1,ni 2] 3) j1=some (.row [ni 1,ni 2] 3):=aD;generalize aR S1 j1 (.row [ni 1,ni 2] 3)=S2 at iM r1;refine bl2 fun j2 h2=>?_;have pT:=gA.aT (a:= .row [ni 1,ni 3] 3) h2;have r2:aR S2 j2 (.row [ni 1,ni 3] 3) j2=some (.row [ni 1,ni 3] 3):=aD;generalize aR S2 j2 (.row [ni 1,ni 3] 3)=S3 at pT r2;refine bl2 fun j3 h3=>?_;have EV:=gA.aT (a:= .row [ni 2,ni 3] 3) h3;have r3:aR S3 j3 (.row [ni 2,ni 3] 3) j3=some (.row [ni 2,ni 3] 3):=aD;generalize aR S3 j3 (.row [ni 2,ni 3] 3)=S4 at EV r3;have bl3:∀{S:Hp} {k:KV},(∀j,S j=none->k (.own j 0 3 3) (aR S j (.row [.own j1 0 2 2,.own j2 0 2 2,.own j3 0 2 2] 33)))->cQ 33 3 [(.slice none 0 0)] [(0,1,.own j1 0 2 2),(1,1,.own j2 0 2 2),(2,1,.own j3 0 2 2)] S k:=fun {S k} hk=>⟨rfl,bE rfl,rfl,bE rfl,rfl,bE rfl,hk⟩;refine bl3 fun j4 h4=>?_;have He:=gA.aT (a:= .row [.own j1 0 2 2,.own j2 0 2 2,.own j3 0 2 2] 33) h4;have r4:aR S4 j4 (.row [.own j1 0 2 2,.own j2 0 2 2,.own j3 0 2 2] 33) j4=some (.row [.own j1 0 2 2,.own j2 0 2 2,.own j3 0 2 2] 33):=aD;generalize aR S4 j4 (.row [.own j1 0 2 2,.own j2 0 2 2,.own j3 0 2 2] 33)=S5 at He r4;have hB5:=Wn.up (iM.trans (pT.trans (EV.trans He)));have r1:=He _ _ (EV _ _ (pT _ _ r1));have r2:=He _ _ (EV _ _ r2);have r3:=He _ _ r3
   have rm:∀{k:V->Prop},aE PP .rem 5 (n8 by_) (.int .u8 (.ofNat 3)) k=k (.int .u8 (.ofNat (by_%3))):=fun {k}=>by
    rw [XH (by decide)];rfl
   rw [rm]
   have key:∀(jp:Nat),S5 jp=some (.row [nz (prT by_).1,nz (prT by_).2] 3)->gL x x.most (.list O0 (strs texts) texts.length) (nz n) (.list Oj (pI junk) junk.length) (.ptr b 0) (.own jp 0 2 2) .nil (.int .i64 (.ofNat 0)) S5 K:=fun jp hjp=>by
    refine aL1 (d:=d+12) (p:=prT by_) (sd:=Vw) (B:=bd0) hM hx htl hK (fun YR S6 va hB6 hA6 na6 hd6=>?_) texts.length 0 x.most S5 .nil (by omega) (by rw [hx.most];omega) (fun i h c=>by omega) hjp hB5 .nil (fun _ _ _ _ _ e=>by cases e) (fun j c=>by cases c);obtain⟨f,hf,ho⟩:=law texts by_ n junk htl PF YR Xu;exact aIX (d:=d) hM hM2 hx PF Xu (by omega) ho rfl hK x.most S6 Vw va .nil (by rw [hx.most];omega) hB6 hA6 na6 hd6 .nil (fun j c=>by cases c)
   have h3:by_%3<3:=Nat.mod_lt _ (by decide);have xi:∀(q:Nat),q<3->∀{k:V->Prop},kX 1 (.own j4 0 3 3) (.int .u8 (.ofNat q)) k=k (.ptr j4 (0+q*1)):=fun q hq {k}=>propext ⟨fun h=>h.2,fun h=>⟨hq,h⟩⟩;rw [xi _ h3];unfold prT at key;generalize by_%3=q at h3 key
   match q,h3 with
   | 0,_=>
    rw [show ∀{K:KV},aH (.ptr j4 (0+0*1)) S5 K=K (.own j1 0 2 2) S5 from fun {K}=>cD r4 rfl];exact key j1 r1
   | 1,_=>
    rw [show ∀{K:KV},aH (.ptr j4 (0+1*1)) S5 K=K (.own j2 0 2 2) S5 from fun {K}=>cD r4 rfl];exact key j2 r2
   | 2,_=>
    rw [show ∀{K:KV},aH (.ptr j4 (0+2*1)) S5 K=K (.own j3 0 2 2) S5 from fun {K}=>cD r4 rfl];exact key j3 r3
end
structure FO (a:Ba):Prop where
 dec:a.s.dec=[]
 me:a.s.me=0
 nn:a.s.n=4
 tt:a.s.t=1
 fo:∀v∈a.l,v.fr=4
theorem aGF{p:Vo->Bool}{l:List Vo} (h:∀v∈l,v.fr=4):UW p 4 l<=1:=by
 unfold UW;rw [<-List.countP_eq_length_filter];refine rD (List.countP_mono_left (p:=_) (q:=fun i=>decide (i=4)) fun i hi e=>?_) (by decide);obtain⟨v,hv,e⟩:=KY.1 e;simp only [bT,decide_eq_true_eq]at e;have:=h v hv;exact bK (by omega)
theorem FO.aPi{a:Ba} (h:FO a):a.rO=a.no:=by
 have hd:∀r,a.wJ r=none:=fun r=>by
  unfold Ba.wJ;split
  ·rename_i v e
   have:a.zE r 4 v.tx=false:=by
    unfold Ba.zE;rw [h.nn,h.tt];refine bM fun c=>?_
    have:a.wC r 4 v.tx<=1:=by
     unfold Ba.wC;rw [h.nn];exact aGF h.fo
    omega
   rw [this];rfl
  ·rfl
 unfold Ba.rO;rw [List.findSome?_eq_none_iff.2 fun r _=>hd r]
theorem FO.do{a:Ba} (h:FO a):a.Bw [] []=(a,[]):=by
 have hf:a.from_ [] [] a.Ao 0=a.no:=by
  unfold Ba.Ao;rw [if_pos h.me];show(if(a.BA [] [] 0).2.2 then a.BA [] [] 0 else a.no)=_;show(if a.rO.2.2 then a.rO else a.no)=_;rw [h.aPi];rfl
 have:∀n,Ba.run [] [] n a []=(a,[]):=fun n=>by
  cases n with
  | zero=>rfl
  | succ n=>
   show(if a.s.dec=[]then(if(a.from_ [] [] a.Ao 0).2.2 then _ else(a,[]))else(a,[]))=_;rw [if_pos h.dec,hf];rfl
 exact this 1000
theorem FO.UX{a:Ba} (h:FO a){k:Nat}{ht r vl:Int}{tx:List UInt8}:FO (a.UX 4 k ht r vl tx):=by
 unfold Ba.UX;split
 ·unfold Ba.put
  split
  ·refine⟨h.dec,h.me,h.nn,h.tt,fun v hv=>?_⟩
   rcases oR.1 ((IA _ _).mem_iff.1 hv)with hv | hv
   ·exact h.fo v hv
   ·rw [wN.1 hv]
  ·exact h
 ·exact h
theorem FO.start{ht:Int}:FO ⟨.start ht 4 1 0,[]⟩:=⟨rfl,rfl,rfl,rfl,fun v hv=>by cases hv⟩
structure PR (p:Int×Int):Prop where
 a:1<=p.1/\p.1<=3
 b:1<=p.2/\p.2<=3
 ne:p.1≠p.2
theorem aL4 (by_:Nat):PR (prT by_):=by
 have h3:by_%3<3:=Nat.mod_lt _ (by decide);unfold prT;generalize by_%3=q at h3
 match q,h3 with
 | 0,_=>exact⟨by decide,by decide,by decide⟩
 | 1,_=>exact⟨by decide,by decide,by decide⟩
 | 2,_=>exact⟨by decide,by decide,by decide⟩
theorem aPj{z:Int} (h:1<=z/\z<=4):uP KO z=z-1:=by
 have:z=1\/z=2\/z=3\/z=4:=by omega
 rcases this with rfl | rfl | rfl | rfl<;>rfl
def Gd (texts:List (List UInt8)) (p:Int×Int) (m:Ms):Prop:=m.kind<256/\(m.fr=4\/∃(r:Int) (j:Nat) (t:List UInt8),(r=p.1\/r=p.2)/\texts[j]? =some t/\m=jI r (.ofNat (j+1)) t)
def aAN (texts:List (List UInt8)) (p:Int×Int) (h:Nat) (l:List (Int×List UInt8)):Prop:=∀q∈l,q.1=4\/((q.1=p.1\/q.1=p.2)/\texts[h]? =some q.2)
structure FS (texts:List (List UInt8)) (p:Int×Int) (h:Nat) (B0:Bd) (done:List Ms) (B:Bd):Prop where
 me:B.me=5
 ht:B.ht= .ofNat (h+1)
 kept:B.kept=B0.kept
 OX:OY B.told
 told:aAN texts p h B.told
 sub:∀q∈B0.told,q∈B.told
 dec:B.dec=[]\/texts[h]? =some B.dec
 two:B.dec=[]->∀t,¬((p.1,t)∈B.told/\(p.2,t)∈B.told)
 qP:∃a,B.qP=some a/\FO a
 all:B.dec=[]->∀m∈done,∀(r:Int) (j:Nat) (t:List UInt8),(r=p.1\/r=p.2)->texts[j]? =some t->m=jI r (.ofNat (j+1)) t->(r,t)∈B.told
theorem IB{q x:Int×List UInt8}{l:List (Int×List UInt8)}:q∈pZ l x↔q=x\/q∈l:=by
 rw [aGs];constructor
 ·exact Gv
 ·intro h
  induction l with
  | nil=>rcases h with rfl | h;exact .head _;cases h
  | cons a l ih=>
   unfold aAL;split
   ·rcases h with rfl | h
    ·exact .tail _ (ih (.inl rfl))
    ·rcases cO.1 h with rfl | h
     ·exact .head _
     ·exact .tail _ (ih (.inr h))
   ·rcases h with rfl | h
    ·exact .head _
    ·exact .tail _ h
theorem aIY{α:Type}{a b:α}{l:List α} (h:a≠b) (ha:a∈l) (hb:b∈l):1<l.length:=by
 match l with
 | []=>cases ha
 | [x]=>exact absurd ((wN.1 ha).trans (wN.1 hb).symm) h
 | x::y::l=>simp
theorem HI{l:List (Int×List UInt8)}{tx:List UInt8} (h:OY l) (hc:1<NN l tx):∃q∈l,q.2=tx/\q.1≠4:=by
 unfold NN at hc;have hp:(l.filter fun p=>decide (p.2=tx)).Pairwise (fun p q=>p.1<q.1):=h.1.sublist List.filter_sublist
 have hm:∀q∈l.filter fun p=>decide (p.2=tx),q∈l/\q.2=tx:=fun q hq=>by
  have:=dU.1 hq;exact⟨this.1,BD this.2⟩
 generalize (l.filter fun p=>decide (p.2=tx))=f at hc hp hm
 match f,hc with
 | x::y::f,_=>
  rw [rC]at hp;have hxy:=hp.1 y (.head _);by_cases e:x.1=4
  ·obtain⟨a,b⟩:=hm y (.tail _ (.head _))
   exact⟨y,a,b,by omega⟩
  ·obtain⟨a,b⟩:=hm x (.head _)
   exact⟨x,a,b,e⟩
section
variable{texts:List (List UInt8)}{p:Int×Int}{h:Nat}{B0 B:Bd}{done:List Ms}{m:Ms}
theorem FS.step (hp:PR p) (RW:∀t∈texts,Pr t=true) (f:FS texts p h B0 done B) (hg:Gd texts p m) (hm:m.ht= .ofNat (h+1)):FS texts p h B0 (done++[m]) (B.yE KO m):=by
 have tne:∀{j:Nat} {t:List UInt8},texts[j]? =some t->t≠[]:=fun {j t} e c=>by
  have:=RW t (rB e);rw [c]at this;cases this
 by_cases hd:B.dec=[]
 ·have hfr:1<=m.fr/\m.fr<=4:=by
   rcases hg.2 with e | ⟨r,j,t,hr,_,rfl⟩
   ·omega
   ·have:=hp.a;have:=hp.b
    show 1<=r/\r<=4;rcases hr with rfl | rfl<;>omega
  have aNI:=aPj hfr
  have est:B.yE KO m=if m.kind=5 then B.RV m.fr m.text else {B with qP:=B.qP.map fun a=>a.UX (uP KO m.fr+1) m.kind m.ht m.rd m.vl m.text}:=by
   unfold Bd.yE;rw [bM (by rw [aNI];omega),bK hd];rfl
  rw [est];by_cases hk:m.kind=5
  ·rw [if_pos hk]
   have aPk:m.fr=4\/((m.fr=p.1\/m.fr=p.2)/\texts[h]? =some m.text):=by
    rcases hg.2 with e | ⟨r,j,t,hr,hj,rfl⟩
    ·exact .inl e
    ·right
     have:j=h:=by
      have e:Int.ofNat (j+1)=Int.ofNat (h+1):=hm;injection e with e;omega
     subst this;exact⟨hr,hj⟩
   unfold Bd.RV;cases hh:Gu B.told m.fr with
   | true=>
    refine⟨f.me,f.ht,f.kept,f.OX,f.told,f.sub,f.dec,f.two,f.qP,fun _ x hx r j t hr hj e=>?_⟩;rcases oR.1 hx with hx | hx
    ·exact f.all hd x hx r j t hr hj e
    ·obtain rfl:=wN.1 hx
     subst e
     have hjh:j=h:=by
      have e:Int.ofNat (j+1)=Int.ofNat (h+1):=hm;injection e with e;omega
     subst hjh;obtain⟨q,hq,e⟩:=KY.1 hh;have e:q.1=r:=BD e;rcases f.told q hq with c | ⟨_,c⟩
     ·have:=hp.a;have:=hp.b
      rcases hr with rfl | rfl<;>omega
     ·rw [hj]at c
      injection c with c;have:q=(r,t):=by rw [<-e,c]
      rw [<-this];exact hq
   | false=>
    show FS texts p h B0 (done++[m]) {B with told:=pZ B.told (m.fr,m.text),dec:=if 1<NN (pZ B.told (m.fr,m.text)) m.text then m.text else B.dec};have hs:=f.OX.ins (z:=m.fr) (tx:=m.text) hh (by omega)
    have ht:aAN texts p h (pZ B.told (m.fr,m.text)):=fun q hq=>by
     rcases IB.1 hq with rfl | hq
     ·exact aPk
     ·exact f.told q hq
    have big:1<NN (pZ B.told (m.fr,m.text)) m.text->texts[h]? =some m.text/\m.text≠[]:=fun c=>by
     obtain⟨q,hq,e1,e2⟩:=HI hs c;rcases ht q hq with c | ⟨_,c⟩
     ·exact absurd c e2
     ·rw [e1]at c;exact⟨c,tne c⟩
    refine⟨f.me,f.ht,f.kept,hs,ht,fun q hq=>IB.2 (.inr (f.sub q hq)),?_,fun e t c=>?_,f.qP,fun _ x hx r j t hr hj e=>?_⟩
    ·by_cases c:1<NN (pZ B.told (m.fr,m.text)) m.text
     ·right
      show texts[h]? =some (if _ then _ else _);rw [if_pos c];exact(big c).1
     ·left
      show(if _ then _ else _)=_;rw [if_neg c];exact hd
    ·have e:(if 1<NN (pZ B.told (m.fr,m.text)) m.text then m.text else B.dec)=[]:=e
     by_cases cc:1<NN (pZ B.told (m.fr,m.text)) m.text
     ·rw [if_pos cc]at e;exact(big cc).2 e
     ·have both:m.text=t->False:=fun et=>by
       refine cc ?_;unfold NN;refine aIY (a:=(p.1,t)) (b:=(p.2,t)) (fun e=>hp.ne (kA Prod.fst e)) ?_ ?_
       ·exact dU.2 ⟨c.1,bK et.symm⟩
       ·exact dU.2 ⟨c.2,bK et.symm⟩
      rcases IB.1 c.1 with q1 | q1
      ·exact both (kA Prod.snd q1).symm
      ·rcases IB.1 c.2 with q2 | q2
       ·exact both (kA Prod.snd q2).symm
       ·exact f.two hd t ⟨q1,q2⟩
    ·rcases oR.1 hx with hx | hx
     ·exact IB.2 (.inr (f.all hd x hx r j t hr hj e))
     ·obtain rfl:=wN.1 hx
      subst e;exact IB.2 (.inl rfl)
  ·rw [if_neg hk]
   have h4:m.fr=4:=by
    rcases hg.2 with e | ⟨r,j,t,hr,hj,rfl⟩
    ·exact e
    ·exact absurd rfl hk
   obtain⟨a,ea,fa⟩:=f.qP;refine⟨f.me,f.ht,f.kept,f.OX,f.told,f.sub,f.dec,f.two,⟨_,by rw [ea];rfl,?_⟩,fun e x hx r j t hr hj e2=>?_⟩
   ·rw [aNI,h4]
    exact fa.UX
   ·rcases oR.1 hx with hx | hx
    ·exact f.all hd x hx r j t hr hj e2
    ·obtain rfl:=wN.1 hx
     subst e2;exact absurd rfl hk
 ·have est:B.yE KO m=B:=by
   unfold Bd.yE;rw [bM hd];simp
  rw [est];exact⟨f.me,f.ht,f.kept,f.OX,f.told,f.sub,f.dec,f.two,f.qP,fun e=>absurd e hd⟩
theorem FS.fold (hp:PR p) (RW:∀t∈texts,Pr t=true):∀(l:List Ms) (done:List Ms) (B:Bd),FS texts p h B0 done B->(∀m∈l,Gd texts p m/\m.ht= .ofNat (h+1))->FS texts p h B0 (done++l) (l.foldl (Bd.yE KO) B):=by
 intro l;induction l with
 | nil=>intro done B f _;rw [vJ];exact f
 | cons m l ih=>
  intro done B f hl;obtain⟨h1,h2⟩:=hl m (.head _);have:=ih (done++[m]) _ (f.step hp RW h1 h2) fun x hx=>hl x (.tail _ hx);rw [KX]at this;exact this
end
structure zN (texts:List (List UInt8)) (p:Int×Int) (h:Nat) (all:List Ms) (B:Bd):Prop where
 me:B.me=5
 ht:B.ht= .ofNat (h+1)
 hl:h<=texts.length
 dec:B.dec=[]
 gd:∀m∈B.kept,Gd texts p m
 OX:OY B.told
 told:aAN texts p h B.told
 two:∀t,¬((p.1,t)∈B.told/\(p.2,t)∈B.told)
 qP:∀a,B.qP=some a->FO a
 cmp:∀(r:Int) (j:Nat) (t:List UInt8),(r=p.1\/r=p.2)->texts[j]? =some t->h<=j->jI r (.ofNat (j+1)) t∈all\/jI r (.ofNat (j+1)) t∈B.kept\/(j=h/\(r,t)∈B.told)
def Stl (B:Bd):Prop:=∀m∈B.kept,m.ht≠B.ht
section
variable{texts:List (List UInt8)}{p:Int×Int}{h:Nat}{all:List Ms}{B:Bd}
theorem zN.open_ (hp:PR p) (RW:∀t∈texts,Pr t=true) (v:zN texts p h all B):FS texts p h {B.iL KO with kept:=B.kept.filter fun m=> !decide (m.ht=B.ht)} (B.kept.filter fun m=>decide (m.ht=B.ht)) ((B.iL KO).open_ KO):=by
 have f0:FS texts p h {B.iL KO with kept:=B.kept.filter fun m=> !decide (m.ht=B.ht)} [] {B.iL KO with kept:=B.kept.filter fun m=> !decide (m.ht=B.ht)}:=by
  refine⟨v.me,v.ht,rfl,v.OX,v.told,fun _ q=>q,.inl v.dec,fun _=>v.two,?_,fun _ m hm=>by cases hm⟩;refine⟨_,rfl,?_⟩;cases e:B.qP with
  | some a=>exact v.qP a e
  | none=>
   have e5:uP KO B.me+1=0:=by rw [v.me];rfl
   rw [e5];exact FO.start
 have:=f0.fold hp RW (B.kept.filter fun m=>decide (m.ht=B.ht)) [] _ fun m hm=>by
  obtain⟨h1,h2⟩:=dU.1 hm;exact⟨v.gd m h1,by rw [<-v.ht];exact BD h2⟩
 exact this
theorem zN.ok (hp:PR p) (RW:∀t∈texts,Pr t=true) (h8:texts.length<=8) (v:zN texts p h all B) (hc:B.kept.length<80000):BOk B:=by
 have hl:=v.hl;refine⟨hc,fun m hm=>(v.gd m hm).1,v.OX,?_,v.me,fun a ha=>?_⟩
 ·rw [v.ht];simp only [jZ];omega
 ·obtain⟨a',e,fa⟩:=(v.open_ hp RW).qP
  rw [e]at ha;injection ha with ha;subst ha;rw [fa.do]
theorem zN.aGG (h8:texts.length<=8) (v:zN texts p h all B):GP B=B.done KO:=by
 have hl:=v.hl;unfold GP;rw [aNB,bK v.dec,bK (show B.ht<=64 by rw [v.ht];simp only [jZ];omega)];rfl
theorem zN.rest (hp:PR p) (RW:∀t∈texts,Pr t=true) (h8:texts.length<=8) (v:zN texts p h all B) (hd:((B.iL KO).open_ KO).dec=[]):(GP B).dec=[]/\zN texts p h all (GP B)/\Stl (GP B)/\(GP B).kept.length<=B.kept.length:=by
 have f:=v.open_ hp RW;obtain⟨a,ea,fa⟩:=f.qP
 have e:GP B={(B.iL KO).open_ KO with qP:=some a,dec:=[]}:=by
  rw [v.aGG h8];unfold Bd.done;rw [if_pos hd,ea];simp only [fa.do,fa.dec]
 have hk:(GP B).kept=B.kept.filter fun m=> !decide (m.ht=B.ht):=by rw [e];exact f.kept
 have hto:(GP B).told=((B.iL KO).open_ KO).told:=by rw [e]
 have hht:(GP B).ht=B.ht:=by rw [e,v.ht];exact f.ht
 refine⟨by rw [e],⟨?_,?_,v.hl,by rw [e],fun m hm=>?_,?_,?_,?_,fun x hx=>?_,fun r j t hr hj hh=>?_⟩,fun m hm=>?_,?_⟩
 ·rw [e];exact f.me
 ·rw [hht];exact v.ht
 ·rw [hk]at hm;exact v.gd m (dU.1 hm).1
 ·rw [hto];exact f.OX
 ·rw [hto];exact f.told
 ·rw [hto];exact f.two hd
 ·rw [e]at hx;injection hx with hx;subst hx;exact fa
 ·rcases v.cmp r j t hr hj hh with c | c | ⟨c1,c2⟩
  ·exact .inl c
  ·right
   by_cases hjh:j=h
   ·right
    refine⟨hjh,?_⟩;rw [hto];subst hjh;exact f.all hd _ (dU.2 ⟨c,bK (by rw [v.ht];rfl)⟩) r j t hr hj rfl
   ·left
    rw [hk];refine dU.2 ⟨c,?_⟩
    have:¬(jI r (.ofNat (j+1)) t).ht=B.ht:=fun q=>by
     rw [v.ht]at q;have q:Int.ofNat (j+1)=Int.ofNat (h+1):=q;injection q with q;omega
    rw [bM this];rfl
  ·right;right
   exact⟨c1,by rw [hto];exact f.sub _ c2⟩
 ·rw [hk]at hm
  rw [hht];have:=(dU.1 hm).2;simpa using this
 ·rw [hk];exact VJ _ _
theorem zN.next (hp:PR p) (RW:∀t∈texts,Pr t=true) (h8:texts.length<=8) (v:zN texts p h all B) (hd:((B.iL KO).open_ KO).dec≠[]):texts[h]? =some (GP B).dec/\(GP B).dec≠[]/\(GP B).ht=B.ht/\(GP B).kept.length<=B.kept.length/\zN texts p (h+1) all (GP B).next/\(GP B).next.kept.length<=B.kept.length:=by
 have f:=v.open_ hp RW
 have e:GP B=(B.iL KO).open_ KO:=by
  rw [v.aGG h8];unfold Bd.done;rw [if_neg hd]
 have aIC:texts[h]? =some (GP B).dec:=by
  rw [e];exact f.dec.resolve_left hd
 have hk:(GP B).kept=B.kept.filter fun m=> !decide (m.ht=B.ht):=by rw [e];exact f.kept
 have hht:(GP B).ht=B.ht:=by rw [e,v.ht];exact f.ht
 have hkl:(GP B).kept.length<=B.kept.length:=by rw [hk];exact VJ _ _
 have hlt:=(cZ.1 aIC).1;refine⟨aIC,by rw [e];exact hd,hht,hkl,⟨?_,?_,by omega,rfl,fun m hm=>?_,⟨.nil,fun _ c=>by cases c⟩,fun q hq=>(by cases hq),fun t c=>(by cases c.1),fun a ha=>(by cases ha),fun r j t hr hj hh=>?_⟩,rD (VJ _ _) hkl⟩
 ·show(GP B).me=5
  rw [e];exact f.me
 ·show(GP B).ht+1=_
  rw [hht,v.ht];rfl
 ·have hm:=(dU.1 hm).1
  rw [hk]at hm;exact v.gd m (dU.1 hm).1
 ·rcases v.cmp r j t hr hj (by omega)with c | c | ⟨c1,c2⟩
  ·exact .inl c
  ·right;left
   have h1:¬(jI r (.ofNat (j+1)) t).ht=B.ht:=fun q=>by
    rw [v.ht]at q;have q:Int.ofNat (j+1)=Int.ofNat (h+1):=q;injection q with q;omega
   have h2:¬(jI r (.ofNat (j+1)) t).ht<=(GP B).ht:=fun q=>by
    rw [hht,v.ht]at q;have q:Int.ofNat (j+1)<=Int.ofNat (h+1):=q;simp only [jZ]at q;omega
   refine dU.2 ⟨?_,by rw [bM h2];rfl⟩;rw [hk];exact dU.2 ⟨c,by rw [bM h1];rfl⟩
  ·omega
theorem aGH (hp:PR p) (RW:∀t∈texts,Pr t=true) (h8:texts.length<=8):∀(q h:Nat) (B:Bd),h+q=texts.length->zN texts p h all B->B.kept.length<80000->
 ∃n B' h',n<=q+1/\InR n B (texts.take h) B' (texts.take h')/\zN texts p h' all B'/\Stl B'/\B'.kept.length<=B.kept.length:=by
 intro q;induction q with
 | zero=>
  intro h B hq v hc
  have hd:((B.iL KO).open_ KO).dec=[]:=by
   rcases(v.open_ hp RW).dec with c | c
   ·exact c
   ·rw [DC (by omega)]at c;cases c
  obtain⟨e,v',s,hk⟩:=v.rest hp RW h8 hd;refine⟨1,GP B,h,bN _,.stop (v.ok hp RW h8 hc) e (by omega) ?_ 0,v',s,hk⟩;rw [v'.ht];simp only [jZ];omega
 | succ q ih=>
  intro h B hq v hc;by_cases hd:((B.iL KO).open_ KO).dec=[]
  ·obtain⟨e,v',s,hk⟩:=v.rest hp RW h8 hd
   refine⟨1,GP B,h,by omega,.stop (v.ok hp RW h8 hc) e (by omega) ?_ 0,v',s,hk⟩;rw [v'.ht];simp only [jZ];omega
  ·obtain⟨e1,e2,e3,e4,v',e5⟩:=v.next hp RW h8 hd
   obtain⟨n,B',h',hn,hr,v2,s,hk⟩:=ih (h+1) _ (by omega) v' (by omega);refine⟨n+1,B',h',by omega,.go (v.ok hp RW h8 hc) e2 (by omega) ?_ ?_,v2,s,by omega⟩
   ·rw [e3,v.ht];simp only [jZ];omega
   ·rw [GE,e1]at hr
    exact hr
theorem aIZ{m:Ms}:(B.take m).me=B.me:=by unfold Bd.take;split<;>rfl
theorem aI0{m:Ms}:(B.take m).ht=B.ht:=by unfold Bd.take;split<;>rfl
theorem aGI{m:Ms}:(B.take m).dec=B.dec:=by unfold Bd.take;split<;>rfl
theorem OI{m:Ms}:(B.take m).told=B.told:=by unfold Bd.take;split<;>rfl
theorem aGJ{m:Ms}:(B.take m).qP=B.qP:=by unfold Bd.take;split<;>rfl
theorem aDC{m x:Ms} (h:x∈(B.take m).kept):x∈B.kept\/x=m:=by
 unfold Bd.take at h;split at h
 ·rcases oR.1 h with h | h
  ·exact .inl h
  ·exact .inr (wN.1 h)
 ·exact .inl h
theorem Ki{m x:Ms} (h:x∈B.kept):x∈(B.take m).kept:=by
 unfold Bd.take;split
 ·exact Xb _ h
 ·exact h
theorem Wf{m:Ms}:(B.take m).kept.length<=B.kept.length+1:=by
 unfold Bd.take;split
 ·rw [bW];exact bN _
 ·exact VY _
theorem zN.take{m:Ms} (v:zN texts p h all B) (hg:Gd texts p m):zN texts p h all (B.take m):=by
 refine⟨by rw [aIZ];exact v.me,by rw [aI0];exact v.ht,v.hl,by rw [aGI];exact v.dec,fun x hx=>?_,by rw [OI];exact v.OX,by rw [OI];exact v.told,by rw [OI];exact v.two,by rw [aGJ];exact v.qP,fun r j t hr hj hh=>?_⟩
 ·rcases aDC hx with c | rfl
  ·exact v.gd x c
  ·exact hg
 ·rw [OI]
  rcases v.cmp r j t hr hj hh with c | c | c
  ·exact .inl c
  ·exact .inr (.inl (Ki c))
  ·exact .inr (.inr c)
theorem zN.jB{junk:List Ms}{i:Nat} (Xu:∀m∈junk,m.kind<256) (v:zN texts p h all B):zN texts p h all (jB junk i B):=by
 unfold Am.jB;split
 ·rename_i m e
  split
  ·exact v.take ⟨Xu m (rB e),.inl rfl⟩
  ·exact v
 ·exact v
theorem aL5{junk:List Ms}{i:Nat}:(jB junk i B).kept.length<=B.kept.length+1:=by
 unfold jB;split
 ·split
  ·exact Wf
  ·omega
 ·omega
theorem aGK{r:Int}{j:Nat}{t:List UInt8} (hr:1<=r/\r<=3) (hj:j<8) (ht:Pr t=true):Pm (jI r (.ofNat (j+1)) t)=true:=by
 unfold Pr at ht;simp only [uI,Xc,VI]at ht;obtain⟨h1,h2⟩:=ht;have k1:oZ 5 1=false:=by kernel_rfl
 have k2:oZ 5 2=false:=by kernel_rfl
 have k4:oZ 5 4=true:=by kernel_rfl
 have k8:oZ 5 8=false:=by kernel_rfl
 have k16:oZ 5 16=false:=by kernel_rfl
 have k32:oZ 5 32=false:=by kernel_rfl
 have k64:oZ 5 64=false:=by kernel_rfl
 have aPl:oZ 5 128=false:=by kernel_rfl
 have aPm:oZ 5 256=true:=by kernel_rfl
 have aPn:oZ 5 512=true:=by kernel_rfl
 have aNJ:oZ 5 1024=false:=by kernel_rfl
 have kn:cC 5=772:=rfl;unfold Pm JO jI;simp only [VW,List.all_nil,k1,k2,k4,k8,k16,k32,k64,aPl,aPm,aPn,aNJ,kn,Ap,id,fD,fJ,QD,Cl,Bool.or_false,Bool.false_or,Bool.and_true,Bool.true_or,bT,decide_eq_true_eq,uI,VI,cJ,if_false,jZ,PZ,h1,not_false_eq_true,true_and];refine⟨by omega,by omega,by omega,by omega,by omega,by omega⟩
theorem aDD (hp:PR p) (RW:∀t∈texts,Pr t=true) (h8:texts.length<=8) (v:zN texts p h all B){r:Int}{j:Nat}{t:List UInt8} (hr:r=p.1\/r=p.2) (hj:texts[j]? =some t) (hh:h<=j):jI r (.ofNat (j+1)) t∈(B.take (jI r (.ofNat (j+1)) t)).kept:=by
 have hr3:1<=r/\r<=3:=by rcases hr with rfl | rfl;exact hp.a;exact hp.b
 have PF:=(cZ.1 hj).1;have hm:=aGK hr3 (show j<8 by omega) (RW t (rB hj));by_cases c:XW B.ht B.kept (jI r (.ofNat (j+1)) t)=true
 ·unfold Bd.take
  rw [if_pos c];exact Wy _ (.head _)
 ·refine Ki ?_
  unfold XW at c;have c1:decide ((jI r (.ofNat (j+1)) t).kind<2)=false:=rfl;have c2:decide (5<(jI r (.ofNat (j+1)) t).kind)=false:=rfl
  have c3:decide ((jI r (.ofNat (j+1)) t).ht<B.ht)=false:=bM fun q=>by
   rw [v.ht]at q;have q:Int.ofNat (j+1)<Int.ofNat (h+1):=q;simp only [jZ]at q;omega
  rw [hm,c1,c2,c3]at c;simp only [fD,QD,Bool.not_eq_true,Bool.not_eq_false']at c;obtain⟨a,ha,hl⟩:=KY.1 c;unfold Gn at hl;simp only [bT,decide_eq_true_eq]at hl;obtain⟨⟨⟨e1,e2⟩,e3⟩,e4⟩:=hl;have e1:a.fr=r:=e1;rcases(v.gd a ha).2 with q | ⟨r',j',t',hr',YH,rfl⟩
  ·omega
  ·have e1:r'=r:=e1
   have e2:Int.ofNat (j'+1)=Int.ofNat (j+1):=e2;injection e2 with e2;obtain rfl:j'=j:=by omega
   rw [hj]at YH;injection YH with YH;subst e1 YH;exact ha
def aGL (texts:List (List UInt8)) (p:Int×Int) (all:List Ms):Prop:=∀m∈all,∃(r:Int) (j:Nat) (t:List UInt8),(r=p.1\/r=p.2)/\texts[j]? =some t/\m=jI r (.ofNat (j+1)) t
theorem zN.tell (hp:PR p) (RW:∀t∈texts,Pr t=true) (h8:texts.length<=8) (v:zN texts p h all B) (ha:aGL texts p all){k:Nat}{m:Ms} (hk:all[k]? =some m):zN texts p h (all.take k++all.drop (k+1)) (B.take m):=by
 obtain⟨r0,j0,t0,hr0,hj0,em⟩:=ha m (rB hk);have v1:zN texts p h all (B.take m):=v.take ⟨by rw [em];exact(by decide:(5:Nat)<256),.inr ⟨r0,j0,t0,hr0,hj0,em⟩⟩;refine⟨v1.me,v1.ht,v1.hl,v1.dec,v1.gd,v1.OX,v1.told,v1.two,v1.qP,fun r j t hr hj hh=>?_⟩;rcases v1.cmp r j t hr hj hh with c | c | c
 ·have hkl:=(cZ.1 hk).1
  have e:all=all.take k++m::all.drop (k+1):=by
   conv=>lhs;rw [<-IE k all,BB hkl]
   rw [(cZ.1 hk).2]
  rw [e]at c;rcases oR.1 c with c | c
  ·exact .inl (Xb _ c)
  ·rcases cO.1 c with c | c
   ·right;left
    rw [<-c];exact aDD hp RW h8 v hr hj hh
   ·exact .inl (Wy _ c)
 ·exact .inr (.inl c)
 ·exact .inr (.inr c)
theorem aGM (hp:PR p) (RW:∀t∈texts,Pr t=true) (h8:texts.length<=8){junk:List Ms} (Xu:∀m∈junk,m.kind<256){n:Int}:∀(q i h:Nat) (all:List Ms) (B:Bd),all.length=q->aGL texts p all->zN texts p h all B->Stl B->i+q<900->B.kept.length+2*q<70000->
 ∃f,f<=q+1/\aAM junk n f all i B (texts.take h) texts:=by
 intro q;induction q with
 | zero=>
  intro i h all B hq ha v s hi hc;obtain rfl:=lZ hq;refine⟨1,bN _,?_⟩
  have e:texts.take h=texts:=by
   by_cases c:h<texts.length
   ·have hj:texts[h]? =some texts[h]:=aS c
    have one:∀r,(r=p.1\/r=p.2)->(r,texts[h])∈B.told:=fun r hr=>by
     rcases v.cmp r h _ hr hj (bN _)with c | c | c
     ·cases c
     ·exact absurd v.ht.symm (s _ c)
     ·exact c.2
    exact absurd ⟨one _ (.inl rfl),one _ (.inr rfl)⟩ (v.two texts[h])
   ·exact uG (by omega)
  have:=aAM.stop (junk:=junk) (n:=n) (i:=i) (f:=0) (B:=B) (log:=texts.take h);rw [e]at this ⊢;exact this
 | succ q ih=>
  intro i h all B hq ha v s hi hc;have hk:=aGC (n:=n) (i:=i) (len:=all.length) (by omega);have hm:=aS hk;have hl1:=aL5 (junk:=junk) (i:=i) (B:=B);have v1:=(v.jB (i:=i) Xu).tell hp RW h8 ha hm;have Gz:=Wf (B:=jB junk i B) (m:=all[Wp n i all.length]);obtain⟨nI,B',h',hn,hr,v2,s2,hc2⟩:=aGH hp RW h8 (texts.length-h) h _ (by have:=v.hl;omega) v1 (by omega)
  have hl3:(all.take (Wp n i all.length)++all.drop (Wp n i all.length+1)).length=q:=by
   rw [bW,iX,mO];omega
  obtain⟨f,hf,ho⟩:=ih (i+1) h' _ B' hl3 (fun m hm=>ha m (by
   rcases oR.1 hm with c | c
   ·exact List.mem_of_mem_take c
   ·exact Kr c)) v2 s2 (by omega) (by omega)
  obtain⟨r0,j0,t0,hr0,hj0,em⟩:=ha _ (sW hk);refine⟨f+1,by omega,.go hm ?_ (by omega) (by omega) (by omega) (by omega) (show nI<=1000 by omega) ?_ hr ho⟩
  ·rw [em];exact(by decide:(5:Nat)<256)
  ·rw [iX];omega
end
theorem aI1 (p:Int×Int) (texts:List (List UInt8)):∀q,aGL texts p (OZ p texts q):=by
 intro q;induction q with
 | zero=>intro m hm;cases hm
 | succ q ih=>
  intro m hm;unfold OZ at hm;rcases oR.1 hm with c | c
  ·exact ih m c
  ·cases e:texts[q]? with
   | none=>rw [e]at c;cases c
   | some t=>
    rw [e]at c;rcases cO.1 c with c | c
    ·exact⟨_,q,t,.inl rfl,e,c⟩
    ·exact⟨_,q,t,.inr rfl,e,wN.1 c⟩
theorem aGN (p:Int×Int) (texts:List (List UInt8)){r:Int} (hr:r=p.1\/r=p.2):∀(q j:Nat) (t:List UInt8),j<q->texts[j]? =some t->jI r (.ofNat (j+1)) t∈OZ p texts q:=by
 intro q;induction q with
 | zero=>intro j t hj;omega
 | succ q ih=>
  intro j t hj e;unfold OZ;by_cases c:j=q
  ·subst c
   rw [e];refine Wy _ ?_;rcases hr with rfl | rfl
   ·exact .head _
   ·exact .tail _ (.head _)
  ·exact Xb _ (ih j t (by omega) e)
theorem aL6:aJx:=by
 intro texts by_ n junk h8 h30 RW Xu;have hp:=aL4 by_
 have v0:zN texts (prT by_) 0 (OZ (prT by_) texts texts.length) bd0:=by
  refine⟨rfl,rfl,mP _,rfl,fun m hm=>(by cases hm),⟨.nil,fun _ c=>by cases c⟩,fun q hq=>(by cases hq),fun t c=>(by cases c.1),fun a ha=>(by cases ha),fun r j t hr hj _=>?_⟩;exact .inl (aGN _ _ hr _ j t (cZ.1 hj).1 hj)
 have hlen:=We (prT by_) texts texts.length;obtain⟨f,hf,ho⟩:=aGM hp RW h8 Xu (n:=n) _ 0 0 _ bd0 rfl (aI1 _ _ _) v0 (fun m hm=>by cases hm) (by omega) (by show 0+_<_;omega);exact⟨f,by omega,ho⟩
end Go.Am
namespace Go.Am
open Go.RowKit Go.MapKept Go.Proofs
section
variable{S:St}{C:Nat->Prop}
theorem aDE{α:Type}{f:α->List Dt}{w:Nat} (hf:∀a,(f a).length=w) (l:List α):(l.flatMap f).length=l.length*w:=by
 induction l with
 | nil=>simp
 | cons a l ih=>rw [VO,bW,ih,hf,rZ,Nat.succ_mul];omega
theorem aDF{α:Type}{f:α->List Dt}{w:Nat} (hf:∀a,(f a).length=w):∀(l:List α) (j:Nat) (d:Dt),(l.flatMap f)[j]? =some d->0<w->∃k i a,j=k*w+i/\i<w/\l[k]? =some a/\(f a)[i]? =some d:=by
 intro l;induction l with
 | nil=>intro j d h;simp at h
 | cons a l ih=>
  intro j d h hw;rw [VO]at h;by_cases c:j<w
  ·rw [fQ (by rw [hf];exact c)]at h
   exact⟨0,j,a,by omega,c,rfl,h⟩
  ·rw [iO (by rw [hf];omega),hf]at h
   obtain⟨k,i,a',h1,h2,h3,h4⟩:=ih _ _ h hw;exact⟨k+1,i,a',by rw [Nat.succ_mul];omega,h2,h3,h4⟩
theorem Wg{its:List It}{v:Value}{d:D} (h:Rd S C (.list its) v d){α:Type} (f:α->List Dt) (g:α->Prop) (hp:0<its.length) (hlen:∀a,(f a).length=its.length)
 (hf:∀(vs:List Value) (ds:List D),RdA S C its vs ds->∃a,(∀(j:Nat) (d:Dt) (v:Value),(f a)[j]? =some d->vs[j]? =some v->RY S C d v)/\g a):
 ∃l:List α,RY S C (.list (l.flatMap f) l.length) v/\(∀a∈l,g a)/\l.length<=140737488355328/\l.length*Yh its<=140737488355328:=by
 cases h with
 | empty=>exact⟨[],.nil,(fun a h=>by cases h),mP _,by simp⟩
 | Mm=>exact⟨[],.emp,(fun a h=>by cases h),mP _,by simp⟩
 | @row _ b o n c sp vs e ck es AA hb hC ho hw hn hl hd hN Xn hr=>
  have each:∀k:Nat,k<n->∃a:α,(∀(j:Nat) (d:Dt) (v:Value),(f a)[j]? =some d->vs[o+k*its.length+j]? =some v->RY S C d v)/\g a:=by
   intro k hk;have Yb:k<es.length:=by omega
   have hds:=hd es[k] (sW Yb)
   have hle:k*its.length+its.length<=n*its.length:=by
    have:(k+1)*its.length<=n*its.length:=oQ _ hk
    rwa [kJ,Nat.one_mul]at this
   obtain⟨a,h1,h2⟩:=hf ((vs.drop (o+k*its.length)).take its.length) es[k] ⟨by rw [iX,mO];omega,hds,fun j it v d a1 a2 a3=>by
    rw [kZ]at a2;split at a2
    ·rw [kI]at a2
     exact hr k es[k] j it v d (aS Yb) a1 a2 a3
    ·cases a2⟩
   refine⟨a,fun j d v e1 e2=>h1 j d v e1 ?_,h2⟩;have:j<its.length:=by rw [<-hlen a];exact(cZ.1 e1).1
   rw [kZ,if_pos this,kI];exact e2
  rcases IG n with h0 | h0
  ·subst h0
   exact⟨[],.row AA hb hC ho (by simp;omega) Xn (fun j d v e=>by simp at e),(fun a h=>by cases h),mP _,by simp⟩
  ·obtain⟨a0,_⟩:=each 0 h0
   let F:Nat->α:=fun k=>if h:k<n then(each k h).choose else a0
   have hF:∀k,k<n->(∀(j:Nat) (d:Dt) (v:Value),(f (F k))[j]? =some d->vs[o+k*its.length+j]? =some v->RY S C d v)/\g (F k):=fun k h=>by
    show(∀(j:Nat) (d:Dt) (v:Value),(f (if h:k<n then(each k h).choose else a0))[j]? =some d->vs[o+k*its.length+j]? =some v->RY S C d v)/\g (if h:k<n then(each k h).choose else a0);rw [dif_pos h];exact(each k h).choose_spec
   refine⟨(List.range n).map F,?_,fun a ha=>?_,by simpa using hN.1,by simpa using hN.2⟩
   ·have:RY S C (.list (((List.range n).map F).flatMap f) n) (.slice (some ⟨b,o,sp⟩) n c):=by
     refine .row AA hb hC ho (by rw [aDE hlen];simpa using hl) Xn fun j d v e1 e2=>?_;obtain⟨k,i,a,q1,q2,q3,q4⟩:=aDF hlen _ _ _ e1 hp;rw [lA]at q3;cases hj:(List.range n)[k]? with
     | none=>rw [hj]at q3;cases q3
     | some q=>
      rw [hj]at q3;injection q3 with q3;have hjn:k<n:=by have:=(cZ.1 hj).1;simpa using this
      rw [Cg hjn]at hj;injection hj with hj;subst hj q3 q1;exact(hF k hjn).1 i d v q4 (by rw [sX];exact e2)
    simpa using this
   ·obtain⟨k,hk,rfl⟩:=mA.1 ha
    exact(hF k (by simpa using hk)).2
theorem aGO{α:Type} (f:α->Dt) (l:List α):l.flatMap (fun a=>[f a])=l.map f:=by
 induction l with
 | nil=>rfl
 | cons a l ih=>rw [VO,ih];rfl
theorem RdA.at{its:List It}{vs:List Value}{ds:List D} (h:RdA S C its vs ds){j:Nat}{it:It}{v:Value} (h1:its[j]? =some it) (h2:vs[j]? =some v):∃d,Rd S C it v d:=by
 have:j<ds.length:=by rw [h.Ml];exact(cZ.1 h1).1
 exact⟨_,h.rd j it v _ h1 h2 (aS this)⟩
theorem RdA.ex{its:List It}{vs:List Value}{ds:List D} (h:RdA S C its vs ds){j:Nat}{it:It} (h1:its[j]? =some it):∃v d,vs[j]? =some v/\Rd S C it v d:=by
 have:j<vs.length:=by rw [h.len];exact(cZ.1 h1).1
 obtain⟨d,hd⟩:=h.at h1 (aS this);exact⟨_,d,aS this,hd⟩
theorem aJy{it:It}{v:Value}{d:D} (h:Rd S C (.list [it]) v d){α:Type} (f:α->Dt) (g:α->Prop) (hf:∀(v:Value) (d:D),Rd S C it v d->∃a,RY S C (f a) v/\g a):∃l:List α,RY S C (.list (l.map f) l.length) v/\(∀a∈l,g a)/\l.length<=140737488355328/\l.length*wIt it<=140737488355328:=by
 obtain⟨l,h1,h2,h3,h4⟩:=Wg h (fun a=>[f a]) g (Nat.zero_lt_one) (fun _=>rfl) (fun vs ds hr=>by
  obtain⟨u,d,q1,q2⟩:=hr.ex (j:=0) rfl;obtain⟨a,q3,q4⟩:=hf u d q2;refine⟨a,fun j d v e1 e2=>?_,q4⟩
  match j,e1 with
  | 0,e1=>injection e1 with e1;rw [q1]at e2;injection e2 with e2;subst e1 e2;exact q3)
 rw [aGO]at h1;exact⟨l,h1,h2,h3,by simpa [Yh]using h4⟩
theorem aGP{v:Value}{d:D} (h:Rd S C .nums v d):∃l:List Nat,RY S C (.list (l.map fun n=>Dt.int .u64 (.ofNat n)) l.length) v:=by
 cases h with
 | nums h=>
  obtain⟨l,h1,_⟩:=aJy h (fun z:Nat=>Dt.int .u64 (.ofNat z)) (fun _=>True) fun v d q=>by cases q with | @num z h=>exact⟨z,.int,trivial⟩
  exact⟨l,h1⟩
theorem aI2{v:Value}{d:D} (h:Rd S C (.list [.text]) v d):∃l:List (List UInt8),RY S C (.list (strs l) l.length) v:=by
 obtain⟨l,h1,_⟩:=aJy h Dt.str (fun _=>True) fun v d q=>by cases q with | text h=>exact⟨_,.str,trivial⟩
 exact⟨l,h1⟩
def aAO:List It:=[.kind,.int,.int,.int,.int,.int,.int,.int,.int,.text,.nums]
theorem aL7{vs:List Value}{ds:List D} (hr:RdA S C aAO vs ds):∃m:Ms,(∀(j:Nat) (d:Dt) (v:Value),(ZV m)[j]? =some d->vs[j]? =some v->RY S C d v)/\m.kind<256:=by
 obtain⟨u0,d0,a0,b0⟩:=hr.ex (j:=0) rfl;obtain⟨u1,d1,a1,b1⟩:=hr.ex (j:=1) rfl;obtain⟨u2,d2,a2,b2⟩:=hr.ex (j:=2) rfl;obtain⟨u3,d3,a3,b3⟩:=hr.ex (j:=3) rfl;obtain⟨u4,d4,a4,b4⟩:=hr.ex (j:=4) rfl;obtain⟨u5,d5,a5,b5⟩:=hr.ex (j:=5) rfl;obtain⟨u6,d6,a6,b6⟩:=hr.ex (j:=6) rfl;obtain⟨u7,d7,a7,b7⟩:=hr.ex (j:=7) rfl;obtain⟨u8,d8,a8,b8⟩:=hr.ex (j:=8) rfl;obtain⟨u9,d9,a9,b9⟩:=hr.ex (j:=9) rfl;obtain⟨u10,d10,a10,b10⟩:=hr.ex (j:=10) rfl;obtain⟨kind,rfl,_,hk⟩:=b0.aEf;obtain⟨z1,rfl,_,_,_⟩:=b1.FM;obtain⟨z2,rfl,_,_,_⟩:=b2.FM;obtain⟨z3,rfl,_,_,_⟩:=b3.FM;obtain⟨z4,rfl,_,_,_⟩:=b4.FM;obtain⟨z5,rfl,_,_,_⟩:=b5.FM;obtain⟨z6,rfl,_,_,_⟩:=b6.FM;obtain⟨z7,rfl,_,_,_⟩:=b7.FM;obtain⟨z8,rfl,_,_,_⟩:=b8.FM;obtain⟨tx,rfl⟩:∃l:List UInt8,u9= .string ⟨⟨l⟩⟩:=by cases b9 with | text h=>exact⟨_,rfl⟩
 obtain⟨ns,g10⟩:=aGP b10;refine⟨⟨kind,z1,z2,z3,z4,z5,z6,z7,z8,tx,ns⟩,fun j d v e1 e2=>?_,hk⟩
 match j,e1 with
 | 0,e1=>injection e1 with e1;rw [a0]at e2;injection e2 with e2;subst e1 e2;exact .int
 | 1,e1=>injection e1 with e1;rw [a1]at e2;injection e2 with e2;subst e1 e2;exact .int
 | 2,e1=>injection e1 with e1;rw [a2]at e2;injection e2 with e2;subst e1 e2;exact .int
 | 3,e1=>injection e1 with e1;rw [a3]at e2;injection e2 with e2;subst e1 e2;exact .int
 | 4,e1=>injection e1 with e1;rw [a4]at e2;injection e2 with e2;subst e1 e2;exact .int
 | 5,e1=>injection e1 with e1;rw [a5]at e2;injection e2 with e2;subst e1 e2;exact .int
 | 6,e1=>injection e1 with e1;rw [a6]at e2;injection e2 with e2;subst e1 e2;exact .int
 | 7,e1=>injection e1 with e1;rw [a7]at e2;injection e2 with e2;subst e1 e2;exact .int
 | 8,e1=>injection e1 with e1;rw [a8]at e2;injection e2 with e2;subst e1 e2;exact .int
 | 9,e1=>injection e1 with e1;rw [a9]at e2;injection e2 with e2;subst e1 e2;exact .str
 | 10,e1=>injection e1 with e1;rw [a10]at e2;injection e2 with e2;subst e1 e2;exact g10
theorem aI3{v:Value}{d:D} (h:Rd S C (.list aAO) v d):∃l:List Ms,RY S C (.list (pI l) l.length) v/\∀m∈l,m.kind<256:=by
 obtain⟨l,h1,h2,_⟩:=Wg h ZV (fun m=>m.kind<256) (by decide) (fun _=>rfl) (fun vs ds hr=>aL7 hr);exact⟨l,h1,h2⟩
end
def c0 (ws:List Value) (n:Nat):Cx:=⟨fun _=>none,fun _ _=>none,fun k=>ws[k]?,n⟩
theorem aGQ (P:Program) (S:St) (ws:List Value):VS P (fun _=>False) S (c0 ws S.n) (fun _=>none) S:=by
 refine⟨.refl S,fun b h=>h.elim,(fun i o e _=>by cases e),(fun i vs t n e=>by cases e),fun i j b l _=>?_,(fun i n w e=>by cases e),⟨0,fun i _=>⟨rfl,rfl,fun n=>rfl⟩⟩,⟨ws.length,fun k hk=>DC hk⟩,(fun i vs t n m b e=>by cases e),(fun i vs t n b w e o e1=>by cases e1)⟩;rcases l with ⟨o,e,_⟩ | ⟨vs,t,n,m,e,_⟩<;>cases e
theorem aDG{ws:List Value}{n b:Nat}:¬cY (fun _=>False) (c0 ws n) (fun _=>none) b:=by
 rintro(h | ⟨i,⟨o,e,_⟩ | ⟨vs,t,n,m,e,_⟩⟩)
 ·exact h
 ·cases e
 ·cases e
theorem aGR{ws:List Value} (S:St):yG (fun _=>False) S S (cY (fun _=>False) (c0 ws S.n) (fun _=>none)):=⟨bN _,fun _ _ _=>rfl,fun b hb=>(aDG hb).elim⟩
theorem Lay.none{P:Program}{w:World} (hsz:P.globals.size<=w.heap.size):Lay P w (Rn.globals P.globals.size) (St.none P.globals.size):=by
 refine⟨Rel.none hsz,fun i o h=>?_⟩;have:(St.none P.globals.size).obj i=Option.none:=rfl;rw [this]at h;cases h
def aI4:V->Prop
 | .bool b=>b=true
 | _=>False
theorem aDH{W:World}{U:Rn}{S:St} (hsz:PP.globals.size<=W.heap.size) (hg:Laid gs W) (hl:Lay PP W U S) (roots:List Value){f:FuncId}{va:List V}{us vs:List Value}{M m:Nat} (ra:kE (c0 roots S.n) S (cY (fun _=>False) (c0 roots S.n) (fun _=>none)) va us) (hu:kK U us vs)
 (hv:(Ns PP cM gT M m).call f va (fun _=>none) (fun v _=>aI4 v)):Calls PP f ⟨vs⟩ W (fun e w'=>e= .returned (.bool true)/\Below W.heap.size W w'):=by
 have hk:=(aFN (P:=PP) (B:=fun _=>False) (Sb:=S) (tb:=cM) aLG M m).aBF f (aGQ PP S roots) ra (K:=fun v _=>isTrue v) (fun c' h' S' v w _ _ _ r hb=>by
  cases r with
  | bool=>exact hb
  | _=>cases hb) hv
 obtain⟨_,JX⟩:=(Yy (P:=PP) (w0:=W) (tb:=cM) (most:=M) (aHt (w:=W) hsz hg) names mixed m).1 f us S (fun v _=>isTrue v) U W vs hk hl.1 hu;refine Calls.mono (callsIn_wide.1 JX) ?_
 rintro e w' ⟨v',rfl,U3,v,S3,tC,hv,hrel,_⟩
 cases v with
 | bool b=>
  have hb:b=true:=tC;subst hb;rw [hv.of_flat rfl];exact⟨rfl,hrel.base⟩
 | _=>cases tC
theorem aNK:Sj PP 8 22=some [.list [.text]]:=by kernel_rfl
theorem aNL:Sj PP 8 23=some [.list aAO]:=by kernel_rfl
theorem Wh{H:Type}{enc:TypeId×Value->H}{W:World}{t:TypeId}{its:List It} (hits:Sj PP 8 t=some [.list its]){v:Value}{d:DataW H}{p:List MemPlace} (hc:v.cells= #[v]) (h:DataW.Trod enc PP W 0 (fun _=>true) true t v d p) (hz:∀b off,MemPlace.cell b off∈p->W.frozen? ⟨b,off,none⟩=false) (hw:∀x∈d.weights PP t,x<=reachBytes)
 {U:Rn} {S:St} (hl:Lay PP W U S):∃U' S' u D,Ext U U'/\Lay PP W U' S'/\IX S S'/\VR U' u v/\Rd S' (fun _=>False) (.list its) u D:=by
 obtain⟨F,hF⟩:=h;obtain⟨U',S',vs,ds,e1,l1,x1,DQ,hr⟩:=lay (P:=PP) (w:=W) (fun _=>true) (fun _=>rfl) F 8 t v.cells.toList d p hF hz hw [.list its] hits U S hl;rw [hc]at DQ;have hlen:vs.length=1:=hr.len
 match vs,hlen,DQ,hr with
 | [u],_,DQ,hr=>
  have hd:ds.length=1:=hr.Ml
  match ds,hd,hr with
  | [d1],_,hr=>exact⟨U',S',u,d1,e1,l1,x1,DQ.2 0 u v rfl rfl,hr.rd 0 _ _ _ rfl rfl rfl⟩
theorem called_told{H:Type}{enc:TypeId×Value->H}{W:World} (hsz:PP.globals.size<=W.heap.size) (hg:Laid gs W)
 {v1:Value} {d1:DataW H} {p1:List MemPlace} (hc1:v1.cells= #[v1]) (h1:DataW.Trod enc PP W 0 (fun _=>true) true 22 v1 d1 p1) (YC:∀b off,MemPlace.cell b off∈p1->W.frozen? ⟨b,off,none⟩=false) (hw1:∀x∈d1.weights PP 22,x<=reachBytes)
 {by_:Nat} (hby:by_<256) {n:Int}
 {v4:Value} {d4:DataW H} {p4:List MemPlace} (hc4:v4.cells= #[v4]) (h4:DataW.Trod enc PP W 0 (fun _=>true) true 23 v4 d4 p4) (hz4:∀b off,MemPlace.cell b off∈p4->W.frozen? ⟨b,off,none⟩=false) (hw4:∀x∈d4.weights PP 23,x<=reachBytes):
 Calls PP gI ⟨[v1,.int .u8 (.ofNat by_),.int .i64 n,v4]⟩ W (fun e w'=>e= .returned (.bool true)/\Below W.heap.size W w'):=by
 obtain⟨U1,S1,u1,D1,_,hl1,_,hu1,Iq⟩:=Wh aNK hc1 h1 YC hw1 (Lay.none hsz);obtain⟨U,S,u4,D4,e2,hl,x2,hu4,hr4⟩:=Wh aNL hc4 h4 hz4 hw4 hl1;obtain⟨texts,ht⟩:=aI2 Iq;obtain⟨junk,hj,Xu⟩:=aI3 hr4;have fr:=aGR (ws:=[u1,u4]) S
 refine aDH (M:=100001) (m:=14) hsz hg hl [u1,u4] (va:=[.list (.root 0) (strs texts) texts.length,n8 by_,nz n,.list (.root 1) (pI junk) junk.length]) (us:=[u1,.int .u8 (.ofNat by_),.int .i64 n,u4])
  (.cons (.list (.root rfl) ((ht.mono (x2.fr _)).mono fr)) (.cons .int (.cons .int (.cons (.list (.root rfl) (hj.mono fr)) .nil))))
  (.cons (hu1.mono e2) (.cons (VR.flat rfl) (.cons (VR.flat rfl) (.cons hu4 (.nil _))))) ?_
 refine(aCS 14).call aNH fun y hy=>?_;exact aL3 (d:=0) aL6 (by decide) (by decide) hy hby Xu (fun _=>rfl) _
end Go.Am
