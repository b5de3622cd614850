/- Functions' codes, written out (by a program), each seen to be so by the kernel. -/
import Derived.Test.YtpcbceaggaddfaaGreatDoorGe
import Derived.Test.YtpcbceaggaddfaaGreatDoorGf
import Derived.Test.YtpcbceaggaddfaaGreatDoorGd

noncomputable section
set_option maxRecDepth 100000
set_option linter.unusedVariables false
namespace Go.Am
def sX(x:VE)(m:Nat)(t0 t1 t5:V):HK:=mT PP fT vV x [.r,.r,.l,.r,.d] m [] [t0,t1,t5]
def Ac(x:VE)(a0 a1:V):HK:=λS K=>
 dC a0 λv0=>
 dC a1 λv1=>
 aD PP .neq 3 v0 v1 λv2=>
 iQ v2 (aQ (.bool false) S K) (sX x x.most a0 a1 (.int .i64 (.ofNat 0)) S K)
theorem Vz(x:VE)(a0 a1:V):nV PP fT vV x [a0,a1]=Ac x a0 a1:=by kernel_rfl
def wO(x:VE)(m0:Nat)(t0 t1 t5:V):HK:=λS K=>
 fG S λS=>
 dC t0 λv0=>
 aD PP .lss 3 t5 v0 λv1=>
 iQ v1 (jM 11 t0 t5 λv2=>cU 11 v2 S λv3 S=>jM 11 t1 t5 λv4=>cU 11 v4 S λv5 S=>x.call FR [v3,v5] S λv6 S=>JC .not v6 λv7=>iQ v7 (aQ (.bool false) S K) (aD PP .add 3 t5 (.int .i64 (.ofNat 1)) λv8=>sX x m0 t0 t1 v8 S K)) (aQ (.bool true) S K)
theorem EY(x:VE)(m0:Nat)(t0 t1 t5:V):sX x (m0+1) t0 t1 t5=wO x m0 t0 t1 t5:=by kernel_rfl
def sY(x:VE)(m:Nat)(t2 t3 t5:V):HK:=mT PP fT FR x [.r,.r,.l,.r,.d] m [] [t2,t3,t5]
def Ad(x:VE)(a0 a1:V):HK:=λS K=>
 pO 37 a0 S λv0 S=>
 pO 37 a1 S λv1 S=>
 gG 0 v0 S λv3 S=>
 gG 0 v1 S λv5 S=>
 aD PP .neq 5 v3 v5 λv6=>
 gEf x v6 1 v0 v1 .neq 3 S λv17 S=>
 gEf x v17 2 v0 v1 .neq 3 S λv28 S=>
 gEf x v28 3 v0 v1 .neq 3 S λv39 S=>
 gEf x v39 4 v0 v1 .neq 3 S λv50 S=>
 gEf x v50 5 v0 v1 .neq 3 S λv61 S=>
 gEf x v61 6 v0 v1 .neq 3 S λv72 S=>
 gEf x v72 7 v0 v1 .neq 3 S λv83 S=>
 gEf x v83 8 v0 v1 .neq 3 S λv94 S=>
 gEf x v94 9 v0 v1 .neq 9 S λv105 S=>
 zE x v105 10 v0 S λv109 S=>
 jK x v105 (dC v109) S λaQ0 S=>
 zE x v105 10 v1 S λaQ1 S=>
 jK x v105 (dC aQ1) S λv117 S=>
 jK x v105 (aD PP .neq 3 aQ0 v117) S λaQ2 S=>
 gQ x v105 (.bool true) aQ2 λaQ3=>
 iQ aQ3 (aQ (.bool false) S K) (sY x x.most v0 v1 (.int .i64 (.ofNat 0)) S K)
theorem Wa(x:VE)(a0 a1:V):nV PP fT FR x [a0,a1]=Ad x a0 a1:=by kernel_rfl
def wP(x:VE)(m0:Nat)(t2 t3 t5:V):HK:=λS K=>
 fG S λS=>
 gG 10 t2 S λv1 S=>
 dC v1 λv2=>
 aD PP .lss 3 t5 v2 λv3=>
 iQ v3 (gG 10 t2 S λv5 S=>jM 1 v5 t5 λv6=>bJ v6 S λv7 S=>gG 10 t3 S λv9 S=>jM 1 v9 t5 λv10=>bJ v10 S λv11 S=>aD PP .neq 29 v7 v11 λv12=>iQ v12 (aQ (.bool false) S K) (aD PP .add 3 t5 (.int .i64 (.ofNat 1)) λpI=>sY x m0 t2 t3 pI S K)) (aQ (.bool true) S K)
theorem EZ(x:VE)(m0:Nat)(t2 t3 t5:V):sY x (m0+1) t2 t3 t5=wP x m0 t2 t3 t5:=by kernel_rfl
def sZ(x:VE)(m:Nat)(t2 t3 t5:V):HK:=mT PP fT FQ x [.r,.r,.l,.r,.d] m [] [t2,t3,t5]
def Ae(x:VE)(a0 a1:V):HK:=λS K=>
 pO 61 a0 S λv0 S=>
 pO 61 a1 S λv1 S=>
 gG 0 v0 S λv3 S=>
 gG 0 v1 S λv5 S=>
 aD PP .neq 3 v3 v5 λv6=>
 gEf x v6 1 v0 v1 .neq 9 S λv17 S=>
 gEf x v17 2 v0 v1 .neq 4 S λv28 S=>
 jK x v28 (bF 3 v0) S λv30 S=>
 uM x v28 (cU 15 v30 S) S λv32 S=>
 jK x v28 (bF 3 v1) S λIG S=>
 uM x v28 (cU 15 IG S) S λXH S=>
 uM x v28 (x.call NH [v32,XH] S) S λXI S=>
 jK x v28 (JC .not XI) S λv40 S=>
 gQ x v28 (.bool true) v40 λv41=>
 zE x v41 18 v0 S λv45 S=>
 jK x v41 (dC v45) S λFp S=>
 zE x v41 18 v1 S λv51 S=>
 jK x v41 (dC v51) S λv53 S=>
 jK x v41 (aD PP .neq 3 Fp v53) S λv55 S=>
 gQ x v41 (.bool true) v55 λv56=>
 zE x v56 19 v0 S λv60 S=>
 zE x v56 19 v1 S λv64 S=>
 uM x v56 (x.call vV [v60,v64] S) S λv66 S=>
 jK x v56 (JC .not v66) S λv68 S=>
 gQ x v56 (.bool true) v68 λv69=>
 iQ v69 (aQ (.bool false) S K) (sZ x x.most v0 v1 (.int .i64 (.ofNat 0)) S K)
theorem Wb(x:VE)(a0 a1:V):nV PP fT FQ x [a0,a1]=Ae x a0 a1:=by kernel_rfl
def wQ(x:VE)(m0:Nat)(t2 t3 t5:V):HK:=λS K=>
 fG S λS=>
 gG 18 t2 S λv1 S=>
 dC v1 λv2=>
 aD PP .lss 3 t5 v2 λv3=>
 iQ v3 (gG 18 t2 S λv5 S=>jM 2 v5 t5 λv6=>cU 2 v6 S λv7 S=>gG 18 t3 S λv9 S=>jM 2 v9 t5 λv10=>cU 2 v10 S λv11 S=>aCH PP .neq 91 v7 v11 λv12=>iQ v12 (aQ (.bool false) S K) (aD PP .add 3 t5 (.int .i64 (.ofNat 1)) λpI=>sZ x m0 t2 t3 pI S K)) (aQ (.bool true) S K)
theorem FA(x:VE)(m0:Nat)(t2 t3 t5:V):sZ x (m0+1) t2 t3 t5=wQ x m0 t2 t3 t5:=by kernel_rfl
def Af(x:VE)(a0 a1:V):HK:=λS K=>
 pO 58 a0 S λv0 S=>
 pO 58 a1 S λv1 S=>
 gG 0 v0 S λv3 S=>
 gG 0 v1 S λv5 S=>
 aD PP .eql 3 v3 v5 λv6=>
 Xj x v6 1 v0 v1 .eql 3 S λv17 S=>
 Xj x v17 2 v0 v1 .eql 3 S λv28 S=>
 Xj x v28 3 v0 v1 .eql 3 S λv39 S=>
 Xj x v39 4 v0 v1 .eql 3 S λv50 S=>
 Xj x v50 5 v0 v1 .eql 3 S λv61 S=>
 Xj x v61 6 v0 v1 .eql 3 S λv72 S=>
 Xj x v72 7 v0 v1 .eql 9 S λv83 S=>
 Xj x v83 8 v0 v1 .eql 9 S λv94 S=>
 Xj x v94 9 v0 v1 .eql 3 S λv105 S=>
 Xj x v105 10 v0 v1 .eql 3 S λaQ4 S=>
 Xj x aQ4 11 v0 v1 .eql 4 S λv127 S=>
 Xj x v127 12 v0 v1 .eql 4 S λv138 S=>
 Xj x v138 13 v0 v1 .eql 9 S λaKI S=>
 Av x aKI 14 v0 S λaQ5 S=>
 Av x aKI 14 v1 S λv157 S=>
 ST x aKI (x.call AL [aQ5,v157] S) S λv159 S=>
 gQ x aKI v159 (.bool false) λv160=>
 aQ v160 S K
theorem Wc(x:VE)(a0 a1:V):nV PP fT NH x [a0,a1]=Af x a0 a1:=by kernel_rfl
def tA(x:VE)(m:Nat)(t0 t1 t5:V):HK:=mT PP fT AL x [.r,.r,.l,.r,.d] m [] [t0,t1,t5]
def Ag(x:VE)(a0 a1:V):HK:=λS K=>
 dC a0 λv0=>
 dC a1 λv1=>
 aD PP .neq 3 v0 v1 λv2=>
 iQ v2 (aQ (.bool false) S K) (tA x x.most a0 a1 (.int .i64 (.ofNat 0)) S K)
theorem Wd(x:VE)(a0 a1:V):nV PP fT AL x [a0,a1]=Ag x a0 a1:=by kernel_rfl
def wR(x:VE)(m0:Nat)(t0 t1 t5:V):HK:=λS K=>
 fG S λS=>
 dC t0 λv0=>
 aD PP .lss 3 t5 v0 λv1=>
 iQ v1 (jM 5 t0 t5 λv2=>cU 5 v2 S λv3 S=>jM 5 t1 t5 λv4=>cU 5 v4 S λv5 S=>aCH PP .neq 93 v3 v5 λv6=>iQ v6 (aQ (.bool false) S K) (aD PP .add 3 t5 (.int .i64 (.ofNat 1)) λv7=>tA x m0 t0 t1 v7 S K)) (aQ (.bool true) S K)
theorem FB(x:VE)(m0:Nat)(t0 t1 t5:V):tA x (m0+1) t0 t1 t5=wR x m0 t0 t1 t5:=by kernel_rfl
variable{ov:Qj}{M n:Nat}{x:VE}{S:Hp}{K:KV}
theorem aBa{P:Program}{t:TypeId}{l:List CT}{a b:List V}{k:V->Prop}(hs:ZI P t=some (.many l))(ha:UE l a)(hb:UE l b)(h1:a=b->k (.bool false))(h2:a≠b->k (.bool true)):aCH P .neq t (.agg a) (.agg b) k:=by
 unfold aCH;rw [hs];exact⟨ha,hb,h1,h2⟩
theorem aNc:ZI PP 93=some (.many [.int .i64,.int .i64,.int .u8,.int .i64,.str]):=by kernel_rfl
theorem aNd{u v:Vo}(h:u.vv=v.vv):u=v:=by
 obtain⟨a,b,c,d,e⟩:=u;obtain⟨a',b',c',d',e'⟩:=v;simp [Vo.vv]at h;obtain⟨h1,h2,h3,h4,h5⟩:=h;have h3:c=c':=UW h3;simp [h1,h2,h3,h4,h5]
theorem aFW{l l':List Vo}{O O':Tag}(hl:l.length<=1000000)(he:l.length=l'.length){b:Bool}(hb:b=true↔l=l')(hk:K (.bool b) S):∀(m i:Nat),l.length<=i+m->i<=l.length->l.take i=l'.take i->tA x (m+1) (.list O (wT l) l.length) (.list O' (wT l') l'.length) (.int .i64 (.ofNat i)) S K:=by
 intro m
 have fin:∀{i:Nat},l.length<=i->l.take i=l'.take i->K (.bool true) S:=λh1 h2=>by
  rw [oS h1,oS (by omega)]at h2
  rwa [hb.2 h2]at hk
 induction m with
 | zero=>
  intro i hm hi ht;rw [FB];unfold wR;refine aH ?_;rw [dV,bO,bG,if_neg (by simp;omega)];exact aF (fin (i:=i) (by omega) ht)
 | succ m ih=>
  intro i hm hi ht;rw [FB];unfold wR;refine aH ?_;rw [dV,bO,bG];by_cases hlt:i<l.length
  ·have aNe:i<l'.length:=by omega
   rw [if_pos (by simp;omega),nR hlt,BZ,fH (by rw [JU];omega),Dn l i l[i] (aP hlt),
    nR aNe,BZ,fH (by rw [JU];omega),Dn l' i l'[i] (aP aNe)]
   refine aBa (a:=l[i].vv) (b:=l'[i].vv) aNc ⟨rfl,rfl,rfl,rfl,trivial,trivial⟩ ⟨rfl,rfl,rfl,rfl,trivial,trivial⟩ (λe=>?_) (λe=>?_)
   ·rw [bG,if_neg (by simp),iM,KG (by omega)]
    refine ih (i+1) (by omega) (by omega) ?_;rw [tO,tO,ht,aP hlt,aP aNe,aNd e]
   ·rw [bG,if_pos rfl]
    refine aF ?_
    have:b=false:=by
     cases hq:b with
     | false=>rfl
     | true=>
      have h:=hb.1 hq;subst h;exact absurd rfl e
    rwa [this]at hk
  ·rw [if_neg (by simp;omega)]
   exact aF (fin (i:=i) (by omega) ht)
theorem aII(hf:ov AL=none){l l':List Vo}{O O':Tag}(hM:l.length<M)(hx:Deep PP fT ov M (n+1) x)(hl:l.length<=1000000){b:Bool}(hb:b=true↔l=l')(hk:K (.bool b) S):x.call AL [.list O (wT l) l.length,.list O' (wT l') l'.length] S K:=by
 refine hx.call hf λy hy=>?_;rw [Wd];unfold Ag;rw [dV,dV,gD,bG];by_cases he:l.length=l'.length
 ·rw [if_neg (by simp [he])]
  obtain⟨m,e⟩:=pV (show y.most≠0 by rw [hy.most];omega);rw [e];exact aFW hl he hb hk m 0 (by have:=hy.most;omega) (by omega) rfl
 ·rw [if_pos (by simp;omega)]
  have:b=false:=by
   cases hq:b with
   | false=>rfl
   | true=>exact absurd (by rw [hb.1 hq]) he
  rw [this]at hk;exact aF hk
theorem aF6{v:Vo}:∀{l:List Vo},(∀u∈l,u.lt v=true)->Hc v l=l++[v]:=by
 intro l;induction l with
 | nil=>intro _;rfl
 | cons u l ih=>
  intro h;unfold Hc;have:=h u (.head _);rw [if_neg (by rw [lt_iff]at this;rw [lt_iff];omega),ih λw hw=>h w (.tail _ hw)];rfl
theorem gY.takes{a:Ba}(i:gY a){j:Nat}(hj:j<a.l.length){s:Bs}(hh:s.h=a.s.h)(hn:s.n=a.s.n):s.takes (a.l.take j) a.l[j]=true/\Hc a.l[j] (a.l.take j)=a.l.take (j+1):=by
 have hlt:∀u∈a.l.take j,u.lt a.l[j]=true:=by
  intro u hu;obtain⟨q,hq⟩:=GI hu;have hq1:=(dS.1 hq).1;rw [jL]at hq1;rw [kR,if_pos (by omega),aP (by omega)]at hq;injection hq with hq;rw [<-hq];exact UN.1 i.OJ q j (by omega) hj (by omega)
 have hp:s.pro=a.s.pro:=by funext r;unfold Bs.pro;rw [hh,hn]
 obtain⟨v1,v2⟩:=i.vs a.l[j] (nO hj);obtain⟨q1,_⟩:=(JT _ _).1 v1;refine⟨(Qu _ _ _).2 ⟨λ⟨e1,e2⟩=>?_,by rw [hn];exact v1,?_⟩,?_⟩
 ·rcases e2 with e2 | e2
  ·omega
  ·exact e2 (by rw [hp];exact v2 e1)
 ·unfold Vo.free
  rw [Im,UR];intro u hu e;have e:=(Dk _ _ _ _).1 e;have:=hlt u hu;rw [lt_iff]at this;omega
 ·rw [aF6 hlt,tO,aP hj];rfl
section
variable{M n b t m:Nat}{x:VE}{S:Hp}{K:KV}{ty:TypeId}{a:Ba}
def NT(a:Ba):Bs:= .start a.s.h a.s.n a.s.t a.s.me
theorem aIX{t1:Nat}{O:Tag}(hx:DP M (n+3) x)(i:gY a)(hM:100000<M)
 (hk:∀S',(∀j,S j≠none->S' j=S j)->vP S' b t m 124 a->K (.tuple [.ptr b 0,.int .i64 0]) S') (hb:S b=none) (ht:S t=none) (hm:S m=none) (ht1:S t1=none):
 ∀(q j:Nat) (S1:Hp),a.l.length<=j+q->j<=a.l.length->vP S1 b t m 124 ⟨NT a,a.l.take j⟩->S1 t1=some (.row (iL a.s (.list O (wT a.l) a.l.length)) 68)->(∀z,S z≠none->S1 z=S z)->qQ x (q+1) (.ptr t1 0) (.ptr b 0) (.list O (wT a.l) a.l.length) (.int .i64 (.ofNat a.l.length)) (.int .i64 (.ofNat j)) S1 K:=by
 have hlen:=RU i.OJ i.ok.1.2 λv hv=>(i.vs v hv).1
 have fin:∀(j:Nat) (S1:Hp),a.l.length<=j->vP S1 b t m 124 ⟨NT a,a.l.take j⟩->S1 t1=some (.row (iL a.s (.list O (wT a.l) a.l.length)) 68)->(∀z,S z≠none->S1 z=S z)->
  (bF 14 (.ptr t1 0) λuJ=>mE 1 uJ .nil S1 λS=>cU 15 (.ptr t1 0) S λv17 S=>jI PP (.ptr b 0) λBA=>bF 0 BA λyT=>mE 15 yT v17 S λS=>aQ (.tuple [.ptr b 0,(.int .i64 (.ofNat 0))]) S K):=by
  intro j S1 hj k e f;rw [oS hj]at k;have hbt:b≠t1:=λq=>by have:=k.row;rw [q,e]at this;injection this with this;injection this with this _;simp [iL,lM]at this
  simp only [aG];refine nJ e rfl (by simp [iL]) ?_;refine eX aB (by rfl) ?_;simp only [aV,aG];have r1:aM S1 t1 (.row (aE 14 [.nil] (iL a.s (.list O (wT a.l) a.l.length))) 68) b=some (.row (lM (NT a) t) 124):=by rw [aC hbt];exact k.row
  have st:∀{k:Hp->Prop},k (aM (aM S1 t1 (.row (aE 14 [.nil] (iL a.s (.list O (wT a.l) a.l.length))) 68)) b (.row (lM a.s t) 124))->mE 15 (.ptr b 0) (.agg (aE 14 [.nil] (iL a.s (.list O (wT a.l) a.l.length)))) (aM S1 t1 (.row (aE 14 [.nil] (iL a.s (.list O (wT a.l) a.l.length))) 68)) k:=λ{k} h=>by
   unfold mE;simp only [r1];exact⟨rfl,rfl,by simp [lM],h⟩
  refine st ?_;have k2:=k.set (s:=a.s) rfl i;have tt1:t≠t1:=λq=>by obtain⟨_,q1,_⟩:=k.Ii;have:=q1.row;rw [q,e]at this;injection this with this;injection this with this _;simp [iL]at this
  have mt1:m≠t1:=λq=>by obtain⟨_,q1,_⟩:=k.Ii;have:=q1.map;rw [q,e]at this;cases this
  refine cL (S':=del (aM S1 b (.row (lM a.s t) 124)) t1) ?_ (hk _ (λz hz=>?_) ?_)
  ·intro z o q
   unfold del at q;by_cases h1:z=t1
   ·rw [if_pos h1]at q;cases q
   ·rw [if_neg h1]at q
    by_cases h2:z=b
    ·subst h2;rw [aB]at q ⊢;exact q
    ·rw [aC h2]at q ⊢;rw [aC h1];exact q
  ·unfold del
   rw [if_neg (λq=>hz (by rw [q];exact ht1)),aC (λq=>hz (by rw [q];exact hb))];exact f z hz
  ·have un:∀{z:Nat},z≠t1->del (aM S1 b (.row (lM a.s t) 124)) t1 z=aM S1 b (.row (lM a.s t) 124) z:=λh=>if_neg h
   obtain⟨l0,q1,q2⟩:=k2.Ii;exact⟨by rw [un hbt];exact k2.row,⟨l0,⟨by rw [un tt1];exact q1.row,by rw [un mt1];exact q1.map⟩,q2⟩,k2.inv,k2.bt,k2.bm,k2.tm⟩
 intro q;induction q with
 | zero=>
  intro j S1 h1 h2 k e f;rw [BJ];unfold tU jK uM wF gQ gG gM;refine aH ?_;rw [bO,bG,if_neg (by simp;omega)];exact fin j S1 (by omega) k e f
 | succ q ih=>
  intro j S1 h1 h2 k e f;rw [BJ];unfold tU jK uM wF gQ gG gM;refine aH ?_;rw [bO,bG];by_cases hlt:j<a.l.length
  ·rw [if_pos (by simp;omega),nR hlt,BZ,fH (by rw [JU];omega),Dn a.l j a.l[j] (aP hlt)]
   have hT:Tl O (j*5) a.l[j].dt=a.l[j].vv:=rfl;rw [hT];refine dQ (l:=OM.vv) rfl λp hp=>?_;refine gJ aB (by rfl) (by rfl) (by rfl) ?_;rw [cW];have eU:cP S1 (aM S1 p (.row a.l[j].vv 94)):= .aN hp;have rp:aM S1 p (.row a.l[j].vv 94) p=some (.row a.l[j].vv 94):=aB
   have fp:∀z,S z≠none->aM S1 p (.row a.l[j].vv 94) z=S z:=λz hz=>by
    rw [aC (λq=>hz (by have:=f z hz;rw [q,hp]at this;rw [q];exact this.symm))];exact f z hz
   generalize aM S1 p (.row a.l[j].vv 94)=S2 at eU rp fp;have k2:=k.le eU;obtain⟨m0,m1,m2,m3,m4⟩:=Dp rp;have NS:=(JT _ _).1 (i.vs a.l[j] (nO hlt)).1;have aRd:decide (Int.ofNat 100<=a.l[j].rd)=false:=aR (by have:=NS.1.2.2.2.1;show ¬((100:Int)<=_);omega);simp only [aG,m1,kG,aRd,aL,aI];refine eX rp (by rfl) ?_;obtain⟨tk,it⟩:=i.takes hlt (s:=NT a) rfl rfl;refine aIO (v:=a.l[j]) (by omega) rfl rfl rfl rfl hx k2 (by omega) λS3 c3 k3=>?_;rw [tk];simp only [gX,eH,aX,bQ,if_false,bG,iM];rw [KG (by omega)]
   have e4:Ba.put ⟨NT a,a.l.take j⟩ a.l[j]=⟨NT a,a.l.take (j+1)⟩:=by
    unfold Ba.put;rw [if_pos tk];exact lT _ it
   rw [e4]at k3;have nb:b≠t1:=λq=>by have:=k.row;rw [q,e]at this;injection this with this;injection this with this _;simp [iL,lM]at this
   have nm:m≠t1:=λq=>by obtain⟨_,q1,_⟩:=k.Ii;have:=q1.map;rw [q,e]at this;cases this
   refine ih (j+1) S3 (by omega) (by omega) k3 (by rw [c3 t1 (dB nb) (dB nm)];exact eU _ _ e) λz hz=>?_;rw [c3 z (λq=>hz (by rw [q];exact hb)) (λq=>hz (by rw [q];exact hm))];exact fp z hz
  ·rw [if_neg (by simp;omega)]
   exact fin j S1 (by omega) k e f
theorem aNu(hM:100000<M)(hx:DP M (n+4) x)(i:gY a){O:Tag}(hk:∀b t m S',(∀j,S j≠none->S' j=S j)->S b=none->S t=none->S m=none->vP S' b t m 124 a->K (.tuple [.ptr b 0,.int .i64 0]) S'):x.call CR [stV a O] S K:=by
 refine hx.call rfl λy hy=>?_;rw [Ox];unfold UH XG zE jK uM gQ gG;have Cd:=i.ok;refine fR rfl λt1 ht1=>?_;have eU:cP S (aM S t1 (.row (iL a.s (.list O (wT a.l) a.l.length)) 68)):= .aN ht1;have r1:aM S t1 (.row (iL a.s (.list O (wT a.l) a.l.length)) 68) t1=some (.row (iL a.s (.list O (wT a.l) a.l.length)) 68):=aB;generalize aM S t1 (.row (iL a.s (.list O (wT a.l) a.l.length)) 68)=S1 at eU r1;have q0:LD t1 0 S1 (.int .i64 a.s.h):=aZ r1;have q1:LD t1 1 S1 (.int .i64 a.s.n):=aZ r1;have q2:LD t1 2 S1 (.int .i64 a.s.t):=aZ r1;have q3:LD t1 3 S1 (.int .i64 a.s.me):=aZ r1;simp only [aG,q0,q1,q2,q3];refine aIJ rfl rfl hy.less (λe=>absurd Cd e) (λ_ m t b hm htm ht hbt hbm hb=>?_)
 have fr:∀z,S1 z≠none->aM (aM (aM S1 m (.map [])) t (.row [.int .i64 a.s.n,.sP m] 160)) b (.row (lM (.start a.s.h a.s.n a.s.t a.s.me) t) 124) z=S1 z:=λz hz=>by
  rw [aC (λq=>hz (by rw [q];exact hb)),aC (λq=>hz (by rw [q];exact ht)),aC (λq=>hz (by rw [q];exact hm))]
 have kb:vP (aM (aM (aM S1 m (.map [])) t (.row [.int .i64 a.s.n,.sP m] 160)) b (.row (lM (.start a.s.h a.s.n a.s.t a.s.me) t) 124)) b t m 124 ⟨NT a,[]⟩:=
  ⟨aB,⟨[],⟨by rw [aC (dB hbt)];exact aB,by rw [aC (dB hbm),aC (dB htm)];exact aB⟩,.refl _⟩,gY.start Cd,hbt,hbm,htm⟩
 have r2:aM (aM (aM S1 m (.map [])) t (.row [.int .i64 a.s.n,.sP m] 160)) b (.row (lM (.start a.s.h a.s.n a.s.t a.s.me) t) 124) t1=some (.row (iL a.s (.list O (wT a.l) a.l.length)) 68):=by rw [fr t1 (by rw [r1];simp)];exact r1
 generalize aM (aM (aM S1 m (.map [])) t (.row [.int .i64 a.s.n,.sP m] 160)) b (.row (lM (.start a.s.h a.s.n a.s.t a.s.me) t) 124)=S2 at fr kb r2;have l4:LD t1 4 S2 (.int .i64 a.s.rd):=aZ r2;have l5:LD t1 5 S2 (.int .i64 a.s.st):=aZ r2;have l6:LD t1 6 S2 (.int .i64 a.s.LY):=aZ r2;have l7:LD t1 7 S2 (.str a.s.lock):=aZ r2;have l8:LD t1 8 S2 (.str a.s.valid):=aZ r2;have l9:LD t1 9 S2 (.int .i64 a.s.yZ):=aZ r2;have l10:LD t1 10 S2 (.int .i64 a.s.nU):=aZ r2;have ON:LD t1 13 S2 (.str a.s.dec):=aZ r2;have UJ:LD t1 14 S2 (.list O (wT a.l) a.l.length):=aZ r2;have hrd:=i.rd;have Xe:=i.st;have aRc:=i.LY;have aNv:=i.dec;have d1:decide (a.s.rd<Int.ofNat 0)=false:=aR (by show ¬(a.s.rd<0);omega);have d2:decide (Int.ofNat 100<=a.s.rd)=false:=aR (by show ¬((100:Int)<=a.s.rd);omega);have d3:decide (a.s.st<Int.ofNat 1)=false:=aR (by show ¬(a.s.st<1);omega);have d4:decide (Int.ofNat 3<a.s.st)=false:=aR (by show ¬((3:Int)<a.s.st);omega);have d5:decide (a.s.LY<Int.ofNat 0)=false:=aR (by show ¬(a.s.LY<0);omega);have d6:decide (Int.ofNat 1099511627776<a.s.LY)=false:=aR (λq=>by have h:Int.ofNat 1099511627776=1099511627776:=rfl;rw [h]at q;omega);have d7:decide (Int.ofNat 2048<Int.ofNat a.s.dec.length)=false:=aR (by simp;omega);have d0:(!decide ((0:Int)=Int.ofNat 0))=false:=rfl;simp only [vE,vF,gD,d0,aL,aI,l4,l5,l6,bO,kG,jR,d1,d2,d3,d4,d5,d6,aX,bQ,if_false,l7,l9];refine aEr rfl hy ?_;rw [i.lk];simp only [gX,eH,aX,aI,bQ,if_false,l4,l8,l10];refine aEr rfl hy ?_;rw [i.vl];simp only [gX,eH,aX,aI,bQ,if_false,ON,CQ,jR,d7,bG,UJ,dV];have hm2:y.most=M:=hy.most;have hlen:=RU i.OJ Cd.1.2 λv hv=>(i.vs v hv).1;obtain⟨p,hp⟩:=pV (show y.most≠0 by omega);rw [hp];refine aIX (S:=S) (t1:=t1) hy i hM (λS' f k=>hk b t m S' f (eU.none hb) (eU.none ht) (eU.none hm) k) (eU.none hb) (eU.none ht) (eU.none hm) ht1 p 0 S2 (by omega) (by omega) kb r2 λz hz=>?_;cases XB:S z with
 | none=>exact absurd XB hz
 | some o=>rw [fr z (by rw [eU z o XB];simp),eU z o XB]
end
section
variable{M n:Nat}{x:VE}{S:Hp}{K:KV}{s:Bs}{l:List Vo}
theorem aIY(hM:100000<M)(hx:DP M (n+2) x)(hl:l.length<=10000){O1 O2:Tag}(hk:K (.bool true) S):x.call NH [.agg (iL s (.list O1 (wT l) l.length)),.agg (iL s (.list O2 (wT l) l.length))] S K:=by
 refine hx.call rfl λy hy=>?_;rw [Wc];unfold Af Xj Av rW ST gQ gG;refine fR rfl λpi hpi=>?_;have eU:cP S (aM S pi (.row (iL s (.list O1 (wT l) l.length)) 58)):= .aN hpi;have r1:aM S pi (.row (iL s (.list O1 (wT l) l.length)) 58) pi=some (.row (iL s (.list O1 (wT l) l.length)) 58):=aB;generalize aM S pi (.row (iL s (.list O1 (wT l) l.length)) 58)=S1 at eU r1;refine fR rfl λqi hqi=>?_;have lA:cP S1 (aM S1 qi (.row (iL s (.list O2 (wT l) l.length)) 58)):= .aN hqi;have r3:aM S1 qi (.row (iL s (.list O2 (wT l) l.length)) 58) qi=some (.row (iL s (.list O2 (wT l) l.length)) 58):=aB;have r2:=lA _ _ r1;generalize aM S1 qi (.row (iL s (.list O2 (wT l) l.length)) 58)=S2 at lA r3 r2;have p0:LD pi 0 S2 (.int .i64 s.h):=aZ r2;have p1:LD pi 1 S2 (.int .i64 s.n):=aZ r2;have p2:LD pi 2 S2 (.int .i64 s.t):=aZ r2;have p3:LD pi 3 S2 (.int .i64 s.me):=aZ r2;have p4:LD pi 4 S2 (.int .i64 s.rd):=aZ r2;have p5:LD pi 5 S2 (.int .i64 s.st):=aZ r2;have p6:LD pi 6 S2 (.int .i64 s.LY):=aZ r2;have p7:LD pi 7 S2 (.str s.lock):=aZ r2;have p8:LD pi 8 S2 (.str s.valid):=aZ r2;have p9:LD pi 9 S2 (.int .i64 s.yZ):=aZ r2;have p10:LD pi 10 S2 (.int .i64 s.nU):=aZ r2;have p11:LD pi 11 S2 (.bool s.prop):=aZ r2;have p12:LD pi 12 S2 (.bool s.seen):=aZ r2;have p13:LD pi 13 S2 (.str s.dec):=aZ r2;have q0:LD qi 0 S2 (.int .i64 s.h):=aZ r3;have q1:LD qi 1 S2 (.int .i64 s.n):=aZ r3;have q2:LD qi 2 S2 (.int .i64 s.t):=aZ r3;have q3:LD qi 3 S2 (.int .i64 s.me):=aZ r3;have q4:LD qi 4 S2 (.int .i64 s.rd):=aZ r3;have q5:LD qi 5 S2 (.int .i64 s.st):=aZ r3;have q6:LD qi 6 S2 (.int .i64 s.LY):=aZ r3;have q7:LD qi 7 S2 (.str s.lock):=aZ r3;have q8:LD qi 8 S2 (.str s.valid):=aZ r3;have q9:LD qi 9 S2 (.int .i64 s.yZ):=aZ r3;have q10:LD qi 10 S2 (.int .i64 s.nU):=aZ r3;have q11:LD qi 11 S2 (.bool s.prop):=aZ r3;have q12:LD qi 12 S2 (.bool s.seen):=aZ r3;have q13:LD qi 13 S2 (.str s.dec):=aZ r3;have p14:LD pi 14 S2 (.list O1 (wT l) l.length):=aZ r2;have q14:LD qi 14 S2 (.list O2 (wT l) l.length):=aZ r3;simp only [aL,aI,aX,aG,if_true,p0,p1,p2,p3,p4,p5,p6,p7,p8,p9,p10,p11,p12,p13,q0,q1,q2,q3,q4,q5,q6,q7,q8,q9,q10,q11,q12,q13,p14,q14,cV,tK,Qw aEq,decide_true];refine aII (b:=true) (l:=l) (l':=l) rfl (by omega) hy (by omega) (by simp) ?_
 first
  | exact cL (eU.trans lA) hk
  | (simp only [aX,if_true];exact cL (eU.trans lA) hk)
end
def iV(x:VE)(m:Nat)(t0 t2 t8 t37 t38 t39:V):HK:=mT PP fT sU x [.r,.r,.r,.r,.l,.r,.d] m [] [t0,t2,t8,t37,t38,t39]
def HT(x:VE)(a0 a1 a2:V):HK:=λS K=>
 gN 16 a0 S λv2 S=>
 x.call bU [v2,a1,(.func kK [] [])] S λv3 S=>
 nF 0 v3 λv4=>
 nF 1 v3 λv5=>
 iQ v5 (aQ (.tuple []) S K) (gN 16 a0 S λv8 S=>fX NI [(0,1,a1),(1,1,a2)] λv9=>dN 75 1 NI [(0,2,v9)] S λv10 S=>x.call lH [v8,v4,v10] S λv11 S=>gM 16 a0 λpI=>mE 1 pI v11 S λS=>gN 16 a0 S λuJ S=>dC uJ λv17=>iV x x.most a0 a2 (.int .i64 (.ofNat 0)) uJ v17 (.int .i64 (.ofNat 0)) S K)
theorem WO(x:VE)(a0 a1 a2:V):nV PP fT sU x [a0,a1,a2]=HT x a0 a1 a2:=by kernel_rfl
def oK(x:VE)(m0:Nat)(t0 t2 t8 t37 t38 t39:V):HK:=λS K=>
 fG S λS=>
 aD PP .lss 3 t39 t38 λv0=>
 iQ v0 (jM 2 t37 t39 λv1=>cU 2 v1 S λv2 S=>eI NI 75 S λv3 S=>mE 2 v3 v2 S λS=>gG 1 v3 S λv5 S=>aD PP .eql 9 v5 t2 λv6=>iQ v6 (aD PP .add 3 t8 (.int .i64 (.ofNat 1)) λv7=>aD PP .add 3 t39 (.int .i64 (.ofNat 1)) λv8=>iV x m0 t0 t2 v7 t37 t38 v8 S K) (aD PP .add 3 t39 (.int .i64 (.ofNat 1)) λv9=>iV x m0 t0 t2 t8 t37 t38 v9 S K)) (gM 0 t0 λv11=>gG 6 v11 S λpI S=>aD PP .gtr 3 t8 pI λmL=>iQ mL (gM 14 t0 λuJ=>mE 1 uJ t2 S λS=>aQ (.tuple []) S K) (aQ (.tuple []) S K))
theorem uE(x:VE)(m0:Nat)(t0 t2 t8 t37 t38 t39:V):iV x (m0+1) t0 t2 t8 t37 t38 t39=oK x m0 t0 t2 t8 t37 t38 t39:=by kernel_rfl
def DJ(x:VE)(a0 a1:V):HK:=λS K=>
 pO 75 a0 S λv0 S=>
 gG 0 v0 S λv2 S=>
 aD PP .sub 3 v2 a1 λv3=>
 aQ v3 S K
theorem RL(x:VE)(a0 a1:V):nV PP fT kK x [a0,a1]=DJ x a0 a1:=by kernel_rfl
def aY(x:VE)(m:Nat)(t0 t1 t2 t8 t9 t10:V):HK:=mT PP fT bU x [.r,.r,.r,.l,.d] m [] [t0,t1,t2,t8,t9,t10]
def gC(x:VE)(a0 a1 a2:V):HK:=λS K=>
 dC a0 λv0=>
 aY x x.most a0 a1 a2 v0 (.int .i64 (.ofNat 0)) v0 S K
theorem mY(x:VE)(a0 a1 a2:V):nV PP fT bU x [a0,a1,a2]=gC x a0 a1 a2:=by kernel_rfl
def cH(x:VE)(m0:Nat)(t0 t1 t2 t8 t9 t10:V):HK:=λS K=>
 fG S λS=>
 aD PP .lss 3 t9 t10 λv0=>
 iQ v0 (aD PP .add 3 t9 t10 λv1=>Lo .u64 v1 λv2=>aD PP .shr 40 v2 (.int .u64 (.ofNat 1)) λv3=>Lo .i64 v3 λv4=>jM 2 t0 v4 λv5=>cU 2 v5 S λv6 S=>fK x t2 [v6,t1] S λv7 S=>aD PP .lss 3 v7 (.int .i64 (.ofNat 0)) λv8=>iQ v8 (aD PP .add 3 v4 (.int .i64 (.ofNat 1)) λv9=>aY x m0 t0 t1 t2 t8 v9 t10 S K) (aY x m0 t0 t1 t2 t8 t9 v4 S K)) (aD PP .lss 3 t9 t8 λv10=>BD x v10 t2 S λv11 S=>BD x v10 t0 S λv12 S=>BD x v10 t9 S λpI S=>rW x v10 (jM 2 v12 pI) S λuN S=>ST x v10 (cU 2 uN S) S λv17 S=>BD x v10 t1 S λBA S=>ST x v10 (fK x v11 [v17,BA] S) S λv20 S=>rW x v10 (aD PP .eql 3 v20 (.int .i64 (.ofNat 0))) S λv22 S=>gQ x v10 v22 (.bool false) λv23=>aQ (.tuple [t9,v23]) S K)
theorem fE(x:VE)(m0:Nat)(t0 t1 t2 t8 t9 t10:V):aY x (m0+1) t0 t1 t2 t8 t9 t10=cH x m0 t0 t1 t2 t8 t9 t10:=by kernel_rfl
theorem Wu(p:Int×List UInt8):(toC p).length=2:=rfl
theorem xQ(l:List (Int×List UInt8)):(GC l).length=l.length*2:=by
 induction l with
 | nil=>rfl
 | cons a l ih=>show(toC a++GC l).length=_;rw [bH,ih,Wu,qS];omega
theorem Ap(l m:List (Int×List UInt8)):GC (l++m)=GC l++GC m:=by unfold GC;rw [Rr]
theorem aBl(l:List (Int×List UInt8)):∀(j:Nat),GC (l.drop j)=(GC l).drop (j*2):=by
 induction l with
 | nil=>intro j;cases j<;>rfl
 | cons a l ih=>
  intro j;cases j with
  | zero=>rw [KC];rfl
  | succ j=>
   rw [aBK,ih];show _=(toC a++GC l).drop _;rw [show(j+1)*2=2+j*2 by omega,<-KB,Ja (Wu a)]
theorem XA{l:List (Int×List UInt8)}{i:Nat}{p:Int×List UInt8}(h:l[i]? =some p):((GC l).drop (i*2)).take 2=toC p:=by
 rw [<-aBl];have hi:=(dS.1 h).1;rw [zG hi];have:l[i]=p:=(dS.1 h).2;rw [this];exact Rt (Wu p)
def TQ(p:Int×List UInt8):List V:=[nz p.1,.str p.2]
theorem aI9{us:List V}{p:Int×List UInt8}(h:wA us (toC p)):us=TQ p:=by
 obtain⟨hl,h⟩:=h;have hl:us.length=2:=hl
 match us,hl with
 | [a0,a1],_=>
  obtain⟨t0,e0⟩:=h 0 _ rfl;obtain⟨t1,e1⟩:=h 1 _ rfl;injection e0 with e0;injection e1 with e1;subst e0 e1;rfl
theorem aDo(p:Int×List UInt8):wA (TQ p) (toC p):= .cons (.root 0) _ (.cons (.root 0) _ .nil)
def Wv(l:List (Int×List UInt8))(z:Int):Nat:=(l.takeWhile λp=>decide (p.1<z)).length
def Du(l:List (Int×List UInt8)):Prop:=l.Pairwise (λp q=>p.1<q.1)/\∀p∈l,0<=p.1/\p.1<=1000
theorem aEE(l:List (Int×List UInt8))(z:Int):Wv l z<=l.length:=(List.takeWhile_prefix _).length_le
theorem aNT{a b:Nat}(h:a<b):Nat.blt a b=true:=jT h
theorem aPv{n:Nat}(h:n<4611686018427387904):lC .u64 (.ofNat n)= .ofNat n:=by
 show(match Nat.blt n 18446744073709551616 with | true=>_ | false=>_)=_;rw [aNT (by omega)]
theorem aLh{l:List (Int×List UInt8)}{z:Int}{i:Nat}(hi:i<=l.length)(h1:∀j (hj:j<l.length),j<i->l[j].1<z)(h2:∀(hj:i<l.length),¬l[i].1<z):Wv l z=i:=by
 induction l generalizing i with
 | nil=>simp at hi;subst hi;rfl
 | cons a l ih=>
  cases i with
  | zero=>
   have:=h2 (by simp);unfold Wv;rw [Ro,if_neg (by simpa using this)];rfl
  | succ i=>
   have h0:=h1 0 (by simp) (by omega);have:=ih (i:=i) (by simpa using hi) (λj hj Sl=>by have:=h1 (j+1) (by simpa using hj) (by omega);simpa using this) (λhj=>by have:=h2 (by simpa using hj);simpa using this);unfold Wv at this ⊢;rw [Ro,if_pos (by simpa using h0),qS,this]
def Ni(l:List (Int×List UInt8))(z:Int):Bool:=l.any λp=>decide (p.1=z)
section
variable{M d:Nat}{x:VE}{S:Hp}{K:KV}{S0:Hp}{v:V}{l:List (Int×List UInt8)}
theorem aLi(hx:DP M (d+1) x){p:Int×List UInt8}{z:Int}(hp:0<=p.1/\p.1<=1000)(hz:0<=z/\z<=1000)(hK:K (nz (p.1-z)) S):x.call kK [.agg (TQ p),nz z] S K:=by
 refine hx.call rfl λy hy=>?_;rw [RL];unfold DJ gG;refine fR rfl λa ha=>?_;have eU:cP S (aM S a (.row (TQ p) 75)):= .aN ha;have ra:aM S a (.row (TQ p) 75) a=some (.row (TQ p) 75):=aB;generalize aM S a (.row (TQ p) 75)=S1 at eU ra;have l0:LD a 0 S1 (nz p.1):=fD ra rfl;rw [aG,l0,tJ,wrap_small (by omega) (by omega)];exact cL eU hK
theorem aPw(hM:100000<M)(hx:DP M (d+2) x)(h:SL 75 2 S0 S v (GC l) l.length)(hl:l.length<10000)(hs:Du l){z:Int}(hz:0<=z/\z<=1000)(hK:K (.tuple [ni (Wv l z),.bool (Ni l z)]) S):x.call bU [v,nz z,.func kK [] []] S K:=by
 refine hx.call rfl λy hy=>?_;rw [mY];unfold gC;rw [h.len,hy.most]
 have cmp:∀{i:Nat} (hi:i<l.length) {K:KV},K (nz (l[i].1-z)) S->(jM 2 v (ni i) λp=>cU 2 p S λv6 S=>fK y (.func kK [] []) [v6,nz z] S K):=λ{i} hi {K} hK=>by
  obtain⟨us,TI,Ei⟩:=h.ldn hi;rw [XA (aP hi)]at TI;rw [aI9 TI]at Ei;rw [Ei];exact aLi (d:=d) hy (hs.2 _ (nO hi)) hz hK
 have go:∀(q i j k:Nat),j-i<=q->q<k->i<=j->j<=l.length->(∀p (hp:p<l.length),p<i->l[p].1<z)->(∀p (hp:p<l.length),j<=p->¬l[p].1<z)->
  aY y k v (nz z) (.func kK [] []) (ni l.length) (ni i) (ni j) S K:=by
  intro q;induction q with
  | zero=>
   intro i j k hq hk XS hj h1 h2;obtain⟨k,rfl⟩:=KJ hk;rw [fE];unfold cH rW ST BD gQ;refine aH ?_;obtain rfl:i=j:=by omega
   have VI:Wv l z=i:=aLh hj h1 (λhi=>h2 i hi (bI _));rw [dW,BC (by omega),cF,dW];by_cases hi:i<l.length
   ·rw [Gg hi]
    simp only [aL,aI];refine cmp hi ?_
    have e0:decide ((l[i].1-z:Int)=Int.ofNat 0)=Ni l z:=by
     rw [qU];unfold Ni;simp only [decide_eq_true_eq,Ix];constructor
     ·intro e
      exact⟨_,nO hi,by simp only [lR]at e;omega⟩
     ·rintro⟨p,hp,e⟩
      obtain⟨q,hq,rfl⟩:=MG hp;have hn:=h2 i hi (bI _);rcases Nat.lt_trichotomy q i with hqi | hqi | hqi
      ·have:=h1 q hq hqi;omega
      ·subst hqi;simp only [lR];omega
      ·have:=UN.1 hs.1 i q hi hq hqi;omega
    repeat (first | rw [cV] | rw [e0] | rw [aL] | rw [aI] | rw [kB] | dsimp only)
    rw [<-VI];exact aF hK
   ·rw [BC hi]
    have:Ni l z=false:=by
     unfold Ni;rw [Be];intro p hp;obtain⟨q,hq,rfl⟩:=MG hp;have:=h1 q hq (by omega);simp only [decide_eq_true_eq];omega
    rw [this]at hK
    repeat (first | rw [aL] | rw [yG] | rw [fA] | dsimp only)
    rw [<-VI];exact aF hK
  | succ q ih=>
   intro i j k hq hk XS hj h1 h2;by_cases hlt:i<j
   ·obtain⟨k,rfl⟩:=KJ hk
    rw [fE];unfold cH rW ST BD gQ;refine aH ?_;rw [dW,Gg hlt,eY,fP (by omega)]
    have mid:∀{k:V->Prop},(Lo .u64 (ni (i+j)) λv2=>aD PP .shr 40 v2 (.int .u64 (.ofNat 1)) λv3=>Lo .i64 v3 k)=k (ni ((i+j) / 2)):=λ{k}=>by
     show((0:Int)<=Int.ofNat 1/\k (.int .i64 (lC .i64 (Int.fdiv (lC .u64 (Int.ofNat (i+j))) (2 ^ (min (Int.ofNat 1).toNat IntKind.u64.bits))))))=_;rw [aPv (by omega)];have e1:min (Int.ofNat 1).toNat IntKind.u64.bits=1:=rfl;rw [e1];have e2:Int.fdiv (Int.ofNat (i+j)) (2 ^ 1)= .ofNat ((i+j) / 2):=(Int.ofNat_fdiv (i+j) 2).symm;rw [e2,wrap_small (by simp only [lR];omega) (by simp only [lR];omega)];exact propext ⟨λh=>h.2,λh=>⟨by decide,h⟩⟩
    rw [mid];have hm:(i+j) / 2<l.length:=by omega
    refine cmp hm ?_;rw [bO];by_cases e:l[(i+j) / 2].1<z
    ·rw [show decide ((l[(i+j) / 2].1-z:Int)<Int.ofNat 0)=true from aU (by simp only [lR];omega),eY,fP (by omega)]
     refine ih ((i+j) / 2+1) j k (by omega) (by omega) (by omega) hj (λp hp hpi=>?_) h2;rcases zJ p ((i+j) / 2)with hq | hq
     ·have:=UN.1 hs.1 p _ hp hm hq;omega
     ·obtain rfl:p=(i+j) / 2:=by omega
      exact e
    ·rw [show decide ((l[(i+j) / 2].1-z:Int)<Int.ofNat 0)=false from aR (by simp only [lR];omega),cF]
     refine ih i ((i+j) / 2) k (by omega) (by omega) (by omega) (by omega) h1 (λp hp hpi=>?_);rcases zJ ((i+j) / 2) p with hq | hq
     ·have:=UN.1 hs.1 _ p hm hp hq;omega
     ·obtain rfl:p=(i+j) / 2:=by omega
      exact e
   ·exact ih i j k (by omega) (by omega) XS hj h1 h2
 exact go l.length 0 l.length M (by omega) (by omega) (by omega) (bI _) (λp _ h=>by omega) (λp hp h=>by omega)
end
def uL(l:List (Int×List UInt8))(p:Int×List UInt8):List (Int×List UInt8):=l.take (Wv l p.1)++([p]++l.drop (Wv l p.1))
def Pa(l:List (Int×List UInt8))(tx:List UInt8):Nat:=(l.filter λp=>decide (p.2=tx)).length
def Bd.MA(B:Bd)(z:Int)(tx:List UInt8):Bd:=if Ni B.told z then B else {B with told:=uL B.told (z,tx),dec:=if 1<Pa (uL B.told (z,tx)) tx then tx else B.dec}
theorem aBm(l:List (Int×List UInt8))(p:Int×List UInt8):(uL l p).length=l.length+1:=by
 have:=aEE l p.1;unfold uL;simp only [bH,jL,qT,qS,Rv];omega
section
variable{M d:Nat}{x:VE}{S:Hp}{K:KV}{v:V}{l:List (Int×List UInt8)}
theorem SL.ins(h:SL 75 2 hp0 S v (GC l) l.length)(na:∀i q o n c,v≠ .oR i q o n c){i:Nat}(hi:i<=l.length)(hl:l.length<10000){p:Int×List UInt8}{q:Nat}(rq:S q=some (.row (TQ p) 75))
 (hk:∀u S',(∀j o,S j=some o->¬tM v j->S' j=some o)->(∀j,tM u j->tM v j\/S j=none)->SL 75 2 hp0 S' u (GC (l.take i++([p]++l.drop i))) (l.length+1)->(∀i q o n c,u≠ .oR i q o n c)->K u S'):aLc [v,ni i,.own q 0 1 1] S K:=by
 have hs0:cP hp0 S:=λj o e=>by cases e
 refine⟨v,l.length,i,q,0,1,rfl,⟨by omega,by omega⟩,?_⟩;by_cases e:i=l.length
 ·left
  refine⟨e,?_,?_⟩
  ·generalize hn:l.length=n at h na
   generalize GC l=ds at h;cases h with
   | nil=>exact .inl ⟨rfl,rfl⟩
   | acc=>exact .inr (.inl ⟨_,rfl⟩)
   | oR=>exact absurd rfl (na _ _ _ _ _)
   | own=>exact .inr (.inr ⟨_,rfl,rfl⟩)
  ·refine h.apps (m:=0) (new:=toC p) hs0 (by omega) (by omega) (aDo p) rfl (.inl rfl) (by decide) (λ{K} hK=>LN (m:=1) rq rfl hK) λu S' _ e2 e3 e4 e5=>?_
   refine hk u S' e2 e3 ?_ (e5 na);subst e;rw [US,List.drop_length,Ap];have:GC ([p]++[])=toC p:=by show toC p++[]=_;rw [nP]
   rw [this];exact e4
 ·right
  have PU:i<l.length:=by omega
  generalize hn:l.length=n at h na PU hk;generalize hd:GC l=ds at h;cases h with
  | nil=>omega
  | own=>omega
  | oR=>exact absurd rfl (na _ _ _ _ _)
  | @acc b _ vs _ h0 h XC Kk hv=>
   have GM:vs.all pN=true:=wA.one ⟨XC.trans Kk.symm,hv⟩;refine⟨PU,b,vs,TQ p,75,rfl,h,rq,bI _,GM,rfl,?_⟩;have e0:((TQ p).drop 0).take 2=TQ p:=rfl;rw [e0];unfold qG;refine LN (m:=1) rq rfl ?_;refine⟨rfl,?_⟩;simp only [h];refine⟨trivial,trivial,XC,by omega,?_⟩;have hi2:=lB 2 PU;have rY:(TQ p).length=2:=rfl;unfold aI1;simp only [aB];refine⟨trivial,?_,?_⟩
   ·simp only [bH,qT,XC,rY];omega
   ·rw [cW]
    refine hk _ _ (λj o e hj=>by rw [aC (λc=>hj (show b=j from c.symm))];exact e) (λj e=> .inl (by cases e;exact rfl)) ?_ (λ_ _ _ _ _ e=>by cases e);have ht:(GC (l.take i)).length=i*2:=by rw [xQ,jL];omega
    refine .acc h0 aB ?_ ?_ ?_
    ·rw [NU (by simp only [bH,qT,XC,rY];omega)]
     simp only [bH,XC,rY];omega
    ·rw [xQ];simp only [bH,jL,qT,qS,Rv];omega
    ·rw [Ap,Ap,show GC [p]=toC p by show toC p++[]=_;rw [nP],<-ht]
     have Sw:GB (vs++TQ p) (GC (l.take i)):=λj d e=>by
      have hj:=(dS.1 e).1
      have:ds[j]? =some d:=by
       have e3:ds=GC (l.take i)++GC (l.drop i):=by rw [<-hd,<-Ap,MF]
       rw [e3,fB hj];exact e
      obtain⟨t,q⟩:=hv j d this;exact⟨t,by rw [fB (dS.1 q).1];exact q⟩
     refine Sw.aE (by rw [ht];simp only [bH,qT,XC,rY];omega) ?_;have ht2:i*2=(GC (l.take i)).length:=ht.symm;refine(aDo p).app ⟨by rw [qT,XC,xQ,xQ,qT,jL];omega,?_⟩;rw [ht,aBl,hd];exact hv.drop _
end
section
variable{M d:Nat}{x:VE}{S:Hp}{K:KV}{b:Nat}{B:Bd}{sd:Nat->Prop}
theorem aGb{l:List (Int×List UInt8)}{tx:List UInt8}{j:Nat}(h:j<l.length):Pa (l.take (j+1)) tx=Pa (l.take j) tx+(if l[j].2=tx then 1 else 0):=by
 unfold Pa;rw [tO,aP h,UQ,bH]
 congr 1
 simp only [Option.toList,JZ,Iz];by_cases e:l[j].2=tx<;>simp [e]
theorem aNU(hM:100000<M)(hx:DP M (d+3) x)(h:rV S b B sd)(hl:B.told.length<9999)(hs:Du B.told){z:Int}(hz:0<=z/\z<=1000){tx:List UInt8}
 (hK:∀S' KT,rV S' b (B.MA z tx) KT->Ds sd S S' KT->K (.tuple []) S'):x.call sU [.ptr b 0,nz z,.str tx] S K:=by
 obtain⟨bv,tv,kv,SB,h,rfl⟩:=h;refine hx.call rfl λy hy=>?_;rw [WO];unfold HT gN gM;have l16:LD b 16 S tv:=fD h.row rfl;rw [aV,aG,l16];refine aPw (d:=d) hM hy h.told (by omega) hs hz ?_;show iQ (.bool (Ni B.told z)) _ _;cases e:Ni B.told z with
 | true=>
  rw [eY];have:B.MA z tx=B:=by unfold Bd.MA;rw [e];rfl
  rw [this]at hK;exact aF (hK S _ ⟨bv,tv,kv,SB,h,rfl⟩ (.refl _ _))
 | false=>
  have eh:B.MA z tx={B with told:=uL B.told (z,tx),dec:=if 1<Pa (uL B.told (z,tx)) tx then tx else B.dec}:=by unfold Bd.MA;rw [e];rfl
  rw [eh]at hK;rw [cF,aV,aG,l16];have bld:∀{k:V->Prop},k (.agg (TQ (z,tx)))->fX NI [(0,1,nz z),(1,1,.str tx)] k:=λ{k} hk=>⟨rfl,aW rfl,rfl,aW rfl,hk⟩;refine bld ?_;refine sE rfl rfl rfl rfl λq hq=>?_;have eU:cP S (aM S q (.row (TQ (z,tx)) 75)):= .aN hq;have rq:aM S q (.row (TQ (z,tx)) 75) q=some (.row (TQ (z,tx)) 75):=aB;have g:=h.up eU;generalize aM S q (.row (TQ (z,tx)) 75)=S1 at eU rq g;refine hy.yE (g:=aLc) rfl ?_;refine g.told.ins g.tna (aEE _ _) (by omega) rq λu S2 kp AX sl na=>?_;have nb2:¬tM tv b:=g.told.nat g.row;have rb2:=kp _ _ g.row nb2;rw [aV,aG,RX rb2 (aW rfl) sl.one];have nu_:¬tM u b:=λc=>(AX b c).elim nb2 λc=>by rw [g.row]at c;cases c
  have BS:(iF B bv tv kv).set 16 u=iF {B with told:=uL B.told (z,tx)} bv u kv:=rfl;rw [BS];have kp3:∀j o,j≠b->S1 j=some o->¬tM tv j->aM S2 b (.row (iF {B with told:=uL B.told (z,tx)} bv u kv) 82) j=some o:=λj o h1 h2 h3=>by rw [aC h1];exact kp _ _ h2 h3
  have gg:Brd (aM S2 b (.row (iF {B with told:=uL B.told (z,tx)} bv u kv) 82)) b {B with told:=uL B.told (z,tx)} bv u kv SB:=by
   refine⟨aB,?_,?_,?_,g.nb,na⟩
   ·have:=sl.set (o:= .row (iF {B with told:=uL B.told (z,tx)} bv u kv) 82) nu_
    rw [aBm];exact this
   ·exact g.kept.but λj o h1 h2=>kp3 j o (λc=>by rw [c]at h1;exact g.kept.nat g.row h1) h2 (g.kept.ne2 g.told (by decide) h1)
   ·exact g.dI.but λj o h1 h2=>kp3 j o (λc=>g.nb (by rw [<-c];exact h1)) h2 (λc=>g.told.aGa g.dI c h1)
  have F:Ds (Own b tv kv SB) S (aM S2 b (.row (iF {B with told:=uL B.told (z,tx)} bv u kv) 82)) (Own b u kv SB):=by
   refine⟨λj o hn e=>kp3 j o (λc=>hn (.inl c)) (eU _ _ e) λc=>hn (.inr (.inl c)),λj hj=>?_⟩;rcases hj with hj | hj | hj | hj
   ·exact .inl (.inl hj)
   ·rcases AX j hj with c | c
    ·exact .inl (.inr (.inl c))
    ·exact .inr (eU.none c)
   ·exact .inl (.inr (.inr (.inl hj)))
   ·exact .inl (.inr (.inr (.inr hj)))
  generalize aM S2 b (.row (iF {B with told:=uL B.told (z,tx)} bv u kv) 82)=S3 at gg F;have m16:LD b 16 S3 u:=fD gg.row rfl;rw [aV,aG,m16,gg.told.len,hy.most];have hlen:(uL B.told (z,tx)).length<10000:=by rw [aBm];omega
  have go:∀(q j k:Nat) (Skz:Hp),j+q=(uL B.told (z,tx)).length->q<k->cP S3 Skz->iV y k (.ptr b 0) (.str tx) (ni (Pa ((uL B.told (z,tx)).take j) tx)) u (ni (uL B.told (z,tx)).length) (ni j) Skz K:=by
   intro q;induction q with
   | zero=>
    intro j k Skz hj hk le;obtain⟨k,rfl⟩:=KJ hk;rw [uE];unfold oK gG gM;refine RC S3 le ?_;have l6:LD b 6 S3 (ni 1):=fD gg.row rfl;rw [dW,BC (by omega),cF,aV,aG,aG,l6,Dq,oS (by omega)];cases e2:decide (1<Pa (uL B.told (z,tx)) tx)with
    | true=>
     rw [eY,aV,aG,RX gg.row (aW rfl) rfl];rw [if_pos (MI e2)]at hK;refine aF (hK _ _ ⟨bv,u,kv,SB,gg.setRow (B':={B with told:=uL B.told (z,tx),dec:=tx}) rfl rfl rfl,rfl⟩ (F.trans ⟨λj o hn e=>by rw [aC (λc=>hn (.inl c))];exact e,λj hj=> .inl hj⟩))
    | false=>
     rw [cF];rw [if_neg (Bb e2)]at hK;exact aF (hK _ _ ⟨bv,u,kv,SB,gg,rfl⟩ F)
   | succ q ih=>
    intro j k Skz hj hk le;obtain⟨k,rfl⟩:=KJ hk;rw [uE];unfold oK gG gM;refine aH ?_;have MC:j<(uL B.told (z,tx)).length:=by omega
    obtain⟨us,TI,Ei⟩:=(gg.told.up le).ldn MC;rw [XA (aP MC)]at TI;rw [aI9 TI]at Ei;rw [dW,Gg MC,eY,Ei];intro r hr;refine gJ (cs:=TQ (uL B.told (z,tx))[j]) aB rfl rfl (by rfl) ?_;rw [cW];have lA:cP Skz (aM Skz r (.row (TQ (uL B.told (z,tx))[j]) 75)):= .aN hr;have rr:aM Skz r (.row (TQ (uL B.told (z,tx))[j]) 75) r=some (.row (TQ (uL B.told (z,tx))[j]) 75):=aB;generalize aM Skz r (.row (TQ (uL B.told (z,tx))[j]) 75)=Sr at lA rr;have l1:LD r 1 Sr (.str (uL B.told (z,tx))[j].2):=fD rr rfl;have q9:∀{k:V->Prop},aD PP .eql 9 (.str (uL B.told (z,tx))[j].2) (.str tx) k=k (.bool (decide ((uL B.told (z,tx))[j].2=tx))):=λ{k}=>rfl;rw [aG,l1,q9];have ct:=aGb (tx:=tx) MC
    have cl:Pa ((uL B.told (z,tx)).take j) tx<=10000:=by
     unfold Pa;refine tP (DU _ _) ?_;rw [jL];omega
    have:=ih (j+1) k Sr (by omega) (by omega) (le.trans lA);rw [ct]at this;by_cases e2:(uL B.told (z,tx))[j].2=tx
    ·rw [if_pos e2]at this
     rw [aU e2,eY,fP (by omega),fP (by omega)];exact this
    ·rw [if_neg e2,MJ]at this
     rw [aR e2,cF,fP (by omega)];exact this
  exact go (uL B.told (z,tx)).length 0 M S3 (by omega) (by omega) (.refl _)
end
section
variable{M d:Nat}{x:VE}{S:Hp}{K:KV}{b:Nat}{B:Bd}{sd:Nat->Prop}
theorem aRk:ED nS=some [n8 0,ni 0,ni 0,ni 0,ni 0,ni 0,ni 0,ni 0,ni 0,.str [],.nil]:=rfl
theorem aNV(O:Tag)(m:Ms):wA (nW O m) (Nd m):= .cons O _ (.cons O _ (.cons O _ (.cons O _ (.cons O _ (.cons O _ (.cons O _ (.cons O _ (.cons O _ (.cons O _ (.cons O _ .nil))))))))))
theorem aLj(hx:DP M (d+1) x)(hM:M≠0){S0:Hp}{bv tv kv nv:V}{i a:Nat}{t:Tag}{g:Ms}{l:List Ms}(rb:S b=some (.row (iF B bv tv kv) 82))(ri:S i=some (.row [.ptr b 0] 25))(ra:S a=some (.row [nv] 23))(hs:cP S0 S)(sl:SL 37 11 S0 S nv (pE l) l.length)(hl:l.length<100000)
 (hF:decide (g.ht=B.ht)=false->K (.bool false) S)
 (hT:decide (g.ht=B.ht)=true->∀w S',(∀j o,j≠a->¬tM nv j->S j=some o->S' j=some o)->S' a=some (.row [w] 23)->(∀j,tM w j->tM nv j\/S j=none)->SL 37 11 S0 S' w (pE (l++[g])) (l++[g]).length->K (.bool true) S'):x.call mV [.agg (nW t g),.ptr i 0,.ptr a 0] S K:=by
 refine hx.call rfl λy hy=>?_;rw [RK];unfold DI gN gG;refine fR rfl λr hr=>?_;have eU:cP S (aM S r (.row (nW t g) 37)):= .aN hr;have rr:aM S r (.row (nW t g) 37) r=some (.row (nW t g) 37):=aB;have rb1:=eU _ _ rb;have ri1:=eU _ _ ri;have ra1:=eU _ _ ra;have sl1:=sl.up eU;generalize aM S r (.row (nW t g) 37)=S1 at eU rr rb1 ri1 ra1 sl1;have l3:LD r 3 S1 (nz g.ht):=fD rr rfl;have li:LD i 0 S1 (.ptr b 0):=fD ri1 rfl;have la:LD a 0 S1 nv:=fD ra1 rfl;have lb:LD b 13 S1 (nz B.ht):=fD rb1 rfl;have hm:y.most≠0:=by rw [hy.most];exact hM
 rw [aG,l3,li,aV,aG,lb,cV];cases e:decide (g.ht=B.ht)with
 | false=>
  rw [cF,xC _ hm];unfold qZ gN gG;refine aH ?_;rw [aG,l3,li,aV,aG,lb,cV,e];exact cL eU (hF e)
 | true=>
  rw [eY,la];refine eX (n:=11) (i:=r) rr rfl ?_;refine sl1.app (hs.trans eU) (by omega) aRk rfl (aNV t g) rfl (by decide) λw S2 e1 kp AX sw=>?_;have nva:¬tM nv a:=sl1.nat ra1;have ra2:=kp _ _ ra1 nva;rw [RX ra2 (aW rfl) sw.one,xC _ hm];unfold qZ gN gG;refine aH ?_;have kp2:∀j o,j≠a->¬tM nv j->S1 j=some o->aM S2 a (.row ([nv].set 0 w) 23) j=some o:=λj o h1 h2 h3=>by rw [aC h1];exact kp _ _ h3 h2
  have nra:r≠a:=λc=>by rw [c,ra1]at rr;cases rr
  have nia:i≠a:=λc=>by rw [c,ra1]at ri1;cases ri1
  have nba:b≠a:=λc=>by rw [c,ra1]at rb1;cases rb1
  have rr3:=kp2 _ _ nra (sl1.nat rr) rr;have ri3:=kp2 _ _ nia (sl1.nat ri1) ri1;have rb3:=kp2 _ _ nba (sl1.nat rb1) rb1;have l3':∀{K:KV},bJ (.ptr r 3) (aM S2 a (.row ([nv].set 0 w) 23)) K=K (nz g.ht) (aM S2 a (.row ([nv].set 0 w) 23)):=fD rr3 rfl;have li':∀{K:KV},bJ (.ptr i 0) (aM S2 a (.row ([nv].set 0 w) 23)) K=K (.ptr b 0) (aM S2 a (.row ([nv].set 0 w) 23)):=fD ri3 rfl;have lb':∀{K:KV},bJ (.ptr b 13) (aM S2 a (.row ([nv].set 0 w) 23)) K=K (nz B.ht) (aM S2 a (.row ([nv].set 0 w) 23)):=fD rb3 rfl;rw [aG,l3',li',aV,aG,lb',cV,e];refine aF (hT e w _ (λj o h1 h2 h3=>kp2 j o h1 h2 (eU _ _ h3)) aB (λj hj=>(AX j hj).imp id eU.none) ?_);have e3:pE (l++[g])=pE l++Nd g:=by rw [Ao];show pE l++(Nd g++[])=_;rw [nP]
  rw [e3,bH];exact sw.set (λc=>(AX a c).elim nva λc=>by rw [ra1]at c;cases c)
end
def aGc(p:Int×List UInt8):List (Int×List UInt8)->List (Int×List UInt8)
 | []=>[p]
 | q::l=>if q.1<p.1 then q::aGc p l else p::q::l
theorem aJa(p:Int×List UInt8):∀l,uL l p=aGc p l:=by
 intro l;induction l with
 | nil=>rfl
 | cons q l ih=>
  unfold uL Wv at ih ⊢;unfold aGc;by_cases h:q.1<p.1
  ·rw [if_pos h,Ro,if_pos (by simpa using h),<-ih];rfl
  ·rw [if_neg h,Ro,if_neg (by simpa using h)];rfl
theorem Nj{p q:Int×List UInt8}{l:List (Int×List UInt8)}(h:q∈aGc p l):q=p\/q∈l:=by
 induction l with
 | nil=>exact .inl (Ay.1 h)
 | cons a l ih=>
  unfold aGc at h;split at h
  ·rcases dA.1 h with rfl | h
   ·exact .inr (.head _)
   ·exact(ih h).imp id (.tail _)
  ·rcases dA.1 h with rfl | h
   ·exact .inl rfl
   ·exact .inr h
theorem Du.ins{l:List (Int×List UInt8)}{z:Int}{tx:List UInt8}(h:Du l)(hn:Ni l z=false)(hz:0<=z/\z<=1000):Du (uL l (z,tx)):=by
 rw [aJa];refine⟨?_,λp hp=>(Nj hp).elim (λe=>by rw [e];exact hz) (h.2 p)⟩
 have hn':∀p∈l,p.1≠z:=λp hp e=>by
  have:=Be.1 hn p hp;simp [e]at this
 have h':=h.1;clear h hn;revert h' hn';induction l with
 | nil=>intro _ _;exact aBB _ _
 | cons a l ih=>
  intro hn h;rw [tN]at h;unfold aGc;by_cases e:a.1<z
  ·rw [if_pos e,tN]
   refine⟨λq hq=>?_,ih (λp hp=>hn p (.tail _ hp)) h.2⟩;rcases Nj hq with rfl | hq
   ·exact e
   ·exact h.1 q hq
  ·rw [if_neg e,tN,tN]
   have:=hn a (.head _);refine⟨λq hq=>?_,h.1,h.2⟩;have e2:z<a.1:=by omega
   rcases dA.1 hq with rfl | hq
   ·exact e2
   ·exact Int.lt_trans e2 (h.1 q hq)
theorem Du.len{l:List (Int×List UInt8)}(h:Du l):l.length<=1001:=by
 have go:∀(l:List (Int×List UInt8)) (lo:Nat),lo<=1001->l.Pairwise (λp q=>p.1<q.1)->(∀p∈l,(lo:Int)<=p.1/\p.1<=1000)->l.length+lo<=1001:=by
  intro l;induction l with
  | nil=>intro lo h _ _;simpa using h
  | cons a l ih=>
   intro lo hlo hp hb;rw [tN]at hp;have ha:=hb a (.head _);have:=ih (a.1.toNat+1) (by omega) hp.2 λq hq=>⟨by have:=hp.1 q hq;omega,(hb q (.tail _ hq)).2⟩;simp only [qS];omega
 have:=go l 0 (by omega) h.1 λp hp=>by have:=h.2 p hp;omega
 omega
theorem aJb{B:Bd}{z:Int}{tx:List UInt8}(h:Du B.told)(hz:0<=z/\z<=1000):Du (B.MA z tx).told:=by
 unfold Bd.MA;cases e:Ni B.told z with
 | true=>exact h
 | false=>exact h.ins e hz
def Bd.vO(ms:List Int)(B:Bd)(m:Ms):Bd:=if(decide (uK ms m.fr= -1) || !decide (B.dec=[]))then B else if m.kind=5 then B.MA m.fr m.text else {B with dI:=B.dI.map λa=>a.WT (uK ms m.fr+1) m.kind m.ht m.rd m.vl m.text}
def Bd.open_(ms:List Int)(B:Bd):Bd:=(B.kept.filter λm=>decide (m.ht=B.ht)).foldl (Bd.vO ms) {B with kept:=B.kept.filter λm=> !decide (m.ht=B.ht)}
theorem aBn{ms:List Int}{z:Int}(h:uK ms z≠ -1):z∈ms:=by
 unfold uK at h;split at h
 ·rename_i i e
  obtain⟨hi,h1,_⟩:=Ri.1 e;have:z=ms[i]:=by simpa using h1
  rw [this];exact nO _
 ·exact absurd rfl h
theorem Ik{ms:List Int}{z:Int}: -1<=uK ms z/\uK ms z<ms.length:=by
 unfold uK;split
 ·rename_i i e
  obtain⟨hi,_,_⟩:=Ri.1 e;simp only [lR];omega
 ·omega
theorem aBo{B:Bd}{z:Int}{tx:List UInt8}:(B.MA z tx).dI=B.dI:=by unfold Bd.MA;split<;>rfl
theorem aGd{ms:List Int}{B:Bd}{m:Ms}(h:B.dI.isSome):(B.vO ms m).dI.isSome:=by
 unfold Bd.vO;split
 ·exact h
 ·split
  ·rw [aBo];exact h
  ·simpa using h
section
variable{M d:Nat}{x:VE}{S:Hp}{K:KV}{b:Nat}{B:Bd}{sd:Nat->Prop}
theorem aLk(hM:100000<M)(hx:DP M (d+4) x){O:Tag}{ms:List Int}(DT:ms.length<1000)(hms:∀z∈ms,1<=z/\z<=5){i:Nat}{S0:Hp}{nv:V}{now:List Ms}(MB:now.length<100000)(pQ:∀m∈now,m.kind<256)
 (ri:S i=some (.row [.ptr b 0] 25)) (sn:SL 37 11 S0 S nv (pE now) now.length) (ni_:¬sd i) (nn:∀j,tM nv j->¬sd j):
 ∀(q j k:Nat) (Skz:Hp) (Bk:Bd) (Sk:Nat->Prop),j+q=now.length->q<k->rV Skz b Bk Sk->Ds sd S Skz Sk->Du Bk.told->Bk.dI.isSome=true->
  (∀S' KT,rV S' b ((now.drop j).foldl (Bd.vO ms) Bk) KT->Ds sd S S' KT->K (.tuple []) S')->
  fO x k (.list O (OV ms) ms.length) (.ptr i 0) nv (ni now.length) (ni j) Skz K:=by
 intro q;induction q with
 | zero=>
  intro j k Skz Bk Sk hj hk hB hF hs hb hK;obtain⟨k,rfl⟩:=KJ hk;rw [wG];unfold qB XG jK uM gQ gN gG;refine aH ?_;rw [dW,BC (by omega),cF];rw [OY (by omega)]at hK;exact aF (hK Skz Sk hB hF)
 | succ q ih=>
  intro j k Skz Bk Sk hj hk hB hF hs hb hK;obtain⟨k,rfl⟩:=KJ hk;rw [wG];unfold qB XG jK uM gQ gN gG;refine aH ?_;have MC:j<now.length:=by omega
  rw [zG MC,PA]at hK;have rik:=hF.keep _ _ ni_ ri;have snk:SL 37 11 S0 Skz nv (pE now) now.length:=sn.but λj o h1 h2=>hF.keep _ _ (nn j h1) h2;obtain⟨us,TI,Ei⟩:=snk.ldn MC;rw [Nf (aP MC)]at TI;obtain⟨t,rfl⟩:=Dr TI;rw [dW,Gg MC,eY,Ei];intro r hr;refine gJ (cs:=nW t now[j]) aB rfl rfl (by rfl) ?_;rw [cW];have lA:cP Skz (aM Skz r (.row (nW t now[j]) 37)):= .aN hr;have rr:aM Skz r (.row (nW t now[j]) 37) r=some (.row (nW t now[j]) 37):=aB;have hB1:=hB.up lA;have ri1:=lA _ _ rik;have hF1:Ds sd S (aM Skz r (.row (nW t now[j]) 37)) Sk:=hF.trans (.le lA);generalize aM Skz r (.row (nW t now[j]) 37)=Sr at lA rr hB1 ri1 hF1;have hkd:=pQ _ (nO MC);generalize now[j]=m at hK rr hkd;have l1:LD r 1 Sr (nz m.fr):=fD rr rfl;have l0:LD r 0 Sr (n8 m.kind):=fD rr rfl;have l9:LD r 9 Sr (.str m.text):=fD rr rfl;have li:LD i 0 Sr (.ptr b 0):=fD ri1 rfl;obtain⟨bv,tv,kv,SB,g,rfl⟩:=hB1;have UJ:LD b 14 Sr (.str Bk.dec):=fD g.row rfl;have MD:LD b 15 Sr bv:=fD g.row rfl;rw [aG,l1];refine aDn (d:=d+3) hx (by omega) (by omega) ?_;have hz:=Ik (ms:=ms) (z:=m.fr)
  have q7:LB .add 3 (nz (uK ms m.fr)) (.int .i64 (.ofNat 1)) (nz (uK ms m.fr+1)):=λ{k}=>by
   rw [iM]
   congr 2
   exact wrap_small (by simp only [lR];omega) (by simp only [lR];omega)
  have q8:LB .eql 3 (nz (uK ms m.fr+1)) (.int .i64 (.ofNat 0)) (.bool (decide (uK ms m.fr= -1))):=λ{k}=>by
   rw [cV]
   congr 2
   rw [qU];simp only [decide_eq_true_eq,lR];omega
  have q9:LB .neq 9 (.str Bk.dec) (.str []) (.bool (!decide (Bk.dec=[]))):=λ{k}=>rfl;have qk:LB .eql 5 (n8 m.kind) (.int .u8 (.ofNat 5)) (.bool (decide (m.kind=5))):=λ{k}=>by rw [cV];congr 2;simp;omega
  have skip:Bk.vO ms m=Bk->(aD PP .add 3 (ni j) (.int .i64 (.ofNat 1)) λv20=>fO x k (.list O (OV ms) ms.length) (.ptr i 0) nv (ni now.length) v20 Sr K):=λe=>by
   rw [fP (by omega)];rw [e]at hK;exact ih (j+1) k Sr Bk _ (by omega) (by omega) ⟨bv,tv,kv,SB,g,rfl⟩ hF1 hs hb hK
  rw [q7,q8];by_cases e1:uK ms m.fr= -1
  ·rw [aU e1]
   repeat (first | rw [aL] | rw [EN] | rw [kB] | rw [eY] | dsimp only)
   refine skip ?_;unfold Bd.vO;rw [aU e1];rfl
  ·have hfr:=hms _ (aBn e1)
   rw [aR e1]
   repeat (first | rw [aL] | rw [aI] | rw [li] | rw [aV] | rw [aG] | rw [UJ] | rw [q9] | rw [fA] | dsimp only)
   by_cases e2:Bk.dec=[]
   ·rw [aU e2,eH,cF]
    repeat (first | rw [l0] | rw [aG])
    rw [qk]
    have est:Bk.vO ms m=if m.kind=5 then Bk.MA m.fr m.text else {Bk with dI:=Bk.dI.map λa=>a.WT (uK ms m.fr+1) m.kind m.ht m.rd m.vl m.text}:=by
     unfold Bd.vO;rw [aR e1,aU e2];rfl
    by_cases e3:m.kind=5
    ·rw [aU e3,eY]
     repeat (first | rw [li] | rw [l1] | rw [l9] | rw [aG])
     rw [if_pos e3]at est;have hlen:=hs.len;refine aNU (d:=d+1) hM hx (h:=⟨bv,tv,kv,SB,g,rfl⟩) (by omega) hs (by omega) λS' KT hB' hF'=>?_;rw [fP (by omega)];refine ih (j+1) k S' _ KT (by omega) (by omega) hB' (hF1.trans hF') (aJb hs (by omega)) (by rw [aBo];exact hb) ?_;rw [<-est];exact hK
    ·rw [aR e3,cF]
     repeat (first | rw [li] | rw [aV] | rw [MD] | rw [aG])
     rw [if_neg e3]at est;refine eX (n:=11) (i:=r) rr rfl ?_;obtain⟨me,ht,dec,dI,told,kept⟩:=Bk;have gb:=g.dI;have gnb:=g.nb;cases gb with
     | no=>cases hb
     | @is q' t' m' a kb=>
      refine aPn (n:=d) (by omega) hx kb (fr:=uK ms m.fr+1) (g:=⟨m.kind,m.fr,m.to,m.ht,m.rd,m.vl,m.ep,m.dl,m.id,m.text,m.nums.map (λn=>Dt.int .u64 (.ofNat n)),m.nums.length⟩) (O:=t) λS' c' kb'=>?_
      have hib:i≠q'/\i≠m':=by
       constructor<;>intro c<;>subst c
       ·exact ni_ ((hF1.new _ (.inr (.inr (.inr (.inl rfl))))).resolve_right (by rw [ri];intro c;cases c))
       ·exact ni_ ((hF1.new _ (.inr (.inr (.inr (.inr (.inr rfl)))))).resolve_right (by rw [ri];intro c;cases c))
      have li':∀{K:KV},bJ (.ptr i 0) S' K=K (.ptr b 0) S':=fD ((c' _ hib.1 hib.2).trans ri1) rfl;dsimp only;rw [li',dX rfl,fP (by omega)];have kp:∀j o,¬(j=q'\/j=t'\/j=m')->Sr j=some o->S' j=some o:=λj o h1 h2=>by rw [c' j (λc=>h1 (.inl c)) (λc=>h1 (.inr (.inr c)))];exact h2
      refine ih (j+1) k S' {me:=me,ht:=ht,dec:=dec,dI:=some (a.WT (uK ms m.fr+1) m.kind m.ht m.rd m.vl m.text),told:=told,kept:=kept} (Own b tv kv λj=>j=q'\/j=t'\/j=m') (by omega) (by omega) ⟨_,tv,kv,_,⟨?_,?_,?_,.is kb',gnb,g.tna⟩,rfl⟩ (hF1.trans ⟨λj o hn e=>kp j o (λc=>hn (.inr (.inr (.inr c)))) e,λj hj=> .inl hj⟩) hs rfl ?_
      ·exact kp _ _ gnb g.row
      ·exact g.told.but λj o h1 h2=>kp j o (λc=>g.told.aGa g.dI h1 c) h2
      ·exact g.kept.but λj o h1 h2=>kp j o (λc=>g.kept.aGa g.dI h1 c) h2
      ·rw [est]at hK;exact hK
   ·rw [aR e2,iH,eY]
    refine skip ?_;unfold Bd.vO;rw [aR e2];simp
end
section
variable{M d:Nat}{x:VE}{S:Hp}{K:KV}{b:Nat}{B:Bd}{sd:Nat->Prop}
theorem aNW(hM:100000<M)(hx:DP M (d+5) x){O:Tag}{ms:List Int}(DT:ms.length<1000)(hms:∀z∈ms,1<=z/\z<=5)(h:rV S b B sd)(hl:B.kept.length<90000)(pQ:∀m∈B.kept,m.kind<256)(hs:Du B.told)(hb:B.dI.isSome=true)
 (hK:∀S' KT,rV S' b (B.open_ ms) KT->Ds sd S S' KT->K (.tuple []) S'):x.call pA [.ptr b 0,.list O (OV ms) ms.length] S K:=by
 obtain⟨bv,tv,kv,SB,h,rfl⟩:=h;refine hx.call rfl λy hy=>?_;rw [WN];unfold HR gN gM;intro i hi;have eU:cP S (aM S i (.row [.ptr b 0] 25)):= .aN hi;have ri:aM S i (.row [.ptr b 0] 25) i=some (.row [.ptr b 0] 25):=aB;have g1:=h.up eU;generalize aM S i (.row [.ptr b 0] 25)=S1 at eU ri g1;intro a ha;have lA:cP S1 (aM S1 a (.row [.nil] 23)):= .aN ha;have ra:aM S1 a (.row [.nil] 23) a=some (.row [.nil] 23):=aB;have g:=g1.up lA;have Qz:=lA _ _ ri;generalize aM S1 a (.row [.nil] 23)=S2 at lA ra g Qz;have hia:i≠a:=λc=>by rw [c,ha]at ri;cases ri
 have hba:b≠a:=λc=>by have:=g1.row;rw [c,ha]at this;cases this
 have aBd:cP S S2:=eU.trans lA;have li:LD i 0 S2 (.ptr b 0):=fD Qz rfl;have l17:LD b 17 S2 kv:=fD g.row rfl;have sp:∀{p:Prop} {a:Nat},aT (.ptr a 0) (.ptr a 0) p=p:=λ{p a}=>dX rfl;dsimp only;rw [li,li,aV,aG,l17];refine Nh (d:=d+3) hy (λj o e=>by cases e) g.kept (by omega) λu S3 GG sl nas=>?_;have ri3:=GG _ _ Qz;have li3:LD i 0 S3 (.ptr b 0):=fD ri3 rfl
 repeat (first | rw [li3] | rw [sp])
 have ud:∀j,tM u j->S2 j=none:=λj hj=>(sl.at hj).1
 let J:List Ms->Hp->Prop:=λpre S'=>cP (del S2 a) S'/\∃nv,S' a=some (.row [nv] 23)/\SL 37 11 (del S2 a) S' nv (pE (pre.filter λm=>decide (m.ht=B.ht))) (pre.filter λm=>decide (m.ht=B.ht)).length/\∀j,tM u j->S' j≠none/\¬tM nv j/\j≠a
 have ds:∀{j:Nat} {o:Ob},j≠a->S2 j=some o->del S2 a j=some o:=λ{j o} h1 h2=>by unfold del;rw [if_neg h1];exact h2
 have hJ0:J [] S3:=by
  refine⟨aCK.trans GG,.nil,GG _ _ ra,.nil,λj hj=>⟨λc=>?_,λc=>c,λc=>?_⟩⟩
  ·rcases(sl.at hj).2 with e | ⟨_,_,e⟩<;>(rw [e]at c;cases c)
  ·rw [c]at hj;have:=ud _ hj;rw [ra]at this;cases this
 have ask:∀d',aI6 M (d'+1) (.func mV [] [.ptr i 0,.ptr a 0]) (λm=>decide (m.ht=B.ht)) B.kept u J:=λd'=>by
  refine⟨λz hz pre m aRl t S' K hJ hK=>?_,λpre S' vs vs' n j hj hJ he=>?_,λpre S' j o hJ hj=>?_⟩
  ·obtain⟨hle,nv,e1,e2,e3⟩:=hJ
   have rY:pre.length<90000:=by obtain⟨suf,e⟩:=aRl;rw [e]at hl;simp at hl;omega
   refine aLj (B:=B) (bv:=bv) (tv:=tv) (kv:=kv) (d:=d') hz (by omega) (hle _ _ (ds hba g.row)) (hle _ _ (ds hia Qz)) e1 hle e2 (by have:=DU (λm:Ms=>decide (m.ht=B.ht)) pre;omega) (λe=>?_) λe w S'' kp ew AX sw=>?_
   ·rw [e]at hK
    refine hK S' ⟨hle,nv,e1,?_,e3⟩ (λ_ _=>rfl) λ_ _ _ e=>e;rw [UQ,JZ,if_neg (by rw [e];simp),Iz,nP];exact e2
   ·rw [e]at hK
    have nva:∀{j:Nat} {o:Ob},S' j=some o->(∀vs m,o≠ .iX vs 37 m)->o≠ .row [] 37->¬tM nv j:=λ{j o} q1 q2 q3 c=>by
     rcases(e2.at c).2 with q | ⟨_,_,q⟩<;>(rw [q1]at q;injection q with q)
     ·exact q3 q
     ·exact q2 _ _ q
    refine hK S'' ⟨λj o q=>kp j o (λc=>by rw [c,Lv]at q;cases q) (λc=>by have:=(e2.at c).1;rw [q]at this;cases this) (hle _ _ q),w,ew,?_,λj hj=>?_⟩ (λj q1=>by
     cases hq:S' j with
     | none=>exact absurd hq (e3 j q1).1
     | some o=>exact kp j o (e3 j q1).2.2 (e3 j q1).2.1 hq) λr t' a' q=>?_
    ·rw [UQ,JZ,if_pos e,Iz]
     exact sw
    ·obtain⟨q1,q2,q3⟩:=e3 j hj
     cases hq:S' j with
     | none=>exact absurd hq q1
     | some o=>
      refine⟨(λc=>by rw [kp j o q3 q2 hq]at c;cases c),λc=>?_,q3⟩;rcases AX j c with c | c
      ·exact q2 c
      ·exact q1 c
    ·exact kp r _ (λc=>by rw [c,e1]at q;injection q with q;injection q with q1 q2;cases q2) (e2.nat q) q
  ·obtain⟨hle,nv,e1,e2,e3⟩:=hJ
   obtain⟨q1,q2,q3⟩:=e3 j hj;refine⟨λk o e=>?_,nv,by rw [aC q3.symm];exact e1,e2.set q2,λk hk=>⟨?_,(e3 k hk).2⟩⟩
   ·rw [aC (λc=>by have:=ud j hj;rw [c]at e;have:=aCK (S:=S2) (i:=a) _ _ e;rw [ud j hj]at this;cases this)];exact hle _ _ e
   ·by_cases c:k=j
    ·subst c;rw [aB];intro e;cases e
    ·rw [aC c];exact(e3 k hk).1
  ·obtain⟨hle,nv,e1,e2,e3⟩:=hJ
   have hu:cP S' (aM S' j o):= .aN hj;refine⟨hle.trans hu,nv,hu _ _ e1,e2.up hu,λk hk=>⟨?_,(e3 k hk).2⟩⟩;have:=(e3 k hk).1;cases hq:S' k with
   | none=>exact absurd hq this
   | some p=>rw [hu _ _ hq];intro e;cases e
 refine aI7 (d:=d+2) (J:=J) hM hy sl (by omega) (λi q c=>nas _ _ _ _ _) (ask (d+1)) (ask (d+2)) hJ0 λw S4 hJ4 AX sw=>?_;obtain⟨Dv,nv,ra4,sn,hu4⟩:=hJ4;have ri4:=Dv _ _ (ds hia Qz);have rb4:=Dv _ _ (ds hba g.row);have li4:LD i 0 S4 (.ptr b 0):=fD ri4 rfl
 repeat (first | rw [li4] | rw [sp])
 rw [aV,aG,RX rb4 (aW rfl) sw.one];have BS:(iF B bv tv kv).set 17 w=iF {B with kept:=B.kept.filter λm=> !decide (m.ht=B.ht)} bv tv w:=rfl;rw [BS];have wb:¬tM w b:=λc=>by have:=ud _ (AX _ c);rw [g.row]at this;cases this
 have kp5:∀j o,j≠a->j≠b->S2 j=some o->aM S4 b (.row (iF {B with kept:=B.kept.filter λm=> !decide (m.ht=B.ht)} bv tv w) 82) j=some o:=λj o h1 h2 h3=>by rw [aC h2];exact Dv _ _ (ds h1 h3)
 have na0:∀{j:Nat} {o:Ob},S j=some o->j≠a:=λ{j o} e c=>by have:=eU _ _ e;rw [c,ha]at this;cases this
 have gg:rV (aM S4 b (.row (iF {B with kept:=B.kept.filter λm=> !decide (m.ht=B.ht)} bv tv w) 82)) b {B with kept:=B.kept.filter λm=> !decide (m.ht=B.ht)} (Own b tv w SB):=by
  refine⟨bv,tv,w,SB,⟨aB,?_,?_,?_,g.nb,g.tna⟩,rfl⟩
  ·exact h.told.but λj o h1 h2=>kp5 j o (na0 h2) (λc=>by rw [c]at h1;exact h.told.nat h.row h1) (aBd _ _ h2)
  ·exact(sw.base (λj o e=>by cases e)).set wb
  ·exact h.dI.but λj o h1 h2=>kp5 j o (na0 h2) (λc=>h.nb (by rw [<-c];exact h1)) (aBd _ _ h2)
 have F:Ds (Own b tv kv SB) S (aM S4 b (.row (iF {B with kept:=B.kept.filter λm=> !decide (m.ht=B.ht)} bv tv w) 82)) (Own b tv w SB):=by
  refine⟨λj o hn e=>kp5 j o (na0 e) (λc=>hn (.inl c)) (aBd _ _ e),λj hj=>?_⟩;rcases hj with hj | hj | hj | hj
  ·exact .inl (.inl hj)
  ·exact .inl (.inr (.inl hj))
  ·exact .inr (aBd.none (ud _ (AX _ hj)))
  ·exact .inl (.inr (.inr (.inr hj)))
 have nab:a≠b:=hba.symm;have ra5:aM S4 b (.row (iF {B with kept:=B.kept.filter λm=> !decide (m.ht=B.ht)} bv tv w) 82) a=some (.row [nv] 23):=by rw [aC nab];exact ra4
 have nib:i≠b:=λc=>by rw [c]at Qz;rw [g.row]at Qz;cases Qz
 have ri5:aM S4 b (.row (iF {B with kept:=B.kept.filter λm=> !decide (m.ht=B.ht)} bv tv w) 82) i=some (.row [.ptr b 0] 25):=by rw [aC nib];exact ri4
 have nvb:¬tM nv b:=sn.nat rb4;have sn5:=sn.set (o:= .row (iF {B with kept:=B.kept.filter λm=> !decide (m.ht=B.ht)} bv tv w) 82) nvb
 have aPx:∀{j:Nat},Own b tv w SB j->¬tM w j->∃o,S j=some o:=λ{j} hj hw=>by
  rcases hj with hj | hj | hj | hj
  ·exact h.some_ (.inl hj)
  ·exact h.some_ (.inr (.inl hj))
  ·exact absurd hj hw
  ·exact h.some_ (.inr (.inr (.inr hj)))
 have nn:∀j,tM nv j->¬Own b tv w SB j:=λj hj c=>by
  have hja:j≠a:=λc=>by rw [c]at hj;exact sn.nat ra4 hj
  have h2:=(sn.at hj).1;have h3:¬tM w j:=λc=>(hu4 j (AX j c)).2.1 hj;obtain⟨o,e⟩:=aPx c h3;rw [ds hja (aBd _ _ e)]at h2;cases h2
 have nio:¬Own b tv w SB i:=λc=>by
  have h3:¬tM w i:=λc=>by have:=ud _ (AX _ c);rw [Qz]at this;cases this
  obtain⟨o,e⟩:=aPx c h3;rw [hi]at e;cases e
 generalize aM S4 b (.row (iF {B with kept:=B.kept.filter λm=> !decide (m.ht=B.ht)} bv tv w) 82)=S5 at gg F ra5 ri5 sn5;have la:LD a 0 S5 nv:=fD ra5 rfl;rw [la,sn5.len,hy.most];have MB:=DU (λm:Ms=>decide (m.ht=B.ht)) B.kept;refine aLk (d:=d) (ms:=ms) hM hy DT hms (i:=i) (nv:=nv) (by omega) (λm hm=>pQ m (gE.1 hm).1) ri5 sn5 nio nn (B.kept.filter λm=>decide (m.ht=B.ht)).length 0 M S5 _ _ (by omega) (by omega) gg (.refl _ _) hs hb λS' KT hB' hF'=>?_;exact hK S' KT hB' (F.trans hF')
end
def zC:Code->Nat
 | .region i _ _=>i
 | _=>0
def vX:Code->Array Oper
 | .region _ o _=>o
 | _=> #[]
def vY:Code->Bool
 | .region _ _ d=>d
 | _=>false
def aO7:Code->Operand
 | .cond c _ _=>c
 | _=> .tmp 0
def aQV:Code->Nat
 | .block i _=>i
 | _=>0
section
variable(P:Program)(tb:pR)(lp:Code->LpV)
def aC8(R5 R6 R7:Code)(c:Operand)(R8:Code)(la lj:List Nat)(lpv jv:List V->Nat->Hp->Prop)(E:VE)(A:VA)(S:Hp):Prop:=
 (aAB P (vX R5) (vY R5)).f E A S λA S=>(aAB P (vX R6) (vY R6)).f E A S λA S=>(aAB P (vX R7) (vY R7)).f E A S λA S=>
  (wE c).f A λv=>iQ v ((aAB P (vX R8) (vY R8)).f E A S λA S=>HJ la A λws=>lpv ws A.tmps.n S) (HJ lj A λws=>jv ws A.tmps.n S)
end
section
variable{P:Program}{tb:FuncId->pR}{f:FuncId}{fn:Func}{a0 s1 s2 R5 R6 R7 R8 R9 a Y:Code}{c:Operand}{id:Nat}{l3 lj:List Nat}{E:VE}{vs:List V}{S:Hp}{K:KV}
theorem aQW(hf:P.funcs[f]? =some fn)(hb:fn.body=some (.seq a0 (.seq s1 (.seq s2 (.seq (.region (zC R5) (vX R5) (vY R5)) (.seq (.region (zC R6) (vX R6) (vY R6)) (.seq (.seq (.region (zC R7) (vX R7) (vY R7)) (.cond c (.seq (.seq (.region (zC R8) (vX R8) (vY R8)) (.block id (.loop a))) R9) .skip)) Y)))))))
 (h3:nQ (tb f) (.seq (.region (zC R5) (vX R5) (vY R5)) (.seq (.region (zC R6) (vX R6) (vY R6)) (.seq (.seq (.region (zC R7) (vX R7) (vY R7)) (.cond c (.seq (.seq (.region (zC R8) (vX R8) (vY R8)) (.block id (.loop a))) R9) .skip)) Y)))=some l3)
 (h6:nQ (tb f) (.seq (.region (zC R6) (vX R6) (vY R6)) (.seq (.seq (.region (zC R7) (vX R7) (vY R7)) (.cond c (.seq (.seq (.region (zC R8) (vX R8) (vY R8)) (.block id (.loop a))) R9) .skip)) Y))=none)
 (h7:nQ (tb f) (.seq (.seq (.region (zC R7) (vX R7) (vY R7)) (.cond c (.seq (.seq (.region (zC R8) (vX R8) (vY R8)) (.block id (.loop a))) R9) .skip)) Y)=none)
 (hc:nQ (tb f) (.cond c (.seq (.seq (.region (zC R8) (vX R8) (vY R8)) (.block id (.loop a))) R9) .skip)=none)
 (hl:nQ (tb f) (.block id (.loop a))=none) (hj:nQ (tb f) Y=some lj):
 Lr P tb f E [.r,.r,.r] [] vs S K=fG S λS=>EE l3 vs fn.ntmps P.globals.size λA=>aC8 P R5 R6 R7 c R8 (tQ (tb f) a) lj
  (λws n S=>JG P (tb f) a (lO P (tb f) none (EG P (tb f) none 4) a) E (aAC P (tb f) a (Lx id (ZK P (nQ (tb f) R9) (lO P (tb f) none (EG P (tb f) none tE) R9) E (ZK P (nQ (tb f) Y) (lO P (tb f) none (EG P (tb f) none tE) Y) E (Or P fn K))))) E.most ws n S)
  (λws n S=>aAD P lj (lO P (tb f) none (EG P (tb f) none tE) Y) E (Or P fn K) ws n S) E A S:=by
 have e0:Lr P tb f E [.r,.r,.r] [] vs S K=fG S λS=>EE l3 vs fn.ntmps P.globals.size λA=>(lO P (tb f) none (EG P (tb f) none tE) (.seq (.region (zC R5) (vX R5) (vY R5)) (.seq (.region (zC R6) (vX R6) (vY R6)) (.seq (.seq (.region (zC R7) (vX R7) (vY R7)) (.cond c (.seq (.seq (.region (zC R8) (vX R8) (vY R8)) (.block id (.loop a))) R9) .skip)) Y)))).f E A S (Or P fn K):=by
  unfold Lr;rw [hf];simp only [hb];show(match nQ (tb f) _ with | some l=>_ | none=>False)=_;rw [h3]
 rw [e0]
 congr 1
 funext S
 congr 1
 funext A
 unfold aC8;simp only [lO,ZK,h6,h7,hc,hl,hj];rfl
theorem aQX(hf:P.funcs[f]? =some fn)(hb:fn.body=some (.seq a0 (.seq s1 (.seq s2 (.seq (.region (zC R5) (vX R5) (vY R5)) (.seq (.region (zC R6) (vX R6) (vY R6)) (.seq (.seq (.region (zC R7) (vX R7) (vY R7)) (.cond c (.seq (.seq (.region (zC R8) (vX R8) (vY R8)) (.block id (.loop a))) R9) .skip)) Y))))))){m:Nat}:
 mT P tb f E [.r,.r,.r,.r,.r,.l,.r,.l,.l,.r,.d] m [] vs S K=JG P (tb f) a (lO P (tb f) none (EG P (tb f) none 4) a) E (aAC P (tb f) a (Lx id (ZK P (nQ (tb f) R9) (lO P (tb f) none (EG P (tb f) none tE) R9) E (ZK P (nQ (tb f) Y) (lO P (tb f) none (EG P (tb f) none tE) Y) E (Or P fn K))))) m vs fn.ntmps S:=by
 unfold mT;rw [hf];simp only [hb];rfl
theorem aQY(hf:P.funcs[f]? =some fn)(hb:fn.body=some (.seq a0 (.seq s1 (.seq s2 (.seq (.region (zC R5) (vX R5) (vY R5)) (.seq (.region (zC R6) (vX R6) (vY R6)) (.seq (.seq (.region (zC R7) (vX R7) (vY R7)) (.cond c (.seq (.seq (.region (zC R8) (vX R8) (vY R8)) (.block id (.loop a))) R9) .skip)) Y)))))))(hj:nQ (tb f) Y=some lj):
 DC P tb f E [.r,.r,.r,.r,.r,.r] [] vs S K=aAD P lj (lO P (tb f) none (EG P (tb f) none tE) Y) E (Or P fn K) vs fn.ntmps S:=by
 unfold DC;rw [hf];simp only [hb];show(match nQ (tb f) Y with | some l=>_ | none=>False)=_;rw [hj]
end
def aIE(P:Program)(tb:FuncId->pR)(f:FuncId)(E:VE)(p:List Dir)(m:Nat)(ms:List Nat)(vs:List V)(S:Hp)(K:KV):Prop:=
 match P.funcs[f]? with
 | some fn=>match fn.body with
  | some c=>rL P (tb f) none E p tE c ms (Or P fn K) λD c K=>match D,c with
   | D+1,.loop a=>aEg (β:=List V->Nat->Hp->Prop) (λ_ _ _=>False) (λ_ ih vs n S=>fG S λS=>EE (tQ (tb f) a) vs n P.globals.size λA=>(lO P (tb f) none (EG P (tb f) none D) a).f E A S (Uz (tb f) a ih (aAC P (tb f) a K))) m vs fn.ntmps S
   | _,_=>False
  | none=>False
 | none=>False
def qP(x:VE)(t0 t1 t2 t3 t4:V)(S:Hp)(K:KV):Prop:=DC PP fT aJ x [.r,.r,.r] [] [t0,t1,t2,t3,t4] S K
def bZ(x:VE)(m:Nat)(t0 t1 t11 KM t89 IK:V)(S:Hp)(K:KV):Prop:=mT PP fT aJ x [.r,.r,.r,.r,.r,.l,.r,.l,.l,.r,.d] m [] [t0,t1,t11,KM,t89,IK] S K
def bD(x:VE)(m:Nat)(m0:Nat)(t0 t1 t11 t13 KM t89 IK Ou Ov Mp:V)(S:Hp)(K:KV):Prop:=mT PP fT aJ x [.r,.r,.r,.r,.r,.l,.r,.l,.l,.r,.d,.d,.r,.r,.l,.d,.r,.r,.d] m [m0] [t0,t1,t11,t13,KM,t89,IK,Ou,Ov,Mp] S K
def fZ(x:VE)(t0 t1 t11:V)(S:Hp)(K:KV):Prop:=DC PP fT aJ x [.r,.r,.r,.r,.r,.r] [] [t0,t1,t11] S K
def gO(x:VE)(m:Nat)(t0 t11 t148 Wf:V)(S:Hp)(K:KV):Prop:=mT PP fT aJ x [.r,.r,.r,.r,.r,.r,.l,.r,.l,.r,.d] m [] [t0,t11,t148,Wf] S K
def LX(x:VE)(a0 a1 a2 a3 a4:V)(S:Hp)(K:KV):Prop:=
 aD PP .eql 25 a0 .lU λv0=>
 fY x.most (eL false v0 (λk=>k a0 S) S λv1 S=>fY x.most (eL false v0 (λk=>jI PP v1 λv2=>k v2 S) S λv3 S=>fY x.most (eL false v0 (λk=>bF 14 v3 λv4=>k v4 S) S λv5 S=>fY x.most (eL false v0 (λk=>bJ v5 S λv6 S=>k v6 S) S λv7 S=>fY x.most (eL false v0 (λk=>aD PP .neq 9 v7 (.str []) λv8=>k v8 S) S λv9 S=>fY x.most (QY v0 (.bool true) v9 λv10=>fY x.most (eL false v10 (λk=>k a0 S) S λv11 S=>fY x.most (eL false v10 (λk=>jI PP v11 λv12=>k v12 S) S λpI S=>fY x.most (eL false v10 (λk=>bF 13 pI λmL=>k mL S) S λuN S=>fY x.most (eL false v10 (λk=>bJ uN S λuJ S=>k uJ S) S λv17 S=>fY x.most (eL false v10 (λk=>aD PP .gtr 3 v17 (.int .i64 (.ofNat 64)) λBA=>k BA S) S λyT S=>fY x.most (QY v10 (.bool true) yT λv20=>fY x.most (eL false v20 (λk=>k a0 S) S λv21 S=>fY x.most (eL false v20 (λk=>k a1 S) S λv22 S=>fY x.most (eL false v20 (λk=>x.call rP [v21,v22] S λv23 S=>k v23 S) S λv24 S=>fY x.most (eL false v20 (λk=>JC .not v24 λv25=>k v25 S) S λv26 S=>fY x.most (QY v20 (.bool true) v26 λKQ=>iQ KQ (aQ .nil S K) (jI PP a0 λv28=>bF 15 v28 λJP=>bJ JP S λv30 S=>aD PP .eql 80 v30 .lU λv31=>iQ v31 (jI PP a0 λv32=>bF 13 v32 λv33=>bJ v33 S λIG S=>jI PP a0 λv35=>bF 0 v35 λXH=>bF 5 XH λv37=>bJ v37 S λXI S=>jI PP a0 λv39=>bF 0 v39 λv40=>bF 6 v40 λv41=>bJ v41 S λFo S=>jI PP a0 λIh=>bF 12 Ih λv44=>bJ v44 S λv45 S=>x.call fQ [a1,v45] S λv46 S=>bJ v41 S λFp _=>aT Fp Fo (bJ v37 S λNr _=>aT Nr XI (bJ v33 S λv49 _=>aT v49 IG (aD PP .add 3 v46 (.int .i64 (.ofNat 1)) λv50=>x.call AK [IG,XI,Fo,v50] S λv51 S=>nF 0 v51 λVm=>nF 1 v51 λv53=>jI PP a0 λv54=>bF 15 v54 λv55=>mE 1 v55 Vm S λS=>qP x a0 a1 a2 a3 a4 S K)))) (qP x a0 a1 a2 a3 a4 S K)))))))))))))))))))
theorem Dj(x:VE)(a0 a1 a2 a3 a4:V)(S:Hp)(K:KV):nV PP fT aJ x [a0,a1,a2,a3,a4] S K=LX x a0 a1 a2 a3 a4 S K:=by kernel_rfl
def pK(x:VE)(t0 t1 t2 t3 t4:V)(S:Hp)(K:KV):Prop:=
 fG S λS=>
 x.call pA [t0,t1] S λv0 S=>
 jI PP t0 λv1=>
 bF 14 v1 λv2=>
 bJ v2 S λv3 S=>
 aD PP .eql 9 v3 (.str []) λv4=>
 iQ v4 (jI PP t0 λv5=>bF 15 v5 λv6=>bJ v6 S λv7 S=>fK x t4 [v7,t2,t3] S λv8 S=>dC v8 λv9=>bZ x x.most t0 t1 .nil v8 v9 (.int .i64 (.ofNat 0)) S K) (fZ x t0 t1 .nil S K)
def BH(lpv jv:List V->Nat->Hp->Prop)(x:VE)(t0 t1 t2 t3 t4:V)(S:Hp):Prop:=
 fG S λS=>
 x.call pA [t0,t1] S λv0 S=>
 jI PP t0 λv1=>
 bF 14 v1 λv2=>
 bJ v2 S λv3 S=>
 aD PP .eql 9 v3 (.str []) λv4=>
 iQ v4 (jI PP t0 λv5=>bF 15 v5 λv6=>bJ v6 S λv7 S=>fK x t4 [v7,t2,t3] S λv8 S=>dC v8 λv9=>lpv [t0,t1,.nil,v8,v9,.int .i64 (.ofNat 0)] Go.Proofs.Tryz.f32.ntmps S) (jv [t0,t1,.nil] Go.Proofs.Tryz.f32.ntmps S)
theorem Wg:Go.Proofs.Tryz.f32.body=some (.seq (AH PP aJ [.l]) (.seq (AH PP aJ [.r,.l]) (.seq (AH PP aJ [.r,.r,.l]) (.seq (.region (zC (AH PP aJ [.r,.r,.r,.l])) (vX (AH PP aJ [.r,.r,.r,.l])) (vY (AH PP aJ [.r,.r,.r,.l]))) (.seq (.region (zC (AH PP aJ [.r,.r,.r,.r,.l])) (vX (AH PP aJ [.r,.r,.r,.r,.l])) (vY (AH PP aJ [.r,.r,.r,.r,.l]))) (.seq (.seq (.region (zC (AH PP aJ [.r,.r,.r,.r,.r,.l,.l])) (vX (AH PP aJ [.r,.r,.r,.r,.r,.l,.l])) (vY (AH PP aJ [.r,.r,.r,.r,.r,.l,.l]))) (.cond (aO7 (AH PP aJ [.r,.r,.r,.r,.r,.l,.r])) (.seq (.seq (.region (zC (AH PP aJ [.r,.r,.r,.r,.r,.l,.r,.l,.l,.l])) (vX (AH PP aJ [.r,.r,.r,.r,.r,.l,.r,.l,.l,.l])) (vY (AH PP aJ [.r,.r,.r,.r,.r,.l,.r,.l,.l,.l]))) (.block (aQV (AH PP aJ [.r,.r,.r,.r,.r,.l,.r,.l,.l,.r])) (.loop (AH PP aJ [.r,.r,.r,.r,.r,.l,.r,.l,.l,.r,.d,.d])))) (AH PP aJ [.r,.r,.r,.r,.r,.l,.r,.l,.r])) .skip)) (AH PP aJ [.r,.r,.r,.r,.r,.r]))))))):=by kernel_rfl
theorem aO8(lpv jv:List V->Nat->Hp->Prop)(x:VE)(t0 t1 t2 t3 t4:V)(S:Hp):(fG S λS=>EE [0,1,2,3,4] [t0,t1,t2,t3,t4] Go.Proofs.Tryz.f32.ntmps PP.globals.size λA=>aC8 PP (AH PP aJ [.r,.r,.r,.l]) (AH PP aJ [.r,.r,.r,.r,.l]) (AH PP aJ [.r,.r,.r,.r,.r,.l,.l]) (aO7 (AH PP aJ [.r,.r,.r,.r,.r,.l,.r])) (AH PP aJ [.r,.r,.r,.r,.r,.l,.r,.l,.l,.l]) (tQ (fT aJ) (AH PP aJ [.r,.r,.r,.r,.r,.l,.r,.l,.l,.r,.d,.d])) [0,1,11] lpv jv x A S)=BH lpv jv x t0 t1 t2 t3 t4 S:=by kernel_rfl
theorem NO(x:VE)(t0 t1 t2 t3 t4:V)(S:Hp)(K:KV):Lr PP fT aJ x [.r,.r,.r] [] [t0,t1,t2,t3,t4] S K=pK x t0 t1 t2 t3 t4 S K:=by
 rw [aQW (P:=PP) (tb:=fT) (f:=aJ) (l3:=[0,1,2,3,4]) (lj:=[0,1,11]) Go.Proofs.Tryz.func32 Wg (by kernel_rfl) (by kernel_rfl) (by kernel_rfl) (by kernel_rfl) (by kernel_rfl) (by kernel_rfl)];rw [aO8];unfold BH pK bZ fZ;simp only [aQX (P:=PP) (tb:=fT) (f:=aJ) Go.Proofs.Tryz.func32 Wg,aQY (P:=PP) (tb:=fT) (f:=aJ) (lj:=[0,1,11]) Go.Proofs.Tryz.func32 Wg (by kernel_rfl)]
theorem OU(x:VE)(hm:x.most≠0)(t0 t1 t2 t3 t4:V)(S:Hp)(K:KV):qP x t0 t1 t2 t3 t4 S K=pK x t0 t1 t2 t3 t4 S K:=(rM (hm:=hm) ..).trans (NO x t0 t1 t2 t3 t4 S K)
def nA(x:VE)(m:Nat)(t0 t1 t11 KM t89 IK:V)(S:Hp)(K:KV):Prop:=aIE PP fT aJ x [.r,.r,.r,.r,.r,.l,.r,.l,.l,.r,.d] m [] [t0,t1,t11,KM,t89,IK] S K
theorem CG(x:VE)(m:Nat)(t0 t1 t11 KM t89 IK:V)(S:Hp)(K:KV):bZ x m t0 t1 t11 KM t89 IK S K=nA x m t0 t1 t11 KM t89 IK S K:=by kernel_rfl
def dH(x:VE)(m:Nat)(m0:Nat)(t0 t1 t11 t13 KM t89 IK Ou Ov Mp:V)(S:Hp)(K:KV):Prop:=aIE PP fT aJ x [.r,.r,.r,.r,.r,.l,.r,.l,.l,.r,.d,.d,.r,.r,.l,.d,.r,.r,.d] m [m0] [t0,t1,t11,t13,KM,t89,IK,Ou,Ov,Mp] S K
theorem nB(x:VE)(m:Nat)(m0:Nat)(t0 t1 t11 t13 KM t89 IK Ou Ov Mp:V)(S:Hp)(K:KV):bD x m m0 t0 t1 t11 t13 KM t89 IK Ou Ov Mp S K=dH x m m0 t0 t1 t11 t13 KM t89 IK Ou Ov Mp S K:=by kernel_rfl
def nC(x:VE)(m0:Nat)(t0 t1 t11 KM t89 IK:V)(S:Hp)(K:KV):Prop:=
 fG S λS=>
 aD PP .lss 3 IK t89 λv0=>
 iQ v0 (jM 11 KM IK λv1=>cU 11 v1 S λv2 S=>eI nS 37 S λv3 S=>mE 11 v3 v2 S λS=>dC t1 λv4=>bD x x.most m0 t0 t1 t11 v3 KM t89 IK t1 v4 (.int .i64 (.ofNat 0)) S K) (jI PP t0 λv5=>bF 15 v5 λv6=>bJ v6 S λv7 S=>x.call kH [v7] S λv8 S=>nF 0 v8 λv9=>nF 1 v8 λv10=>jI PP t0 λv11=>bF 14 v11 λv12=>mE 1 v12 v9 S λS=>fZ x t0 t1 t11 S K)
def CH(lp:VE->Nat->Nat->V->V->V->V->V->V->V->V->V->V->Hp->KV->Prop)(x:VE)(m0:Nat)(t0 t1 t11 KM t89 IK:V)(S:Hp)(K:KV):Prop:=
 fG S λS=>
 aD PP .lss 3 IK t89 λv0=>
 iQ v0 (jM 11 KM IK λv1=>cU 11 v1 S λv2 S=>eI nS 37 S λv3 S=>mE 11 v3 v2 S λS=>dC t1 λv4=>lp x x.most m0 t0 t1 t11 v3 KM t89 IK t1 v4 (.int .i64 (.ofNat 0)) S K) (jI PP t0 λv5=>bF 15 v5 λv6=>bJ v6 S λv7 S=>x.call kH [v7] S λv8 S=>nF 0 v8 λv9=>nF 1 v8 λv10=>jI PP t0 λv11=>bF 14 v11 λv12=>mE 1 v12 v9 S λS=>fZ x t0 t1 t11 S K)
theorem sG(x:VE)(m0:Nat)(t0 t1 t11 KM t89 IK:V)(S:Hp)(K:KV):bZ x (m0+1) t0 t1 t11 KM t89 IK S K=nC x m0 t0 t1 t11 KM t89 IK S K:=by
 have h1:bZ x (m0+1) t0 t1 t11 KM t89 IK S K=CH dH x m0 t0 t1 t11 KM t89 IK S K:=by kernel_rfl
 have h2:bD=dH:=by funext x m m0 t0 t1 t11 t13 KM t89 IK Ou Ov Mp S K;exact nB ..
 rw [h1,<-h2];rfl
def jH(x:VE)(m1:Nat)(m0:Nat)(t0 t1 t11 t13 KM t89 IK Ou Ov Mp:V)(S:Hp)(K:KV):Prop:=
 fG S λS=>
 aD PP .lss 3 Mp Ov λv0=>
 iQ v0 (jM 1 Ou Mp λv1=>bJ v1 S λv2 S=>jI PP t0 λv3=>bF 12 v3 λv4=>bJ v4 S λv5 S=>aD PP .neq 3 v2 v5 λv6=>iQ v6 (jI PP t0 λv7=>bF 12 v7 λv8=>bJ v8 S λv9 S=>bF 1 t13 λv10=>mE 1 v10 v9 S λS=>bF 2 t13 λv11=>mE 1 v11 v2 S λS=>cU 11 t13 S λv12 S=>dN 37 1 nS [(0,11,v12)] S λpI S=>qG 37 11 112 t11 pI S λmL S=>aD PP .add 3 Mp (.int .i64 (.ofNat 1)) λuN=>bD x m1 m0 t0 t1 mL t13 KM t89 IK Ou Ov uN S K) (aD PP .add 3 Mp (.int .i64 (.ofNat 1)) λuJ=>bD x m1 m0 t0 t1 t11 t13 KM t89 IK Ou Ov uJ S K)) (aD PP .add 3 IK (.int .i64 (.ofNat 1)) λv17=>bZ x m0 t0 t1 t11 KM t89 v17 S K)
def vL(lo:VE->Nat->V->V->V->V->V->V->Hp->KV->Prop)(li:VE->Nat->Nat->V->V->V->V->V->V->V->V->V->V->Hp->KV->Prop)(x:VE)(m1:Nat)(m0:Nat)(t0 t1 t11 t13 KM t89 IK Ou Ov Mp:V)(S:Hp)(K:KV):Prop:=
 fG S λS=>
 aD PP .lss 3 Mp Ov λv0=>
 iQ v0 (jM 1 Ou Mp λv1=>bJ v1 S λv2 S=>jI PP t0 λv3=>bF 12 v3 λv4=>bJ v4 S λv5 S=>aD PP .neq 3 v2 v5 λv6=>iQ v6 (jI PP t0 λv7=>bF 12 v7 λv8=>bJ v8 S λv9 S=>bF 1 t13 λv10=>mE 1 v10 v9 S λS=>bF 2 t13 λv11=>mE 1 v11 v2 S λS=>cU 11 t13 S λv12 S=>dN 37 1 nS [(0,11,v12)] S λpI S=>qG 37 11 112 t11 pI S λmL S=>aD PP .add 3 Mp (.int .i64 (.ofNat 1)) λuN=>li x m1 m0 t0 t1 mL t13 KM t89 IK Ou Ov uN S K) (aD PP .add 3 Mp (.int .i64 (.ofNat 1)) λuJ=>li x m1 m0 t0 t1 t11 t13 KM t89 IK Ou Ov uJ S K)) (aD PP .add 3 IK (.int .i64 (.ofNat 1)) λv17=>lo x m0 t0 t1 t11 KM t89 v17 S K)
theorem nM(x:VE)(m1:Nat)(m0:Nat)(t0 t1 t11 t13 KM t89 IK Ou Ov Mp:V)(S:Hp)(K:KV):bD x (m1+1) m0 t0 t1 t11 t13 KM t89 IK Ou Ov Mp S K=jH x m1 m0 t0 t1 t11 t13 KM t89 IK Ou Ov Mp S K:=by
 have h1:bD x (m1+1) m0 t0 t1 t11 t13 KM t89 IK Ou Ov Mp S K=vL nA dH x m1 m0 t0 t1 t11 t13 KM t89 IK Ou Ov Mp S K:=by kernel_rfl
 have h2:bD=dH:=by funext x m m0 t0 t1 t11 t13 KM t89 IK Ou Ov Mp S K;exact nB ..
 have h3:bZ=nA:=by funext x m t0 t1 t11 KM t89 IK S K;exact CG ..
 rw [h1,<-h2,<-h3];rfl
def rB(x:VE)(t0 t1 t11:V)(S:Hp)(K:KV):Prop:=
 fG S λS=>
 jI PP t0 λv0=>
 bF 14 v0 λv1=>
 bJ v1 S λv2 S=>
 aD PP .neq 9 v2 (.str []) λv3=>
 fY x.most (eL true v3 (λk=>k t1 S) S λv4 S=>fY x.most (eL true v3 (λk=>k t0 S) S λv5 S=>fY x.most (eL true v3 (λk=>jI PP v5 λv6=>k v6 S) S λv7 S=>fY x.most (eL true v3 (λk=>bF 12 v7 λv8=>k v8 S) S λv9 S=>fY x.most (eL true v3 (λk=>bJ v9 S λv10 S=>k v10 S) S λv11 S=>fY x.most (eL true v3 (λk=>x.call mK [v4,v11] S λv12 S=>k v12 S) S λpI S=>fY x.most (QY v3 pI (.bool false) λmL=>iQ mL (jI PP t0 λuN=>bF 0 uN λuJ=>bF 4 uJ λv17=>bJ v17 S λBA S=>aD PP .add 3 BA (.int .i64 (.ofNat 1)) λyT=>gO x x.most t0 t11 yT (.int .i64 (.ofNat 0)) S K) (aQ t11 S K))))))))
theorem IL(x:VE)(t0 t1 t11:V)(S:Hp)(K:KV):Lr PP fT aJ x [.r,.r,.r,.r,.r,.r] [] [t0,t1,t11] S K=rB x t0 t1 t11 S K:=by kernel_rfl
theorem KN(x:VE)(hm:x.most≠0)(t0 t1 t11:V)(S:Hp)(K:KV):fZ x t0 t1 t11 S K=rB x t0 t1 t11 S K:=(rM (hm:=hm) ..).trans (IL x t0 t1 t11 S K)
def nD(x:VE)(m0:Nat)(t0 t11 t148 Wf:V)(S:Hp)(K:KV):Prop:=
 fG S λS=>
 aD PP .lss 3 Wf t148 λv0=>
 iQ v0 (aD PP .add 3 Wf (.int .i64 (.ofNat 1)) λv1=>jI PP t0 λv2=>bF 0 v2 λv3=>bF 4 v3 λv4=>bJ v4 S λv5 S=>aD PP .add 3 v5 (.int .i64 (.ofNat 1)) λv6=>aD PP .rem 3 v1 v6 λv7=>jI PP t0 λv8=>bF 12 v8 λv9=>bJ v9 S λv10 S=>aD PP .neq 3 v7 v10 λv11=>iQ v11 (jI PP t0 λv12=>bF 12 v12 λpI=>bJ pI S λmL S=>jI PP t0 λuN=>bF 13 uN λuJ=>bJ uJ S λv17 S=>jI PP t0 λBA=>bF 14 BA λyT=>bJ yT S λv20 S=>fX nS [(0,1,(.int .u8 (.ofNat 5))),(1,1,mL),(2,1,v7),(3,1,v17),(9,1,v20)] λv21=>bJ yT S λv22 _=>aT v22 v20 (bJ uJ S λv23 _=>aT v23 v17 (bJ pI S λv24 _=>aT v24 mL ((dN 37 1 nS [(0,11,v21)] S λv25 S=>True)/\(dN 37 1 nS [(0,11,v21)] S λv26 S=>qG 37 11 112 t11 v26 S λKQ S=>bJ yT S λv28 _=>aT v28 v20 (bJ uJ S λJP _=>aT JP v17 (bJ pI S λv30 _=>aT v30 mL (aD PP .add 3 Wf (.int .i64 (.ofNat 1)) λv31=>gO x m0 t0 KQ t148 v31 S K)))))))) (aD PP .add 3 Wf (.int .i64 (.ofNat 1)) λv32=>gO x m0 t0 t11 t148 v32 S K)) (aQ t11 S K)
theorem sH(x:VE)(m0:Nat)(t0 t11 t148 Wf:V)(S:Hp)(K:KV):gO x (m0+1) t0 t11 t148 Wf S K=nD x m0 t0 t11 t148 Wf S K:=by kernel_rfl
theorem aJc{l:List Int}{z:Int}:z∈BY l↔z∈l:=by unfold BY;exact(List.mergeSort_perm l _).mem_iff
theorem aLl(l:List Int):(BY l).Pairwise (· <= ·):=by
 unfold BY;refine(List.pairwise_mergeSort (le:=λx y:Int=>decide (x<=y)) (λa b c h1 h2=>?_) (λa b=>?_) l).imp λh=>MI h
 ·have:=MI h1;have:=MI h2;exact aU (by omega)
 ·rcases Int.le_total a b with h | h
  ·rw [aU h];rfl
  ·rw [aU h,Bool.or_true]
theorem Aq{ms:List Int}(h:RZ ms=true):ms.length=4/\∀z∈ms,1<=z/\z<=5:=by
 unfold RZ at h;simp only [bW,decide_eq_true_eq]at h;obtain⟨h1,h2,h3,h4⟩:=h;refine⟨h1,λz hz=>?_⟩;have hl:(BY ms).length=4:=by rw [QS];exact h1
 have hz:=aJc.2 hz;obtain⟨k,hk,rfl⟩:=MG hz;have pw:=UN.1 (aLl ms);rw [RV (by omega)]at h3 h4;constructor
 ·rcases MH k with rfl | h
  ·exact h3
  ·have:=pw 0 k (by omega) hk h;omega
 ·rcases zJ k 3 with h | h
  ·have:=pw k 3 hk (by omega) h;omega
  ·obtain rfl:k=3:=by omega
   exact h4
def Bd.gP(ms:List Int)(B:Bd):Bd:={B with dI:=some (B.dI.getD ⟨.start B.ht 4 1 (uK ms B.me+1),[]⟩)}
theorem aGe{B:Bd}{z:Int}{tx:List UInt8}:(B.MA z tx).kept=B.kept:=by unfold Bd.MA;split<;>rfl
theorem aLm{B:Bd}{z:Int}{tx:List UInt8}:(B.MA z tx).me=B.me:=by unfold Bd.MA;split<;>rfl
theorem aJd{ms:List Int}{B:Bd}{m:Ms}:(B.vO ms m).me=B.me:=by unfold Bd.vO;split;rfl;split;exact aLm;rfl
theorem aJe{ms:List Int}{l:List Ms}:∀{B:Bd},(l.foldl (Bd.vO ms) B).me=B.me:=by
 induction l with
 | nil=>intro B;rfl
 | cons m l ih=>intro B;rw [PA,ih,aJd]
theorem aLn{ms:List Int}{B:Bd}:(B.open_ ms).me=B.me:=aJe
theorem aGf{ms:List Int}{l:List Ms}:∀{B:Bd},B.dI.isSome=true->(l.foldl (Bd.vO ms) B).dI.isSome=true:=by
 induction l with
 | nil=>intro B h;exact h
 | cons m l ih=>intro B h;rw [PA];exact ih (aGd h)
theorem aJf{p:Prop}{z:Int}:aT (nz z) (nz z) p=p:=dX rfl
section
variable{M d:Nat}{x:VE}{S:Hp}{K:KV}{b:Nat}{B:Bd}{sd:Nat->Prop}
end
section
variable{M d:Nat}{x:VE}{S S0:Hp}{K:KV}{v:V}{l:List (Int×List UInt8)}
theorem Il:RA PP 69=some .slice:=by kernel_rfl
theorem aNZ{v:V}{k:V->Prop}(h:NA v=some (.slice,false))(hv:aD PP .eql 69 v .nil k=VZ PP .eql 69 v .nil k):aD PP .eql 69 v .nil k=k (.bool false):=by
 rw [hv];unfold VZ;rw [h];exact propext ⟨λh=>h.2.2.2.2,λh=>⟨rfl,Il,.inr rfl,λe=>absurd e (by decide),h⟩⟩
def zTo:List Value:=NI
theorem aBr(hx:DP M (d+1) x)(hl:l.length<1000000)(hv:SL 75 2 S0 S v (GC l) l.length\/∃O,v= .list O (GC l) l.length)
 (hK:∀u S',cP S S'->SL 75 2 S S' u (GC l) l.length->(∀i q o n c,u≠ .oR i q o n c)->K u S'):x.call eK [v] S K:=by
 refine hx.call rfl λy hy=>?_;rw [tI];unfold lQ
 have src:∀S',cP S S'->∀{K:Nat->List V->Prop},(∀us,wA us (GC l)->K l.length us)->TF 2 v S' K:=λS' hle {K} hK=>by
  rcases hv with hv | ⟨O,rfl⟩
  ·exact(hv.up hle).src hK
  ·refine⟨by rw [xQ];exact bI _,?_⟩
   rw [oS (by rw [xQ];exact bI _)];exact hK _ (aLX O _ _)
 have go:(dN 75 0 zTo [] S λv1 S=>qG 75 2 24 v1 v S λv2 S=>aQ v2 S K):=by
  intro j hj;have hle:cP S (aM S j (.row [] 75)):= .aN hj;have own:SL 75 2 S (aM S j (.row [] 75)) (.own j 0 0 0) [] 0:= .own hj aB;show qG 75 2 24 (.own j 0 0 0) v (aM S j (.row [] 75)) _;cases hl0:l.length with
  | zero=>
   have e0:l=[]:=mS hl0;unfold qG;refine src _ hle λus hu=>?_;rw [hl0];refine⟨bI _,aF (hK _ _ hle ?_ λ_ _ _ _ _ e=>by cases e)⟩;rw [e0];exact own
  | succ q=>
   unfold qG;refine src _ hle λus hu=>?_;rw [hl0];refine⟨hu.one,?_⟩;simp only [aB];refine⟨by omega,by simp,λc=>absurd c (by omega),λ_ i hi=>?_⟩;have e2:(List.take (0*2) (List.drop 0 ([]:List V)))++us=us:=by simp
   rw [e2,show 0+(q+1)=l.length by omega];refine aF (hK _ _ (hle.trans (.aN hi)) (.acc (hle.none hi) aB ?_ (xQ l) hu.2) λ_ _ _ _ _ e=>by cases e);rw [hu.1,xQ]
 rcases hv with h | ⟨O,rfl⟩
 ·have ne:∀{w:V},NA w=some (.slice,false)->(aD PP .eql 69 w .nil λv0=>iQ v0 (aQ .nil S K) (dN 75 0 zTo [] S λv1 S=>qG 75 2 24 v1 v S λv2 S=>aQ v2 S K)):=λ{w} hw=>by
   rw [aNZ hw (by cases w<;>first | rfl | cases hw)];exact go
  generalize hn:l.length=n at h;generalize hd:GC l=ds at h;cases h with
  | nil=>
   have e0:l=[]:=mS hn;subst e0;exact⟨rfl,Il,.inr rfl,(λ_ _ e=>by cases e),aF (hK _ _ (.refl S) .nil λ_ _ _ _ _ e=>by cases e)⟩
  | acc h0 h hl hd hv=>exact ne rfl
  | oR h0 h hl hn hd hv=>exact ne rfl
  | own h0 h=>exact ne rfl
 ·cases l with
  | nil=>exact⟨Il,aF (hK _ _ (.refl S) .nil λ_ _ _ _ _ e=>by cases e),go⟩
  | cons a l=>exact⟨rfl,Il,.inr rfl,(λe=>by cases e),go⟩
end
def Dx:Option Ba->Bs
 | none=>Rb
 | some a=>a.s
def EO:Option Ba->List Vo
 | none=>[]
 | some a=>a.l
def Wy(B:Bd)(v1 v2 v3:V):List V:=[nz B.ht,.str B.dec,.bool B.dI.isSome]++(iL (Dx B.dI) v1++[v2,v3])
def UL(B:Bd)(O1 O2 O3:Tag):List V:=Wy B (.list O1 (wT (EO B.dI)) (EO B.dI).length) (.list O2 (GC B.told) B.told.length) (.list O3 (pE B.kept) B.kept.length)
def Ar:List V:=[ni 0,.str [],.bool false]++(iL Rb .nil++[.nil,.nil])
section
variable{M d b:Nat}{x:VE}{S S':Hp}{K:KV}{B:Bd}{sd SB:Nat->Prop}{v1 v2 v3 bv:V}{o:Option Ba}
theorem aBs(hl:cP S' S)(f1:Au S' S v1 (.list (wT (EO B.dI)) (EO B.dI).length))(f2:Au S' S v2 (.list (GC B.told) B.told.length))(f3:Au S' S v3 (.list (pE B.kept) B.kept.length))(hk:∀O1 O2 O3,K (.agg (UL B O1 O2 O3)) S'):aQ (.agg (Wy B v1 v2 v3)) S K:=by
 refine⟨S',λO=> .agg (UL B (O 17) (O 18) (O 19)),hl,λO=> .agg ⟨rfl,λj v u e1 e2=>?_⟩,λO=>hk _ _ _⟩
 match j with
 | 17=>injection e1 with e1;injection e2 with e2;subst e1 e2;exact .dat f1
 | 18=>injection e1 with e1;injection e2 with e2;subst e1 e2;exact .dat f2
 | 19=>injection e1 with e1;injection e2 with e2;subst e1 e2;exact .dat f3
 | 0 | 1 | 2 | 3 | 4 | 5 | 6 | 7 | 8 | 9 | 10 | 11 | 12 | 13 | 14 | 15 | 16=>injection e1 with e1;injection e2 with e2;subst e1 e2;exact .keep _
 | j+20=>cases e1
theorem SX(h1:pN v1=true)(h2:pN v2=true)(h3:pN v3=true):(Wy B v1 v2 v3).all pN=true:=by
 simp [Wy,iL,h1,h2,h3];exact⟨rfl,rfl,rfl,rfl,rfl,rfl,rfl,rfl,rfl,rfl,rfl,rfl,rfl,rfl,rfl,rfl,rfl⟩
theorem aJn(hx:DP M (d+2) x)(h:WZ S bv o SB)(hk:∀O,K (.agg (iL (Dx o) (.list O (wT (EO o)) (EO o).length))) S):x.call pG [bv] S K:=by
 cases h with
 | is k=>exact aKZ hx k hk
 | no=>
  refine hx.call rfl λy hy=>?_;rw [BK];unfold tV gN gM;refine dQ (l:=iL Rb .nil) rfl λi hi=>?_;have ne:LB .eql 80 .lU .lU (.bool true):=λ{k}=>propext ⟨λh=>h.2.2.2.2,λh=>⟨rfl,EL,.inr rfl,λ_ _ e=>(by cases e),h⟩⟩;rw [ne,eY];refine qD (z:=iL Rb .nil) rfl ?_;unfold vD;refine gJ aB (by rfl) (by rfl) (by rfl) ?_;refine eX aB (by rfl) ?_;rw [cW];exact aEz (l:=[]) (.aN hi) .nil hk
theorem Wz(hx:DP M (d+3) x)(h:rV S b B sd)(hl:B.kept.length<90000)(Hi:B.told.length<90000)(hk:∀O1 O2 O3,K (.agg (UL B O1 O2 O3)) S):x.call nZ [.ptr b 0] S K:=by
 refine hx.call rfl λy hy=>?_;rw [TN];unfold EX gN gM;refine dQ (l:=Ar) rfl λi hi=>?_;have eU:cP S (aM S i (.row Ar 71)):= .aN hi;have ri:aM S i (.row Ar 71) i=some (.row Ar 71):=aB;obtain⟨bv,tv,kv,SB,g0,rfl⟩:=h;have g:=g0.up eU;generalize aM S i (.row Ar 71)=S1 at eU ri g
 have ld:∀{S2:Hp},cP S1 S2->(LD b 13 S2 (nz B.ht))/\(LD b 14 S2 (.str B.dec))/\(LD b 15 S2 bv)/\(LD b 16 S2 tv)/\(LD b 17 S2 kv):=λ{S2} le=>
  ⟨fD (le _ _ g.row) rfl,fD (le _ _ g.row) rfl,fD (le _ _ g.row) rfl,fD (le _ _ g.row) rfl,fD (le _ _ g.row) rfl⟩
 obtain⟨ON,UJ,MD,l16,l17⟩:=ld (.refl S1);have s1:∀{p:Prop},aT (nz B.ht) (nz B.ht) p=p:=λ{p}=>dX rfl;have s2:∀{p:Prop},aT (.str B.dec) (.str B.dec) p=p:=λ{p}=>dX rfl;have s3:∀{p:Prop},aT bv bv p=p:=λ{p}=>dX g.dI.same;have s4:∀{p:Prop},aT tv tv p=p:=λ{p}=>dX g.told.same;have s5:∀{p:Prop},aT kv kv p=p:=λ{p}=>dX g.kept.same
 have qb:LB .neq 80 bv .lU (.bool B.dI.isSome):=λ{k}=>by
  have gb:=g.dI;cases hb:B.dI with
  | none=>
   rw [hb]at gb;cases gb with
   | no=>exact propext ⟨λh=>h.2.2.2.2,λh=>⟨rfl,EL,.inr rfl,λ_ _ e=>(by cases e),h⟩⟩
  | some a=>
   rw [hb]at gb;cases gb with
   | is kb=>exact propext ⟨λh=>h.2.2.2.2,λh=>⟨rfl,EL,.inr rfl,λe=>absurd e (by decide),h⟩⟩
 rw [Rc,cF]
 repeat (first | rw [aV] | rw [aG] | rw [ON] | rw [UJ] | rw [MD] | rw [l16] | rw [l17] | rw [qb])
 refine aJn (d:=d) hy g.dI λO1=>?_
 repeat (first | rw [ON] | rw [UJ] | rw [MD] | rw [l16] | rw [l17] | rw [s1] | rw [s2] | rw [s3] | rw [s4] | rw [s5])
 refine aBr (d:=d+1) hy (by omega) (.inl g.told) λu1 S2 lA su1 _=>?_;obtain⟨m13,m14,m15,m16,m17⟩:=ld lA
 repeat (first | rw [m13] | rw [m14] | rw [m15] | rw [m16] | rw [m17] | rw [s1] | rw [s2] | rw [s3] | rw [s4] | rw [s5])
 refine Nh (d:=d+1) (S0:=hp0) hy (λj o e=>by cases e) (g.kept.up lA) (by omega) λu2 S3 GG su2 _=>?_;obtain⟨n13,n14,n15,n16,n17⟩:=ld (lA.trans GG)
 repeat (first | rw [n13] | rw [n14] | rw [n15] | rw [n16] | rw [n17] | rw [s1] | rw [s2] | rw [s3] | rw [s4] | rw [s5])
 have o1:pN u1=true:=su1.one;have o2:pN u2=true:=su2.one
 have fin:∀{z:List Value} {k:V->Prop},ED z=some Ar->k (.agg (Wy B (.list O1 (wT (EO B.dI)) (EO B.dI).length) u1 u2))->fX z [(0,1,nz B.ht),(1,1,.str B.dec),(2,1,.bool B.dI.isSome),(3,15,.agg (iL (Dx B.dI) (.list O1 (wT (EO B.dI)) (EO B.dI).length))),(18,1,u1),(19,1,u2)] k:=λ{z k} hz hk=>by
  refine qD hz ?_;refine⟨rfl,aW rfl,rfl,aW rfl,rfl,aW rfl,rfl,rfl,aW rfl,?_⟩;show yD u1 _;rw [vc1 o1];refine⟨rfl,aW rfl,?_⟩;show yD u2 _;rw [vc1 o2];exact⟨rfl,aW rfl,hk⟩
 refine fin rfl ?_;have ri3:=GG _ _ (lA _ _ ri);have hle:cP S S3:=eU.trans (lA.trans GG);refine gJ ri3 (SX rfl o1 o2) (by rfl) (by rfl) ?_;refine eX aB (by rfl) ?_;have n1:¬tM u1 i:=λc=>by have:=(su1.at c).1;rw [ri]at this;cases this
 have n2:¬tM u2 i:=λc=>by have:=(su2.at c).1;rw [lA _ _ ri]at this;cases this
 exact aBs (EM hle hi) (aBg O1 (.list _ _)) (((su1.up GG).set n1).base eU).frz ((su2.set n2).base (eU.trans lA)).frz hk
end
def pL(x:VE)(m:Nat)(t0 t1 t5:V):HK:=mT PP fT xO x [.r,.r,.l,.r,.d] m [] [t0,t1,t5]
def OI(x:VE)(a0 a1:V):HK:=λS K=>
 dC a0 λv0=>
 dC a1 λv1=>
 aD PP .neq 3 v0 v1 λv2=>
 iQ v2 (aQ (.bool false) S K) (pL x x.most a0 a1 (.int .i64 (.ofNat 0)) S K)
theorem Hb(x:VE)(a0 a1:V):nV PP fT xO x [a0,a1]=OI x a0 a1:=by kernel_rfl
def tB(x:VE)(m0:Nat)(t0 t1 t5:V):HK:=λS K=>
 fG S λS=>
 dC t0 λv0=>
 aD PP .lss 3 t5 v0 λv1=>
 iQ v1 (jM 1 t0 t5 λv2=>bJ v2 S λv3 S=>jM 1 t1 t5 λv4=>bJ v4 S λv5 S=>aD PP .neq 9 v3 v5 λv6=>iQ v6 (aQ (.bool false) S K) (aD PP .add 3 t5 (.int .i64 (.ofNat 1)) λv7=>pL x m0 t0 t1 v7 S K)) (aQ (.bool true) S K)
theorem AT(x:VE)(m0:Nat)(t0 t1 t5:V):pL x (m0+1) t0 t1 t5=tB x m0 t0 t1 t5:=by kernel_rfl
def Bd.take(B:Bd)(m:Ms):Bd:=if KP B.ht B.kept m then {B with kept:=B.kept++[m]}else B
section
variable{M d:Nat}{x:VE}{S:Hp}{K:KV}{b:Nat}{B:Bd}{sd:Nat->Prop}
theorem Ww:pvS.all pN=true:=rfl
theorem aEF(hx:DP M (d+1) x)(hK:K (.agg pvS) S):x.call xA [] S K:=by
 refine hx.call rfl λy hy=>?_;rw [Ot];unfold UG;intro i hi
 have bld:∀{k:V->Prop},k (.agg pvS)->fX aC6 [(0,1,(.int .u64 (.ofNat 23))),(1,1,(.int .u64 (.ofNat 11))),(2,1,(.int .u64 (.ofNat 4))),(3,1,(.int .u64 (.ofNat 9))),(4,1,(.int .i64 (.ofNat 5))),(5,1,(.int .i64 (.ofNat 4))),(6,1,(.int .i64 (.ofNat 1))),(7,1,(.int .i64 (.ofNat 1))),(8,1,(.int .i64 (.ofNat 1))),(9,1,(.int .i64 (.ofNat 1))),(10,1,(.int .i64 (.ofNat 1))),(11,1,(.int .i64 (.ofNat 1)))] k:=λ{k} hk=>
  ⟨rfl,aW rfl,rfl,aW rfl,rfl,aW rfl,rfl,aW rfl,rfl,aW rfl,rfl,aW rfl,rfl,aW rfl,rfl,aW rfl,rfl,aW rfl,rfl,aW rfl,rfl,aW rfl,rfl,aW rfl,hk⟩
 refine bld ?_;refine gJ (cs:=pvS) aB Ww rfl (by rfl) ?_;refine eX (n:=12) (i:=i) aB rfl ?_;rw [cW];exact cL (.aN hi) hK
end
def As(S0 S:Hp)(b:Nat)(B:Bd):Prop:=∃sd,rV S b B sd/\cP S0 S/\∀j,sd j->S0 j=none
theorem As.up{S0 S S':Hp}{b:Nat}{B:Bd}(h:As S0 S b B)(l:cP S S'):As S0 S' b B:=by
 obtain⟨sd,h1,h2,h3⟩:=h;exact⟨sd,h1.up l,h2.trans l,h3⟩
theorem As.fr{S0 S:Hp}{b:Nat}{B:Bd}(h:∃sd,rV S b B sd/\cP S0 S/\∀j,sd j->S0 j=none):∃sd,rV S b B sd/\∀{S':Hp} {B':Bd} {KT:Nat->Prop},rV S' b B' KT->Ds sd S S' KT->As S0 S' b B':=by
 obtain⟨sd,h1,h2,h3⟩:=h;exact⟨sd,h1,λ{S' B' KT} k1 k2=>⟨KT,k1,λj o e=>k2.keep j o (λc=>by rw [h3 j c]at e;cases e) (h2 j o e),λj hj=>(k2.new j hj).elim (h3 j) h2.none⟩⟩
def Dy(me:Int):Bd:={me:=me,ht:=1,dec:=[],dI:=none,told:=[],kept:=[]}
section
variable{M d b:Nat}{x:VE}{S:Hp}{K:KV}{B:Bd}{sd:Nat->Prop}
theorem aJo(hx:DP M (d+2) x){me:Int}(hme:0<=me/\me<=5)(hK:∀b S',As S S' b (Dy me)->K (.tuple [.ptr b 0,ni 0]) S'):x.call DE [.agg pvS,nz me] S K:=by
 refine hx.call rfl λy hy=>?_;rw [aAW];unfold Fm zE jK uM wF gQ;refine fR Ww λa ha=>?_;have eU:cP S (aM S a (.row pvS 31)):= .aN ha;have ra:aM S a (.row pvS 31) a=some (.row pvS 31):=aB;generalize aM S a (.row pvS 31)=S1 at eU ra;refine eX (n:=12) (i:=a) ra rfl ?_;refine hy.yE (g:=aNO) rfl ⟨rfl,?_⟩;have l4:LD a 4 S1 (ni 5):=fD ra rfl;have nt:∀{k:V->Prop},JC .not (.bool true) k=k (.bool false):=λ{k}=>rfl;have c1:LB .lss 3 (nz me) (.int .i64 (.ofNat 0)) (.bool false):=λ{k}=>by rw [bO,aR (by simp only [lR];omega)]
 have c2:LB .gtr 3 (nz me) (ni 5) (.bool false):=λ{k}=>by rw [jR,aR (by simp only [lR];omega)]
 repeat (first | rw [nt] | rw [aL] | rw [aI] | rw [fA] | rw [aG] | rw [c1] | rw [c2] | rw [l4] | rw [cF] | dsimp only)
 refine eX (n:=12) (i:=a) ra rfl ?_
 have bld:∀{z:List Value} {k:V->Prop},ED z=some [nu 0,nu 0,nu 0,nu 0,ni 0,ni 0,ni 0,ni 0,ni 0,ni 0,ni 0,ni 0,ni 0,ni 0,.str [],.lU,.nil,.nil]->k (.agg (iF (Dy me) .lU .nil .nil))->fX z [(0,12,.agg pvS),(12,1,nz me),(13,1,(.int .i64 (.ofNat 1)))] k:=λ{z k} hz hk=>by
  refine qD hz ?_;exact⟨rfl,rfl,aW rfl,rfl,aW rfl,rfl,aW rfl,hk⟩
 refine bld rfl ?_;refine fR rfl λc hc=>?_;have lA:cP S1 (aM S1 c (.row (iF (Dy me) .lU .nil .nil) 82)):= .aN hc;refine aF (hK c _ ⟨Own c .nil .nil λ_=>False,⟨.lU,.nil,.nil,_,⟨aB,.nil,.nil,.no,λc=>c,λ_ _ _ _ _ e=>by cases e⟩,rfl⟩,eU.trans lA,λj hj=>?_⟩);rcases hj with hj | hj | hj | hj
 ·subst hj;exact eU.none hc
 ·cases hj
 ·cases hj
 ·cases hj
theorem Xa(hM:100000<M)(hx:DP M (d+7) x){O:Tag}{m:Ms}(h:rV S b B sd)(hl:B.kept.length<90000)(pQ:m.kind<256)(hK:∀S' KT,rV S' b (B.take m) KT->Ds sd S S' KT->K (.bool (KP B.ht B.kept m)) S'):x.call mJ [.ptr b 0,.agg (nW O m)] S K:=by
 obtain⟨bv,tv,kv,SB,g,rfl⟩:=h;have hs0:cP hp0 S:=λj o e=>by cases e
 unfold Bd.take at hK;refine aNM (d:=d) (S0:=hp0) (l:=B.kept) hM hx g.row rfl rfl rfl rfl hs0 g.kept hl pQ (λe=>?_) λe u S' _ kp ru AX su=>?_
 ·rw [e]at hK
  exact hK S _ ⟨bv,tv,kv,SB,g,rfl⟩ (.refl _ _)
 ·rw [e]at hK
  have n2:¬tM kv b:=g.kept.nat g.row;refine hK S' (Own b tv u SB) ⟨bv,tv,u,SB,⟨ru,?_,?_,?_,g.nb,g.tna⟩,rfl⟩ ⟨λj o hn e=>kp j o (λc=>hn (.inl c)) e (λc=>hn (.inr (.inr (.inl c)))),λj hj=>?_⟩
  ·exact g.told.but λj o h1 h2=>kp j o (λc=>by rw [c]at h1;exact g.told.nat g.row h1) h2 (g.told.ne2 g.kept (by decide) h1)
  ·simp only [if_true,bH];exact su
  ·exact g.dI.but λj o h1 h2=>kp j o (λc=>g.nb (by rw [<-c];exact h1)) h2 λc=>g.kept.aGa g.dI c h1
  ·rcases hj with hj | hj | hj | hj
   ·exact .inl (.inl hj)
   ·exact .inl (.inr (.inl hj))
   ·exact(AX j hj).imp (λc=> .inr (.inr (.inl c))) id
   ·exact .inl (.inr (.inr (.inr hj)))
end
structure BI(B:Bd):Prop where
 me:0<=B.me/\B.me<=5
 ht:1<=B.ht/\B.ht<=65
 dec:B.dec.length<=2048
 dht:B.dec≠[]->B.ht<=64
 dI:∀a,B.dI=some a->gY a/\a.s.h=B.ht/\a.s.n=4/\a.s.t=1
 OJ:B.told.Pairwise λp q=>p.1<q.1
 told:∀p∈B.told,1<=p.1/\p.1<=5/\p.2≠[]/\p.2.length<=2048
 kept:∀m∈B.kept,Al m=true/\2<=m.kind/\m.kind<=5/\B.ht<=m.ht
 unl:B.kept.Pairwise λa c=>Gh a c=false
theorem BI.HE{B:Bd}(h:BI B):Du B.told:=⟨h.OJ,λp hp=>by have:=h.told p hp;omega⟩
theorem BI.len{B:Bd}(h:BI B):B.told.length<=1001:=h.HE.len
theorem BI.kind{B:Bd}(h:BI B):∀m∈B.kept,m.kind<256:=λm hm=>by have:=h.kept m hm;omega
def Mg.ms(g:Mg)(me z:Int):Ms:=⟨g.kd,me,z,g.h,g.r,g.vl,0,0,0,g.tx,[]⟩
theorem aLo(l:List Mg):OK l=pE (l.map λg=>g.ms 0 0):=by
 induction l with
 | nil=>rfl
 | cons g l ih=>show g.dt++OK l=Nd (g.ms 0 0)++pE _;rw [ih];rfl
def yH(me:Int)(g:Mg)(ms:List Int):List Ms:=(ms.filter λz=> !decide (z=me)).map λz=>g.ms me z
def JX(me:Int)(ms:List Int)(l:List Mg):List Ms:=l.flatMap λg=>yH me g ms
theorem aBp{me:Int}{g:Mg}{ms:List Int}{z:Int}:yH me g (z::ms)=(if z=me then []else [g.ms me z])++yH me g ms:=by
 unfold yH;by_cases h:z=me
 ·rw [if_pos h,JZ,aU h];rfl
 ·rw [if_neg h,JZ,aR h];rfl
def Rg(me ht:Int)(tx:List UInt8)(l:List Nat):List Ms:=(l.filter λi=> !decide (((i+1)%6:Nat)=me)).map λi=>⟨5,me,.ofNat ((i+1)%6),ht,0,0,0,0,0,tx,[]⟩
def Gi(me ht:Int)(tx:List UInt8):List Ms:=Rg me ht tx [0,1,2,3,4,5]
theorem aPy(t:Tag)(m:Ms):wA (nW t m) (Nd m):= .cons t _ (.cons t _ (.cons t _ (.cons t _ (.cons t _ (.cons t _ (.cons t _ (.cons t _ (.cons t _ (.cons t _ (.cons t _ .nil))))))))))
theorem aJg:ED nS=some [n8 0,ni 0,ni 0,ni 0,ni 0,ni 0,ni 0,ni 0,ni 0,.str [],.nil]:=rfl
theorem aBq(l:List Ms)(m:Ms):pE (l++[m])=pE l++Nd m:=by rw [Ao];show pE l++(Nd m++[])=_;rw [nP]
theorem aLp{O:Tag}{l:List Ms}{i:Nat}(h:i<l.length):∃t,Tl O (i*11) (((pE l).drop (i*11)).take 11)=nW t l[i]:=by
 have:=aLX O (((pE l).drop (i*11)).take 11) (i*11);rw [Nf (aP h)]at this ⊢;exact Dr this
def FzC(v:V)(d:Dt):Prop:=pN v=true/\∀S' S,Au S' S v d
def Fcs(us:List V)(new:List Dt):Prop:=us.length=new.length/\∀(j:Nat) (v:V) (d:Dt),us[j]? =some v->new[j]? =some d->FzC v d
theorem Fcs.of{us:List V}{new:List Dt}(h:wA us new):Fcs us new:=⟨h.1,λj v d e1 e2=>by
 obtain⟨t,q⟩:=h.2 j d e2;rw [q]at e1;injection e1 with e1;subst e1;exact⟨aLW t d,λ_ _=>aBg t d⟩⟩
theorem Fcs.one{us:List V}{new:List Dt}(h:Fcs us new):us.all pN=true:=by
 rw [dJ];intro u hu;obtain⟨j,hj,rfl⟩:=MG hu;exact(h.2 j _ _ (aP hj) (aP (by rw [<-h.1];exact hj))).1
theorem Fcs.app{us ws:List V}{ds es:List Dt}(h:Fcs us ds)(g:Fcs ws es):Fcs (us++ws) (ds++es):=⟨by simp [h.1,g.1],λj v d e1 e2=>by
 have hl:=h.1;rcases zJ j ds.length with hj | hj
 ·rw [fB hj]at e2
  rw [fB (by omega)]at e1;exact h.2 j v d e1 e2
 ·rw [iG hj]at e2
  rw [iG (by omega),hl]at e1;exact g.2 _ v d e1 e2⟩
inductive OL(Ss S:Hp):V->List Dt->Nat->Prop
 | nil:OL Ss S .nil [] 0
 | acc {b n:Nat} {vs:List V} {ds:List Dt} (h0:Ss b=none) (h:S b=some (.iX vs 37 n)) (hl:vs.length=n*11) (hf:Fcs vs ds):OL Ss S (.acc b n) ds n
section
variable{Ss S S':Hp}{v:V}{ds:List Dt}{n:Nat}{K:KV}
theorem OL.but(h:OL Ss S v ds n)(hs:∀j vs q,S j=some (.iX vs 37 q)->S' j=some (.iX vs 37 q)):OL Ss S' v ds n:=by
 cases h with
 | nil=>exact .nil
 | acc h0 h hl hf=>exact .acc h0 (hs _ _ _ h) hl hf
theorem OL.up(h:OL Ss S v ds n)(hle:cP S S'):OL Ss S' v ds n:=h.but λj _ _ e=>hle _ _ e
theorem OL.set(h:OL Ss S v ds n){r:Nat}{cs:List V}{t:TypeId}{o:Ob}(hr:S r=some (.row cs t)):OL Ss (aM S r o) v ds n:=h.but λj _ _ e=>by
 rw [aC (λc=>by rw [c,hr]at e;cases e)];exact e
theorem OL.stb(h:OL Ss S v ds n){b:Nat}{o p:Ob}(hb:Ss b=some o):OL (aM Ss b p) (aM S b p) v ds n:=by
 cases h with
 | nil=>exact .nil
 | @acc q _ vs _ h0 h hl hf=>
  have wC:q≠b:=λc=>by rw [c,hb]at h0;cases h0
  exact .acc (by rw [aC wC];exact h0) (by rw [aC wC];exact h) hl hf
theorem OL.app(h:OL Ss S v ds n)(hs:cP Ss S)(hl:n<=1000000){zs:List Value}{zv us:List V}{new:List Dt}(hz:ED zs=some zv)(Ph:zv.length=11)(hu:Fcs us new)(hul:new.length=11)
 (hk:∀u S',cP Ss S'->(∀j cs t,S j=some (.row cs t)->S' j=some (.row cs t))->OL Ss S' u (ds++new) (n+1)->K u S'):dN 37 1 zs [(0,11,.agg us)] S λv2 S=>qG 37 11 112 v v2 S K:=by
 have aBh:us.length=11:=by rw [hu.1,hul]
 refine sE hz Ph aBh hu.one λj hj=>?_;have TX:cP S (aM S j (.row us 37)):= .aN hj;have rj:aM S j (.row us 37) j=some (.row us 37):=aB;have h1:=h.up TX;generalize aM S j (.row us 37)=S1 at TX rj h1;have hmb:(n+(0+1))*112<=140737488355328/\n+(0+1)<=140737488355328:=by omega
 unfold qG;refine LN (m:=1) rj (by omega) ?_;refine⟨hu.one,?_⟩;cases h1 with
 | nil=>
  refine⟨by omega,λi hi=>?_⟩;have Hl:cP S1 (aM S1 i (.iX us 37 1)):= .aN hi;exact hk (.acc i 1) _ (hs.trans (TX.trans Hl)) (λq cs t e=>Hl _ _ (TX _ _ e)) (.acc ((hs.trans TX).none hi) aB (by omega) (by rw [PB];exact hu))
 | @acc i _ vs _ h0 hq Hi hf=>
  simp only [hq];refine⟨trivial,trivial,Hi,hmb,?_⟩;have Hl:∀q o,q≠i->S1 q=some o->aM S1 i (.iX (vs++us) 37 (n+(0+1))) q=some o:=λq o hq e=>by rw [aC hq];exact e
  exact hk _ _ (λq o e=>Hl q o (λc=>by rw [c,h0]at e;cases e) (TX _ _ (hs _ _ e))) (λq cs t e=>Hl q _ (λc=>by
   have:=TX _ _ e;rw [c,hq]at this;cases this) (TX _ _ e)) (.acc h0 aB (by rw [bH];omega) (hf.app hu))
theorem OL.ret(h:OL Ss S v ds n)(hs:cP Ss S)(hK:∀O,K (.list O ds n) Ss):aQ v S K:=by
 refine DD (S':=Ss) (cs:=ds) hs ?_ hK;cases h with
 | nil=>exact .nil
 | acc h0 h hl hf=>exact .acc h h0 hf.1 λj v d e1 e2=>(hf.2 j v d e1 e2).2 _ _
end
section
variable{M d:Nat}{x:VE}{K:KV}{b:Nat}{B:Bd}{bv tv kv:V}{Ss:Hp}
theorem aJh(rb:Ss b=some (.row (iF B bv tv kv) 82)){O:Tag}{ms:List Int}(DT:ms.length<1000){r:Nat}(hr:Ss r=none)(g:Mg){KM t89 IK:V}{m0:Nat}{out:List Ms}(hK:∀S' u,cP Ss S'->OL Ss S' u (pE (out++yH B.me g ms)) (out++yH B.me g ms).length->(aD PP .add 3 IK (.int .i64 (.ofNat 1)) λv17=>bZ x m0 (.ptr b 0) (.list O (OV ms) ms.length) u KM t89 v17 S' K)):
 ∀(q i k:Nat) (S:Hp) (vo:V) (acc:List Ms) (fr to:Int) (t:Tag),i+q=ms.length->q<k->acc++yH B.me g (ms.drop i)=out++yH B.me g ms->acc.length<=900000+i->cP Ss S->S r=some (.row (nW t {g.ms fr to with fr:=fr,to:=to}) 37)->OL Ss S vo (pE acc) acc.length->
  bD x k m0 (.ptr b 0) (.list O (OV ms) ms.length) vo (.ptr r 0) KM t89 IK (.list O (OV ms) ms.length) (ni ms.length) (ni i) S K:=by
 intro q;induction q with
 | zero=>
  intro i k S vo acc fr to t hi hk he hal hle rr hA;obtain⟨k,rfl⟩:=KJ hk;rw [nM];unfold jH;refine aH ?_;rw [dW,BC (by omega),cF];rw [OY (by omega)]at he;have he:acc=out++yH B.me g ms:=by rw [<-he];exact(nP _).symm
  rw [he]at hA;exact hK S vo hle hA
 | succ q ih=>
  intro i k S vo acc fr to t hi hk he hal hle rr hA;obtain⟨k,rfl⟩:=KJ hk;rw [nM];unfold jH;refine aH ?_;have lN:i<ms.length:=by omega
  have e1:(OV ms)[i]? =some (.int .i64 ms[i]):=by unfold OV;rw [jA,aP lN];rfl
  have WY:LD b 12 S (nz B.me):=fD (hle _ _ rb) rfl;rw [dW,Gg lN,eY,nR lN,OE,lS,kF e1];show jI PP (.ptr b 0) _;rw [aV,aG,WY];show aD PP .neq 3 (nz ms[i]) (nz B.me) _;rw [gD];rw [zG lN,aBp,<-DW]at he;have ad:LB .add 3 (ni i) (.int .i64 (.ofNat 1)) (ni (i+1)):=λ{k}=>fP (by omega);by_cases hz:ms[i]=B.me
  ·rw [aU hz,eH,cF,ad]
   rw [if_pos hz,nP]at he;exact ih (i+1) k S vo acc fr to t (by omega) (by omega) he (by omega) hle rr hA
  ·rw [aR hz,iH,eY,aV,aG,WY]
   rw [if_neg hz]at he;rw [aG,RX rr (aW rfl) rfl,aG];show mE 1 (.ptr r 2) (nz ms[i]) _ _;rw [RX aB (aW rfl) rfl,cW];have BS:((nW t {g.ms fr to with fr:=fr,to:=to}).set 1 (nz B.me)).set 2 (nz ms[i])=nW t (g.ms B.me ms[i]):=rfl;rw [BS];have hA1:OL Ss (aM S r (.row (nW t (g.ms B.me ms[i])) 37)) vo (pE acc) acc.length:=hA.set rr;have aKR:cP Ss (aM S r (.row (nW t (g.ms B.me ms[i])) 37)):=λj o e=>by rw [aC (λc=>by rw [c,hr]at e;cases e)];exact hle _ _ e
   have rr1:aM S r (.row (nW t (g.ms B.me ms[i])) 37) r=some (.row (nW t (g.ms B.me ms[i])) 37):=aB;generalize aM S r (.row (nW t (g.ms B.me ms[i])) 37)=S1 at hA1 aKR rr1;refine eX (n:=11) (i:=r) rr1 rfl ?_;refine hA1.app aKR (by omega) aJg rfl (.of (aPy t _)) rfl λu S2 e2 kp sl=>?_;rw [ad];refine ih (i+1) k S2 u (acc++[g.ms B.me ms[i]]) B.me ms[i] t (by omega) (by omega) he (by rw [bH,List.length_singleton];omega) e2 (kp _ _ _ rr1) ?_;rw [aBq,bH];exact sl
theorem aLq(rb:Ss b=some (.row (iF B bv tv kv) 82))(hx:x.most=M)(hM:100000<M){O Ol:Tag}{ms:List Int}(DT:ms.length<1000){l:List Mg}(hl:l.length<=2000){q0 t0 m0:Nat}{a:Ba}(hbv:bv= .ptr q0 0)(kb:vP Ss q0 t0 m0 124 a)(hx2:DP M (d+1) x)
 (hK:∀S' u,cP Ss S'->OL Ss S' u (pE (JX B.me ms l)) (JX B.me ms l).length->(jI PP (.ptr b 0) λv11=>bF 14 v11 λv12=>mE 1 v12 (.str a.s.dec) S' λS=>fZ x (.ptr b 0) (.list O (OV ms) ms.length) u S K)) (hms:ms.length<=10):
 ∀(q i k:Nat) (S:Hp) (vo:V) (acc:List Ms),i+q=l.length->q<k->acc++JX B.me ms (l.drop i)=JX B.me ms l->acc.length<=i*10->cP Ss S->OL Ss S vo (pE acc) acc.length->
  bZ x k (.ptr b 0) (.list O (OV ms) ms.length) vo (.list Ol (OK l) l.length) (ni l.length) (ni i) S K:=by
 intro q;induction q with
 | zero=>
  intro i k S vo acc hi hk he hal hle hA;obtain⟨k,rfl⟩:=KJ hk;rw [sG];unfold nC;refine aH ?_;rw [dW,BC (by omega),cF];rw [OY (by omega)]at he;have he:acc=JX B.me ms l:=by rw [<-he];exact(nP _).symm
  rw [he]at hA;have MD:LD b 15 S bv:=fD (hle _ _ rb) rfl;rw [aV,aG,MD,hbv];refine aNg (n:=d) (show gT kH=none from rfl) hx2 (hle _ _ kb.row) ?_;refine xM rfl ?_;refine xM rfl ?_;exact hK S vo hle hA
 | succ q ih=>
  intro i k S vo acc hi hk he hal hle hA;obtain⟨k,rfl⟩:=KJ hk;rw [sG];unfold nC;refine aH ?_;have lN:i<l.length:=by omega
  rw [dW,Gg lN,eY,nR lN,BZ];have hlen:(l.map λg=>g.ms 0 0).length=l.length:=jB _;have aNG:i<(l.map λg=>g.ms 0 0).length:=by omega
  obtain⟨t,et⟩:=aLp (O:=Ol) aNG;rw [<-aLo,List.getElem_map]at et;have Oy:=lB 11 lN;rw [fH (by rw [NP];omega),et];intro r hr;refine gJ (cs:=nW t (l[i].ms 0 0)) aB rfl rfl (by rfl) ?_;rw [cW];have eU:cP S (aM S r (.row (nW t (l[i].ms 0 0)) 37)):= .aN hr;have rr:aM S r (.row (nW t (l[i].ms 0 0)) 37) r=some (.row (nW t (l[i].ms 0 0)) 37):=aB;have hA1:=hA.up eU;generalize aM S r (.row (nW t (l[i].ms 0 0)) 37)=S1 at eU rr hA1;have lz:∀{k:V->Prop},dC (.list O (OV ms) ms.length) k=k (ni ms.length):=λ{k}=>rfl;rw [lz,hx];rw [zG lN]at he;have he:acc++(yH B.me l[i] ms++JX B.me ms (l.drop (i+1)))=JX B.me ms l:=he;rw [<-DW]at he;refine aJh (out:=acc) rb DT (hle.none hr) l[i] (λS2 u h2 hA2=>?_) ms.length 0 M S1 vo acc 0 0 t (by omega) (by omega) (by rw [DX]) (by omega) (hle.trans eU) rr hA1;rw [fP (by omega)];refine ih (i+1) k S2 u _ (by omega) (by omega) he ?_ h2 hA2
  have:(yH B.me l[i] ms).length<=ms.length:=by
   unfold yH;rw [jB];exact DU _ _
  rw [bH];omega
theorem aRm{a c:Nat}(h:0<c){k:V->Prop}:aD PP .rem 3 (ni a) (ni c) k=k (ni (a%c)):=by
 rw [Cz (by simp only [lR];omega)]
 congr 2
theorem aNX(rb:Ss b=some (.row (iF B bv tv kv) 82)){out:List Ms}(hK:∀O,K (.list O (pE (out++Gi B.me B.ht B.dec)) (out++Gi B.me B.ht B.dec).length) Ss)(Ej:out.length<=100000):
 ∀(q i k:Nat) (S:Hp) (vo:V) (acc:List Ms),i+q=6->q<k->acc++Rg B.me B.ht B.dec ([0,1,2,3,4,5].drop i)=out++Gi B.me B.ht B.dec->acc.length<=out.length+i->cP Ss S->OL Ss S vo (pE acc) acc.length->
  gO x k (.ptr b 0) vo (ni 6) (ni i) S K:=by
 intro q;induction q with
 | zero=>
  intro i k S vo acc hi hk he hal hle hA;obtain⟨k,rfl⟩:=KJ hk;rw [sH];unfold nD;refine aH ?_;rw [dW,BC (by omega),cF];rw [OY (by simp only [qS,Rv];omega)]at he;have he:acc=out++Gi B.me B.ht B.dec:=by rw [<-he];exact(nP _).symm
  rw [he]at hA;exact hA.ret hle hK
 | succ q ih=>
  intro i k S vo acc hi hk he hal hle hA;obtain⟨k,rfl⟩:=KJ hk;rw [sH];unfold nD;refine aH ?_;have hi6:i<6:=by omega
  have l4:LD b 4 S (ni 5):=fD (hle _ _ rb) rfl;have WY:∀{S1:Hp},cP Ss S1->LD b 12 S1 (nz B.me):=λh=>fD (h _ _ rb) rfl;have ON:∀{S1:Hp},cP Ss S1->LD b 13 S1 (nz B.ht):=λh=>fD (h _ _ rb) rfl;have UJ:∀{S1:Hp},cP Ss S1->LD b 14 S1 (.str B.dec):=λh=>fD (h _ _ rb) rfl;have a1:LB .add 3 (ni i) (.int .i64 (.ofNat 1)) (ni (i+1)):=λ{k}=>fP (by omega);have a2:LB .add 3 (ni 5) (.int .i64 (.ofNat 1)) (ni 6):=λ{k}=>fP (by omega);have r1:LB .rem 3 (ni (i+1)) (ni 6) (ni ((i+1)%6)):=λ{k}=>aRm (by omega)
  have dr:([0,1,2,3,4,5]:List Nat).drop i=i::([0,1,2,3,4,5]:List Nat).drop (i+1):=by
   match i,hi6 with
   | 0,_ | 1,_ | 2,_ | 3,_ | 4,_ | 5,_=>rfl
  have te:Rg B.me B.ht B.dec (i::([0,1,2,3,4,5]:List Nat).drop (i+1))=(if(((i+1)%6:Nat):Int)=B.me then []else [⟨5,B.me,.ofNat ((i+1)%6),B.ht,0,0,0,0,0,B.dec,[]⟩])++Rg B.me B.ht B.dec (([0,1,2,3,4,5]:List Nat).drop (i+1)):=by
   unfold Rg;by_cases h:(((i+1)%6:Nat):Int)=B.me
   ·rw [if_pos h,JZ,aU h];rfl
   ·rw [if_neg h,JZ,aR h];rfl
  rw [dr,te,<-DW]at he;rw [dW,Gg hi6,eY]
  repeat (first | rw [a1] | rw [a2] | rw [r1] | rw [aV] | rw [aG] | rw [l4] | rw [WY hle] | dsimp only)
  rw [gD];by_cases hz:(((i+1)%6:Nat):Int)=B.me
  ·rw [aU (show Int.ofNat ((i+1)%6)=B.me from hz),eH,cF]
   rw [if_pos hz,nP]at he;exact ih (i+1) k S vo acc (by omega) (by omega) he (by omega) hle hA
  ·rw [aR (show ¬Int.ofNat ((i+1)%6)=B.me from hz),iH,eY]
   rw [if_neg hz]at he
   repeat (first | rw [aV] | rw [aG] | rw [WY hle] | rw [ON hle] | rw [UJ hle] | dsimp only)
   have bld:∀{k:V->Prop},k (.agg [n8 5,nz B.me,ni ((i+1)%6),nz B.ht,ni 0,ni 0,ni 0,ni 0,ni 0,.str B.dec,.nil])->fX nS [(0,1,(.int .u8 (.ofNat 5))),(1,1,nz B.me),(2,1,ni ((i+1)%6)),(3,1,nz B.ht),(9,1,.str B.dec)] k:=λ{k} hk=>
    ⟨rfl,aW rfl,rfl,aW rfl,rfl,aW rfl,rfl,aW rfl,rfl,aW rfl,hk⟩
   refine bld ?_;have ss:∀{p:Prop} {l:List UInt8},aT (.str l) (.str l) p=p:=λ{p l}=>dX rfl
   repeat (first | rw [aV] | rw [aG] | rw [WY hle] | rw [ON hle] | rw [UJ hle] | rw [ss] | rw [aJf] | dsimp only)
   have ts:Fcs [n8 5,nz B.me,ni ((i+1)%6),nz B.ht,ni 0,ni 0,ni 0,ni 0,ni 0,.str B.dec,.nil] (Nd ⟨5,B.me,.ofNat ((i+1)%6),B.ht,0,0,0,0,0,B.dec,[]⟩):=⟨rfl,λq v u e1 e2=>by
    match q with
    | 0 | 1 | 2 | 3 | 4 | 5 | 6 | 7 | 8=>injection e1 with e1;injection e2 with e2;subst e1 e2;exact⟨rfl,λ_ _=> .int⟩
    | 9=>injection e1 with e1;injection e2 with e2;subst e1 e2;exact⟨rfl,λ_ _=> .str⟩
    | 10=>injection e1 with e1;injection e2 with e2;subst e1 e2;exact⟨rfl,λ_ _=> .nil⟩
    | q+11=>cases e1⟩
   refine⟨sE aJg rfl rfl rfl λ_ _=>trivial,?_⟩;refine hA.app hle (by omega) aJg rfl ts rfl λu S2 e2 kp sl=>?_
   repeat (first | rw [aV] | rw [aG] | rw [WY e2] | rw [ON e2] | rw [UJ e2] | rw [ss] | rw [aJf] | rw [a1] | dsimp only)
   refine ih (i+1) k S2 u (acc++[⟨5,B.me,.ofNat ((i+1)%6),B.ht,0,0,0,0,0,B.dec,[]⟩]) (by omega) (by omega) he (by rw [bH,List.length_singleton];omega) e2 ?_;rw [aBq,bH];exact sl
end
section
variable{M d:Nat}{x:VE}{S:Hp}{K:KV}{B:Bd}
theorem aN0(hx:DP M (d+1) x){O:Tag}(hK:K (.bool true) S):x.call EH [.agg (iL Rb (.list O [] 0))] S K:=by
 refine hx.call rfl λy hy=>?_;rw [Ha];unfold OH Vk Av rW ST gQ gG;refine fR rfl λr hr=>?_;have eU:cP S (aM S r (.row (iL Rb (.list O [] 0)) 68)):= .aN hr;have rr:aM S r (.row (iL Rb (.list O [] 0)) 68) r=some (.row (iL Rb (.list O [] 0)) 68):=aB;generalize aM S r (.row (iL Rb (.list O [] 0)) 68)=S1 at eU rr;have l0:LD r 0 S1 (ni 0):=fD rr rfl;have l1:LD r 1 S1 (ni 0):=fD rr rfl;have l2:LD r 2 S1 (ni 0):=fD rr rfl;have l3:LD r 3 S1 (ni 0):=fD rr rfl;have l4:LD r 4 S1 (ni 0):=fD rr rfl;have l5:LD r 5 S1 (ni 0):=fD rr rfl;have l6:LD r 6 S1 (ni 0):=fD rr rfl;have l7:LD r 7 S1 (.str []):=fD rr rfl;have l8:LD r 8 S1 (.str []):=fD rr rfl;have l9:LD r 9 S1 (ni 0):=fD rr rfl;have l10:LD r 10 S1 (ni 0):=fD rr rfl;have l11:LD r 11 S1 (.bool false):=fD rr rfl;have WY:LD r 12 S1 (.bool false):=fD rr rfl;have ON:LD r 13 S1 (.str []):=fD rr rfl;have UJ:LD r 14 S1 (.list O [] 0):=fD rr rfl;have qi:LB .eql 3 (ni 0) (.int .i64 (.ofNat 0)) (.bool true):=λ{k}=>by rw [Mz];rfl
 have qs:LB .eql 9 (.str []) (.str []) (.bool true):=λ{k}=>rfl;have nt:∀{k:V->Prop},JC .not (.bool false) k=k (.bool true):=λ{k}=>rfl
 repeat (first | rw [aL] | rw [aI] | rw [kB] | rw [aG] | rw [UJ] | rw [dV] | rw [qi] | rw [qs] | rw [nt] | rw [l0] | rw [l1] | rw [l2] | rw [l3] | rw [l4] | rw [l5] | rw [l6] | rw [l7] | rw [l8] | rw [l9] | rw [l10] | rw [l11] | rw [WY] | rw [ON] | dsimp only)
 exact cL eU hK
theorem aJp(h:BI B){i:Nat}(hi:i<B.kept.length):KP B.ht (B.kept.take i) B.kept[i]=true:=by
 obtain⟨h1,h2,h3,h4⟩:=h.kept _ (nO hi);unfold KP;have e2:decide (B.kept[i].kind<2)=false:=aR (by omega);have e3:decide (5<B.kept[i].kind)=false:=aR (by omega);have e4:decide (B.kept[i].ht<B.ht)=false:=aR (by omega)
 have e5:((B.kept.take i).any λa=>Gh a B.kept[i])=false:=by
  rw [Be];intro a ha;obtain⟨j,hj,rfl⟩:=MG ha;rw [jL]at hj;have:=UN.1 h.unl j i (by omega) hi (by omega);rw [List.getElem_take,this];simp
 rw [h1,e2,e3,e4,e5];rfl
set_option maxHeartbeats 1000000 in
theorem aN1(hM:100000<M)(hx:DP M (d+9) x)(h:BI B)(hl:B.kept.length<90000){O1 O2 O3:Tag}(hK:∀b S',As S S' b B->K (.tuple [.ptr b 0,ni 0]) S'):x.call vU [.agg pvS,nz B.me,.agg (UL B O1 O2 O3)] S K:=by
 refine hx.call rfl λy hy=>?_;rw [Vy];unfold Ab gEf XG zE jK uM gQ gG gM;refine fR Ww λr0 h0=>?_;have eU:cP S (aM S r0 (.row pvS 31)):= .aN h0;have rr0:aM S r0 (.row pvS 31) r0=some (.row pvS 31):=aB;generalize aM S r0 (.row pvS 31)=S1 at eU rr0;refine fR (SX rfl rfl rfl) λr1 h1=>?_;have lA:cP S1 (aM S1 r1 (.row (UL B O1 O2 O3) 71)):= .aN h1;have rr1:aM S1 r1 (.row (UL B O1 O2 O3) 71) r1=some (.row (UL B O1 O2 O3) 71):=aB;have rr0:=lA _ _ rr0;have Oy:=eU.trans lA;show cU 12 (.ptr r0 0) (aM S1 r1 (.row (UL B O1 O2 O3) 71)) _;generalize aM S1 r1 (.row (UL B O1 O2 O3) 71)=S2 at lA rr0 rr1 Oy;refine eX (n:=12) (i:=r0) rr0 rfl ?_;refine aJo (d:=d+6) hy h.me λb S3 hn=>?_;have aPC:=hn.choose_spec.2.1;have hm:y.most≠0:=by rw [hy.most];omega
 have ld:∀{Skz:Hp},cP S2 Skz->(LD r1 0 Skz (nz B.ht))/\(LD r1 1 Skz (.str B.dec))/\(LD r1 2 Skz (.bool B.dI.isSome))/\(LD r1 18 Skz (.list O2 (GC B.told) B.told.length))/\(LD r1 19 Skz (.list O3 (pE B.kept) B.kept.length))/\(LD r0 4 Skz (ni 5))/\(LD r0 5 Skz (nz 4))/\(LD r0 6 Skz (nz 1)):=λ{Skz} le=>
  ⟨fD (le _ _ rr1) rfl,fD (le _ _ rr1) rfl,fD (le _ _ rr1) rfl,fD (le _ _ rr1) rfl,fD (le _ _ rr1) rfl,fD (le _ _ rr0) rfl,fD (le _ _ rr0) rfl,fD (le _ _ rr0) rfl⟩
 have vs0:LB .neq 26 (ni 0) (.int .i64 (.ofNat 0)) (.bool false):=λ{k}=>by rw [Wq];rfl
 have jn:∀S5,As S2 S5 b {Dy B.me with ht:=B.ht,dI:=B.dI}->rG y (.ptr r0 0) (.ptr r1 0) (.ptr b 0) S5 K:=by
  have aPD:∀(q i k:Nat) (Skz:Hp),i+q=B.kept.length->q<k->As S2 Skz b {Dy B.me with ht:=B.ht,dI:=B.dI,kept:=B.kept.take i}->nL y k (.ptr r1 0) (.ptr b 0) (.list O3 (pE B.kept) B.kept.length) (ni B.kept.length) (ni i) Skz K:=by
   intro q;induction q with
   | zero=>
    intro i k Skz hi hk hn;obtain⟨k,rfl⟩:=KJ hk;rw [xF];unfold rA gG gM;refine aH ?_;rw [oS (by omega)]at hn;obtain⟨sd,g,hle,XO⟩:=hn;obtain⟨p0,p1,p2,Pb,p19,q4,q5,q6⟩:=ld hle;rw [dW,BC (by omega),cF,aG,p1,aG,Pb];refine aBr (d:=d+7) (S0:=Skz) hy (by have:=h.len;omega) (.inr ⟨O2,rfl⟩) λu S4 Gf su nas=>?_;obtain⟨m0,m1,m2,m18,m19,n4,n5,n6⟩:=ld (hle.trans Gf);rw [m1,dX rfl,aV,aG];obtain⟨bv,tv,kv,SB,g,rfl⟩:=g;have g4:=g.up Gf;rw [RX g4.row (aW rfl) rfl];have g5:=g4.setRow (B':={Dy B.me with ht:=B.ht,dI:=B.dI,kept:=B.kept,dec:=B.dec}) rfl rfl rfl;have BS:(iF {Dy B.me with ht:=B.ht,dI:=B.dI,kept:=B.kept} bv tv kv).set 14 (.str B.dec)=iF {Dy B.me with ht:=B.ht,dI:=B.dI,kept:=B.kept,dec:=B.dec} bv tv kv:=rfl;rw [BS,aV,aG,RX g5.row (aW rfl) su.one];have BS:(iF {Dy B.me with ht:=B.ht,dI:=B.dI,kept:=B.kept,dec:=B.dec} bv tv kv).set 16 u=iF B bv u kv:=rfl;rw [BS,cW];have nu:¬tM u b:=λc=>by have:=(su.at c).1;rw [g.row]at this;cases this
    have nk:¬tM kv b:=g4.kept.nat g4.row;have gg:Brd (aM S4 b (.row (iF B bv u kv) 82)) b B bv u kv SB:=⟨aB,(su.base (λj o e=>by cases e)).set nu,g4.kept.set nk,g4.dI.but λj p h1 h2=>by rw [aC (λc=>g4.nb (by rw [<-c];exact h1))];exact h2,g4.nb,nas⟩;refine aF (hK b _ ⟨_,⟨bv,u,kv,SB,gg,rfl⟩,λj o e=>?_,λj hj=>?_⟩)
    ·have e2:=Oy _ _ e
     rw [aC (λc=>by subst c;rw [XO j (.inl rfl)]at e2;cases e2)];exact Gf _ _ (hle _ _ e2)
    ·refine Oy.none ?_
     rcases hj with hj | hj | hj | hj
     ·exact XO j (.inl hj)
     ·exact hle.none (su.at hj).1
     ·exact XO j (.inr (.inr (.inl hj)))
     ·exact XO j (.inr (.inr (.inr hj)))
   | succ q ih=>
    intro i k Skz hi hk hn;obtain⟨k,rfl⟩:=KJ hk;rw [xF];unfold rA gG gM;refine aH ?_;have lN:i<B.kept.length:=by omega
    rw [dW,Gg lN,eY,nR lN,BZ,fH (by rw [JV];have:=lB 11 lN;omega)];obtain⟨t,et⟩:=aLp (O:=O3) lN;rw [et];refine dQ (l:=[n8 0,ni 0,ni 0,ni 0,ni 0,ni 0,ni 0,ni 0,ni 0,.str [],.nil]) rfl λr hr=>?_;refine gJ (cs:=nW t B.kept[i]) aB rfl rfl (by rfl) ?_;rw [cW];refine eX (n:=11) aB rfl ?_;have hn1:=hn.up (show cP Skz (aM Skz r (.row (nW t B.kept[i]) 37))from .aN hr);generalize aM Skz r (.row (nW t B.kept[i]) 37)=Sr at hn1;obtain⟨sd,g,nx⟩:=As.fr hn1;refine Xa (d:=d+1) hM hy g (by show(B.kept.take i).length<90000;rw [jL];omega) (h.kind _ (nO lN)) λS' KT g' f'=>?_;have tk:KP B.ht (B.kept.take i) B.kept[i]=true:=aJp h lN;rw [tk,gX,eH,cF,fP (by omega)];have hn2:=nx g' f'
    have eB:Bd.take {Dy B.me with ht:=B.ht,dI:=B.dI,kept:=B.kept.take i} B.kept[i]={Dy B.me with ht:=B.ht,dI:=B.dI,kept:=B.kept.take (i+1)}:=by
     unfold Bd.take;rw [if_pos tk,tO,aP lN];rfl
    rw [eB]at hn2;exact ih (i+1) k S' (by omega) (by omega) hn2
  have aPE:∀(q i k:Nat) (Skz:Hp),i+q=B.told.length->q<k->As S2 Skz b {Dy B.me with ht:=B.ht,dI:=B.dI}->lK y k (.ptr r0 0) (.ptr r1 0) (.ptr b 0) (.list O2 (GC B.told) B.told.length) (ni B.told.length) (ni i) Skz K:=by
   intro q;induction q with
   | zero=>
    intro i k Skz hi hk hn;obtain⟨k,rfl⟩:=KJ hk;rw [yY];unfold rU XG Av zE rW jK ST uM BD wF gQ gG;refine aH ?_;obtain⟨p0,p1,p2,Pb,p19,q4,q5,q6⟩:=ld hn.choose_spec.2.1;rw [dW,BC (by omega),cF,aG,p19,dV];exact aPD B.kept.length 0 y.most Skz (by omega) (by rw [hy.most];omega) hn
   | succ q ih=>
    intro i k Skz hi hk hn;obtain⟨k,rfl⟩:=KJ hk;rw [yY];unfold rU XG Av zE rW jK ST uM BD wF gQ gG;refine aH ?_;have lN:i<B.told.length:=by omega
    have hlen:=h.len;rw [dW,Gg lN,eY,nR lN,BZ,fH (by rw [xQ];have:=lB 2 lN;omega),XA (aP lN)];show eI _ 75 Skz λv3 S=>mE 2 v3 (.agg (TQ B.told[i])) S _;refine dQ (l:=[ni 0,.str []]) rfl λr hr=>?_;refine gJ (cs:=TQ B.told[i]) aB rfl rfl (by rfl) ?_;rw [cW];have rr:aM Skz r (.row (TQ B.told[i]) 75) r=some (.row (TQ B.told[i]) 75):=aB;have hn1:=hn.up (show cP Skz (aM Skz r (.row (TQ B.told[i]) 75))from .aN hr);generalize aM Skz r (.row (TQ B.told[i]) 75)=Sr at hn1 rr;obtain⟨p0,p1,p2,Pb,p19,q4,q5,q6⟩:=ld hn1.choose_spec.2.1;obtain⟨t1,t2,t3,t4⟩:=h.told _ (nO lN);have l0:LD r 0 Sr (nz B.told[i].1):=fD rr rfl;have l1:LD r 1 Sr (.str B.told[i].2):=fD rr rfl;have c1:LB .lss 3 (nz B.told[i].1) (.int .i64 (.ofNat 1)) (.bool false):=λ{k}=>by rw [bO,aR (by simp only [lR];omega)]
    have c2:LB .gtr 3 (nz B.told[i].1) (ni 5) (.bool false):=λ{k}=>by rw [jR,aR (by simp only [lR];omega)]
    have c3:LB .eql 9 (.str B.told[i].2) (.str []) (.bool false):=λ{k}=>by
     show k (.bool (decide (B.told[i].2=[])))=_;rw [aR t3]
    have c4:LB .gtr 3 (ni B.told[i].2.length) (.int .i64 (.ofNat 2048)) (.bool false):=λ{k}=>by rw [Dq,BC (by omega)]
    have go:(aD PP .add 3 (ni i) (.int .i64 (.ofNat 1)) λv60=>lK y k (.ptr r0 0) (.ptr r1 0) (.ptr b 0) (.list O2 (GC B.told) B.told.length) (ni B.told.length) v60 Sr K):=by
     rw [fP (by omega)];exact ih (i+1) k Sr (by omega) (by omega) hn1
    cases i with
    | zero=>
     have c0:LB .gtr 3 (ni 0) (.int .i64 (.ofNat 0)) (.bool false):=λ{k}=>by rw [Dq];rfl
     repeat (first | rw [aL] | rw [aI] | rw [yG] | rw [oZ] | rw [aG] | rw [l0] | rw [l1] | rw [q4] | rw [c1] | rw [c2] | rw [c3] | rw [c4] | rw [c0] | rw [fA] | rw [cF] | rw [CQ] | dsimp only)
     exact go
    | succ i=>
     have c0:LB .gtr 3 (ni (i+1)) (.int .i64 (.ofNat 0)) (.bool true):=λ{k}=>by rw [Dq,Gg (by omega)]
     have c5:LB .sub 3 (ni (i+1)) (.int .i64 (.ofNat 1)) (ni i):=λ{k}=>by rw [aNw (by omega) (by omega)];rfl
     have hi2:i<B.told.length:=by omega
     have c6:∀{k:V->Prop},jM 2 (.list O2 (GC B.told) B.told.length) (ni i) k=k (.rK O2 (GC B.told) (i*2)):=λ{k}=>nR hi2;have c7:∀{k:V->Prop},bF 0 (.rK O2 (GC B.told) (i*2)) k=k (.rK O2 (GC B.told) (i*2)):=λ{k}=>rfl
     have c8:∀{K:KV},bJ (.rK O2 (GC B.told) (i*2)) Sr K=K (nz B.told[i].1) Sr:=λ{K}=>by
      rw [OE,kF (a:= .int .i64 B.told[i].1)]
      ·rfl
      ·have e:=XA (aP hi2)
       have:(((GC B.told).drop (i*2)).take 2)[0]? =some (.int .i64 B.told[i].1):=by rw [e];rfl
       rw [kR,if_pos (by omega),kS]at this;exact this
     have hlt:=UN.1 h.OJ i (i+1) hi2 lN (by omega);have c9:LB .leq 3 (nz B.told[i+1].1) (nz B.told[i].1) (.bool false):=λ{k}=>by rw [yR,aR (by omega)]
     repeat (first | rw [aL] | rw [aI] | rw [aG] | rw [l0] | rw [l1] | rw [q4] | rw [Pb] | rw [c1] | rw [c2] | rw [c3] | rw [c4] | rw [c0] | rw [c5] | rw [c6] | rw [c7] | rw [c8] | rw [c9] | rw [fA] | rw [kB] | rw [cF] | rw [CQ] | dsimp only)
     exact go
  intro S5 hn;rw [RT _ hm];unfold DR gG;refine aH ?_;obtain⟨p0,p1,p2,Pb,p19,q4,q5,q6⟩:=ld hn.choose_spec.2.1;rw [aG,Pb,dV];have hlen:=h.len;exact aPE B.told.length 0 y.most S5 (by omega) (by rw [hy.most];omega) hn
 obtain⟨p0,p1,p2,Pb,p19,q4,q5,q6⟩:=ld aPC;have hht:=h.ht;have aNv:=h.dec;have c1:LB .lss 3 (nz B.ht) (.int .i64 (.ofNat 1)) (.bool false):=λ{k}=>by rw [bO,aR (by simp only [lR];omega)]
 have c2:LB .gtr 3 (nz B.ht) (.int .i64 (.ofNat 65)) (.bool false):=λ{k}=>by rw [jR,aR (by simp only [lR];omega)]
 have c3:LB .gtr 3 (ni B.dec.length) (.int .i64 (.ofNat 2048)) (.bool false):=λ{k}=>by rw [Dq,BC (by omega)]
 rw [vE,vF,vs0,cF]
 repeat (first | rw [aL] | rw [aI] | rw [aG] | rw [p0] | rw [p1] | rw [c1] | rw [c2] | rw [c3] | rw [fA] | rw [cF] | rw [CQ] | rw [aV] | dsimp only)
 obtain⟨sd3,g3,_,nw⟩:=hn;obtain⟨bv,tv,kv,SB,g,rfl⟩:=g3;rw [RX g.row (aW rfl) rfl];have BS:(iF (Dy B.me) bv tv kv).set 13 (nz B.ht)=iF {Dy B.me with ht:=B.ht} bv tv kv:=rfl;rw [BS];have g4:=g.setRow (B':={Dy B.me with ht:=B.ht}) rfl rfl rfl
 have Dv:cP S2 (aM S3 b (.row (iF {Dy B.me with ht:=B.ht} bv tv kv) 82)):=λj o e=>by
  rw [aC (λc=>by have:=nw b (.inl rfl);rw [c,this]at e;cases e)];exact aPC _ _ e
 generalize aM S3 b (.row (iF {Dy B.me with ht:=B.ht} bv tv kv) 82)=S4 at g4 Dv;obtain⟨p0,p1,p2,Pb,p19,q4,q5,q6⟩:=ld Dv;rw [aG,p2]
 have ln:∀{K:KV},cU 15 (.ptr r1 3) S4 K=K (.agg (iL (Dx B.dI) (.list O1 (wT (EO B.dI)) (EO B.dI).length))) S4:=λ{K}=>by
  rw [NB (Dv _ _ rr1),fH (aW rfl)];rfl
 cases hb:B.dI with
 | none=>
  rw [hb]at ln;show iQ (.bool false) _ _;rw [cF,aG,ln];refine aN0 (d:=d+7) hy ?_;rw [gX,eH,cF];refine jn S4 ⟨_,⟨bv,tv,kv,SB,?_,rfl⟩,Dv,nw⟩;rw [hb];exact g4
 | some a=>
  rw [hb]at ln;obtain⟨ia,ah,an,at_⟩:=h.dI a hb;show iQ (.bool true) _ _;rw [eY,aG,ln];refine aNu (n:=d+4) hM hy ia (a:=a) λq t m S5 fr hq ht hmm kb=>?_;have le5:cP S4 S5:=λj o e=>by rw [fr j (by rw [e];simp)];exact e
  have g5:=g4.up le5;have aRo:=Dv.trans le5;rw [vE,vF,aV,aG,RX g5.row (aW rfl) rfl];have BS:(iF {Dy B.me with ht:=B.ht} bv tv kv).set 15 (.ptr q 0)=iF {Dy B.me with ht:=B.ht,dI:=some a} (.ptr q 0) tv kv:=rfl;rw [BS]
  have nb:¬(b=q\/b=t\/b=m):=λc=>by
   have e:=g4.row;rcases c with c | c | c
   ·rw [c,hq]at e;cases e
   ·rw [c,ht]at e;cases e
   ·rw [c,hmm]at e;cases e
  have gg:Brd (aM S5 b (.row (iF {Dy B.me with ht:=B.ht,dI:=some a} (.ptr q 0) tv kv) 82)) b {Dy B.me with ht:=B.ht,dI:=some a} (.ptr q 0) tv kv (λj=>j=q\/j=t\/j=m):=
   ⟨aB,g5.told.set (g5.told.nat g5.row),g5.kept.set (g5.kept.nat g5.row),.is (kb.but λj p h1 h2=>by rw [aC (λc=>nb (by rw [<-c];exact h1))];exact h2),nb,g5.tna⟩
  have aGg:cP S2 (aM S5 b (.row (iF {Dy B.me with ht:=B.ht,dI:=some a} (.ptr q 0) tv kv) 82)):=λj o e=>by
   rw [aC (λc=>by have:=nw b (.inl rfl);rw [c,this]at e;cases e)];exact aRo _ _ e
  have hn6:As S2 (aM S5 b (.row (iF {Dy B.me with ht:=B.ht,dI:=some a} (.ptr q 0) tv kv) 82)) b {Dy B.me with ht:=B.ht,dI:=B.dI}:=by
   rw [hb];refine⟨_,⟨.ptr q 0,tv,kv,_,gg,rfl⟩,aGg,λj hj=>?_⟩;rcases hj with hj | hj | hj | hj
   ·exact nw j (.inl hj)
   ·exact nw j (.inr (.inl hj))
   ·exact nw j (.inr (.inr (.inl hj)))
   ·refine Dv.none ?_
    rcases hj with rfl | rfl | rfl<;>assumption
  generalize aM S5 b (.row (iF {Dy B.me with ht:=B.ht,dI:=some a} (.ptr q 0) tv kv) 82)=S6 at aGg hn6;have a3:LD r1 3 S6 (nz a.s.h):=fD (aGg _ _ rr1) (by unfold UL Wy;rw [hb];rfl);have a4:LD r1 4 S6 (nz a.s.n):=fD (aGg _ _ rr1) (by unfold UL Wy;rw [hb];rfl);have a5:LD r1 5 S6 (nz a.s.t):=fD (aGg _ _ rr1) (by unfold UL Wy;rw [hb];rfl);have f0:∀{k:V->Prop},bF 0 (.ptr r1 3) k=k (.ptr r1 3):=λ{k}=>rfl;have f1:∀{k:V->Prop},bF 1 (.ptr r1 3) k=k (.ptr r1 4):=λ{k}=>rfl;have f2:∀{k:V->Prop},bF 2 (.ptr r1 3) k=k (.ptr r1 5):=λ{k}=>rfl;obtain⟨p0,p1,p2,Pb,p19,q4,q5,q6⟩:=ld aGg;have vs1:LB .neq 26 (.int .i64 0) (.int .i64 (.ofNat 0)) (.bool false):=λ{k}=>vs0;have ch:LB .neq 3 (nz a.s.h) (nz B.ht) (.bool false):=λ{k}=>by rw [gD,aU ah];rfl
  have cn:LB .neq 3 (nz a.s.n) (nz 4) (.bool false):=λ{k}=>by rw [gD,aU an];rfl
  have ct:LB .neq 3 (nz a.s.t) (nz 1) (.bool false):=λ{k}=>by rw [gD,aU at_];rfl
  rw [vs1]
  repeat (first | rw [aL] | rw [aI] | rw [aG] | rw [f0] | rw [f1] | rw [f2] | rw [a3] | rw [a4] | rw [a5] | rw [p0] | rw [q5] | rw [q6] | rw [ch] | rw [cn] | rw [ct] | rw [fA] | rw [cF] | dsimp only)
  exact jn S6 hn6
end
def Wx(ms:List Int)(B:Bd)(out:List Ms):List Ms:=if B.dec=[]then out else if 0<=uK ms B.me then out++Gi B.me B.ht B.dec else out
def Bd.goes(g:Ba->Ba×List Mg)(ms:List Int)(B:Bd):Bd×List Ms:=if B.dec=[]then(match B.dI with | some a=>({B with dI:=some (g a).1,dec:=(g a).1.s.dec},JX B.me ms (g a).2) | none=>(B,[]))else(B,[])
def Bd.Nk(g:Ba->Ba×List Mg)(ms:List Int)(B:Bd):Bd×List Ms:=if(B.dec=[]/\B.ht<=64)/\RZ ms=true then
 ((((B.gP ms).open_ ms).goes g ms).1,Wx ms (((B.gP ms).open_ ms).goes g ms).1 (((B.gP ms).open_ ms).goes g ms).2)else(B,[])
section
variable{M d:Nat}{x:VE}{S:Hp}{K:KV}{b:Nat}{B:Bd}{sd:Nat->Prop}
theorem aLY(hM:100000<M)(hx:DP M (d+2) x){Ss:Hp}{bv tv kv vo:V}(rb:Ss b=some (.row (iF B bv tv kv) 82)){out:List Ms}(hA:OL Ss S vo (pE out) out.length)(hle:cP Ss S)(Ej:out.length<=100000){O:Tag}{ms:List Int}(DT:ms.length<1000)
 (hK:∀O,K (.list O (pE (Wx ms B out)) (Wx ms B out).length) Ss):fZ x (.ptr b 0) (.list O (OV ms) ms.length) vo S K:=by
 rw [KN _ (by rw [hx.most];omega)];unfold rB;refine aH ?_;have m14:LD b 14 S (.str B.dec):=fD (hle _ _ rb) rfl;have m12:LD b 12 S (nz B.me):=fD (hle _ _ rb) rfl;have m4:LD b 4 S (ni 5):=fD (hle _ _ rb) rfl;have q93:LB .neq 9 (.str B.dec) (.str []) (.bool (!decide (B.dec=[]))):=λ{k}=>rfl;unfold Wx at hK;rw [aV,aG,m14,q93];by_cases e:B.dec=[]
 ·rw [if_pos e]at hK
  rw [aU e,eH]
  repeat (first | rw [aL] | rw [yG] | rw [fA] | rw [cF] | dsimp only)
  exact hA.ret hle hK
 ·rw [if_neg e]at hK
  rw [aR e,iH]
  repeat (first | rw [aL] | rw [aI] | rw [aV] | rw [aG] | rw [m12] | dsimp only)
  refine hx.call (show gT mK=none from rfl) λz hz=>?_;rw [CE];unfold rS;refine aDn (d:=d) hz (by omega) (by omega) ?_;rw [kG];refine aF ?_
  try dsimp only
  by_cases e2:0<=uK ms B.me
  ·rw [if_pos e2]at hK
   rw [aU (show Int.ofNat 0<=uK ms B.me from e2)];have a2:LB .add 3 (ni 5) (.int .i64 (.ofNat 1)) (ni 6):=λ{k}=>fP (by omega)
   repeat (first | rw [aL] | rw [aI] | rw [kB] | rw [eY] | rw [aV] | rw [aG] | rw [m4] | rw [a2] | dsimp only)
   exact aNX rb hK Ej 6 0 x.most S vo out (by omega) (by rw [hx.most];omega) rfl (by omega) hle hA
  ·rw [if_neg e2]at hK
   rw [aR (show ¬Int.ofNat 0<=uK ms B.me from e2)]
   repeat (first | rw [aL] | rw [aI] | rw [kB] | rw [cF] | dsimp only)
   exact hA.ret hle hK
theorem Rh{me:Int}{ms:List Int}{l:List Mg}(h:ms.length<=10):(JX me ms l).length<=l.length*10:=by
 induction l with
 | nil=>exact gF _
 | cons g l ih=>
  have:(yH me g ms).length<=ms.length:=by unfold yH;rw [jB];exact DU _ _
  show(yH me g ms++JX me ms l).length<=_;rw [bH,qS];omega
structure aRn(M d:Nat)(x:VE)(fv:V)(g:Ba->Ba×List Mg)(want:List UInt8)(may:List (List UInt8))(Ow:Tag):Prop where
 len:∀a,(g a).2.length<=2000
 go:∀{S:Hp} {K:KV} {q t m:Nat} {a:Ba},vP S q t m 124 a->(pU S q t m 124 (g a).1 λS'=>∀O,K (.list O (OK (g a).2) (g a).2.length) S')->fK x fv [.ptr q 0,.str want,.list Ow (eF may) may.length] S K
theorem aJi(hM:100000<M)(Xk:M<=125000)(hx:DP M (d+12) x){O Ow:Tag}{ms:List Int}(DT:ms.length<100000)(h:rV S b B sd)(hl:B.kept.length<90000)(pQ:∀m∈B.kept,m.kind<256)(hs:Du B.told)(hht:1<=B.ht/\B.ht<=1000)
 {want:List UInt8} {may:List (List UInt8)} {fv:V} {g:Ba->Ba×List Mg} (hg:∀y,DP M (d+11) y->aRn M d y fv g want may Ow)
 (hK:∀S' KT,rV S' b (B.Nk g ms).1 KT->Ds sd S S' KT->∀O,K (.list O (pE (B.Nk g ms).2) (B.Nk g ms).2.length) S'):
 x.call aJ [.ptr b 0,.list O (OV ms) ms.length,.str want,.list Ow (eF may) may.length,fv] S K:=by
 refine hx.call rfl λy hy=>?_;rw [Dj];unfold LX;have hm:y.most≠0:=by rw [hy.most];omega
 obtain⟨bv,tv,kv,SB,g0,rfl⟩:=h;have UJ:LD b 14 S (.str B.dec):=fD g0.row rfl;have ON:LD b 13 S (nz B.ht):=fD g0.row rfl;have WY:LD b 12 S (nz B.me):=fD g0.row rfl;have l5:LD b 5 S (nz 4):=fD g0.row rfl;have l6:LD b 6 S (nz 1):=fD g0.row rfl;have MD:LD b 15 S bv:=fD g0.row rfl;have q9:LB .neq 9 (.str B.dec) (.str []) (.bool (!decide (B.dec=[]))):=λ{k}=>rfl;have qh:LB .gtr 3 (nz B.ht) (.int .i64 (.ofNat 64)) (.bool (decide (64<B.ht))):=λ{k}=>by rw [jR];rfl
 have rest:∀S1 sd1,RZ ms=true->B.dec=[]->B.ht<=64->rV S1 b (B.gP ms) sd1->Ds (Own b tv kv SB) S S1 sd1->qP y (.ptr b 0) (.list O (OV ms) ms.length) (.str want) (.list Ow (eF may) may.length) fv S1 K:=λS1 sd1 hc hd h64 h1 f1=>by
  unfold Bd.Nk at hK;rw [if_pos ⟨⟨hd,h64⟩,hc⟩]at hK;obtain⟨c1,c2⟩:=Aq hc;have DT:ms.length<1000:=by omega
  rw [OU _ hm];unfold pK;refine aH ?_;refine aNW (d:=d+6) (B:=B.gP ms) hM hy DT c2 h1 hl pQ hs rfl λS2 sd2 h2 f2=>?_;have TC:((B.gP ms).open_ ms).dI.isSome=true:=aGf rfl;generalize (B.gP ms).open_ ms=B2 at h2 TC hK;obtain⟨bv2,tv2,kv2,SB2,g2,rfl⟩:=h2;have m14:LD b 14 S2 (.str B2.dec):=fD g2.row rfl;have m15:LD b 15 S2 bv2:=fD g2.row rfl;have q92:LB .eql 9 (.str B2.dec) (.str []) (.bool (decide (B2.dec=[]))):=λ{k}=>rfl;rw [aV,aG,m14,q92];unfold Bd.goes at hK;cases e:decide (B2.dec=[])with
  | false=>
   rw [cF];rw [if_neg (Bb e)]at hK;exact aLY (d:=d+9) hM hy g2.row (out:=[]) .nil (λ_ _ e=>e) (by simp) DT (hK S2 _ ⟨bv2,tv2,kv2,SB2,g2,rfl⟩ (f1.trans f2))
  | true=>
   rw [eY,aV,aG,m15];rw [if_pos (MI e)]at hK;obtain⟨me,ht,dec,dI,told,kept⟩:=B2;have gb:=g2.dI;have gnb:=g2.nb;cases gb with
   | no=>cases TC
   | @is q t m a kb=>
    refine(hg y hy).go kb λS3 c3 kb3 O3=>?_;have hlen:=(hg y hy).len a;have kp:∀j o,¬(j=q\/j=t\/j=m)->S2 j=some o->S3 j=some o:=λj o h1 h2=>by rw [c3 j (λc=>h1 (.inl c)) (λc=>h1 (.inr (.inr c)))];exact h2
    have g3:Brd S3 b {me:=me,ht:=ht,dec:=dec,dI:=some (g a).1,told:=told,kept:=kept} (.ptr q 0) tv2 kv2 (λj=>j=q\/j=t\/j=m):=by
     refine⟨kp _ _ gnb g2.row,?_,?_,.is kb3,gnb,g2.tna⟩
     ·exact g2.told.but λj o h1 h2=>kp j o (λc=>g2.told.aGa g2.dI h1 c) h2
     ·exact g2.kept.but λj o h1 h2=>kp j o (λc=>g2.kept.aGa g2.dI h1 c) h2
    have f3:Ds (Own b tv2 kv2 λj=>j=q\/j=t\/j=m) S2 S3 (Own b tv2 kv2 λj=>j=q\/j=t\/j=m):=⟨λj o hn e=>kp j o (λc=>hn (.inr (.inr (.inr c)))) e,λj hj=> .inl hj⟩;have hK:∀S' KT,rV S' b {me:=me,ht:=ht,dec:=(g a).1.s.dec,dI:=some (g a).1,told:=told,kept:=kept} KT->Ds (Own b tv kv SB) S S' KT->∀O,K (.list O (pE (Wx ms {me:=me,ht:=ht,dec:=(g a).1.s.dec,dI:=some (g a).1,told:=told,kept:=kept} (JX me ms (g a).2))) (Wx ms {me:=me,ht:=ht,dec:=(g a).1.s.dec,dI:=some (g a).1,told:=told,kept:=kept} (JX me ms (g a).2)).length) S':=hK;have lz:∀{k:V->Prop},dC (.list O3 (OK (g a).2) (g a).2.length) k=k (ni (g a).2.length):=λ{k}=>rfl;rw [lz];have Ed:=Rh (me:=me) (l:=(g a).2) (show ms.length<=10 by omega);refine aLq (d:=d+10) (bv:= .ptr q 0) (tv:=tv2) (kv:=kv2) (B:={me:=me,ht:=ht,dec:=dec,dI:=some (g a).1,told:=told,kept:=kept}) (Ss:=S3) g3.row hy.most hM DT hlen rfl kb3 hy (λS4 u Dv hA4=>?_) (by omega) (g a).2.length 0 y.most S3 .nil [] (by omega) (by rw [hy.most];omega) (by rw [DX];rfl) (by simp) (λ_ _ e=>e) .nil;rw [aV,aG,RX (Dv _ _ g3.row) (aW rfl) rfl];have BS:(iF {me:=me,ht:=ht,dec:=dec,dI:=some (g a).1,told:=told,kept:=kept} (.ptr q 0) tv2 kv2).set 14 (.str (g a).1.s.dec)=iF {me:=me,ht:=ht,dec:=(g a).1.s.dec,dI:=some (g a).1,told:=told,kept:=kept} (.ptr q 0) tv2 kv2:=rfl;rw [BS];have g4:=g3.setRow (B':={me:=me,ht:=ht,dec:=(g a).1.s.dec,dI:=some (g a).1,told:=told,kept:=kept}) rfl rfl rfl;have f4:Ds (Own b tv2 kv2 λj=>j=q\/j=t\/j=m) S3 (aM S3 b (.row (iF {me:=me,ht:=ht,dec:=(g a).1.s.dec,dI:=some (g a).1,told:=told,kept:=kept} (.ptr q 0) tv2 kv2) 82)) (Own b tv2 kv2 λj=>j=q\/j=t\/j=m):=⟨λj o hn e=>by rw [aC (λc=>hn (.inl c))];exact e,λj hj=> .inl hj⟩;refine aLY (d:=d+9) hM hy (Ss:=aM S3 b (.row (iF {me:=me,ht:=ht,dec:=(g a).1.s.dec,dI:=some (g a).1,told:=told,kept:=kept} (.ptr q 0) tv2 kv2) 82)) (out:=JX me ms (g a).2) aB (hA4.stb g3.row) (λj o e=>?_) (by omega) DT (hK _ _ ⟨_,_,_,_,g4,rfl⟩ (((f1.trans f2).trans f3).trans f4));by_cases c:j=b
    ·subst c;rw [aB]at e ⊢;exact e
    ·rw [aC c]at e ⊢;exact Dv _ _ e
 have stop:¬((B.dec=[]/\B.ht<=64)/\RZ ms=true)->aQ .nil S K:=λhn=>by
  unfold Bd.Nk at hK;rw [if_neg hn]at hK;exact(OL.nil (Ss:=S)).ret (λ_ _ e=>e) (hK S _ ⟨bv,tv,kv,SB,g0,rfl⟩ (.refl _ _))
 rw [Rc];cases e1:decide (B.dec=[])with
 | false=>
  rw [e1,iH]at q9
  repeat (first | rw [aL] | rw [aI] | rw [EN] | rw [aV] | rw [aG] | rw [UJ] | rw [q9] | rw [fA] | rw [kB] | rw [eY] | dsimp only)
  exact stop λc=>Bb e1 c.1.1
 | true=>
  rw [e1,eH]at q9;cases e2:decide (64<B.ht)with
  | true=>
   rw [e2]at qh
   repeat (first | rw [aL] | rw [aI] | rw [EN] | rw [aV] | rw [aG] | rw [UJ] | rw [ON] | rw [q9] | rw [qh] | rw [fA] | rw [kB] | rw [eY] | dsimp only)
   exact stop λc=>by have:=MI e2;omega
  | false=>
   rw [e2]at qh
   repeat (first | rw [aL] | rw [aI] | rw [EN] | rw [aV] | rw [aG] | rw [UJ] | rw [ON] | rw [q9] | rw [qh] | rw [fA] | rw [kB] | dsimp only)
   refine aBk (d:=d+9) hM hy (by omega) g0.row ?_;cases e3:RZ ms with
   | false=>
    have nt:∀{k:V->Prop},JC .not (.bool false) k=k (.bool true):=λ{k}=>rfl
    repeat (first | rw [aL] | rw [aI] | rw [nt] | rw [fA] | rw [eY] | dsimp only)
    exact stop λc=>by rw [e3]at c;cases c.2
   | true=>
    have nt:∀{k:V->Prop},JC .not (.bool true) k=k (.bool false):=λ{k}=>rfl;have hd:=MI e1;have h64:B.ht<=64:=by have:=Bb e2;omega
    repeat (first | rw [aL] | rw [aI] | rw [nt] | rw [fA] | rw [cF] | rw [aV] | rw [aG] | rw [MD] | dsimp only)
    obtain⟨me,ht,dec,dI,told,kept⟩:=B;have gb:=g0.dI;cases gb with
    | @is q t m a kb=>
     have ne:LB .eql 80 (.ptr q 0) .lU (.bool false):=λ{k}=>propext ⟨λh=>h.2.2.2.2,λh=>⟨rfl,EL,.inr rfl,λe=>absurd e (by decide),h⟩⟩;rw [ne,cF];exact rest S _ e3 hd h64 ⟨_,tv,kv,_,g0,rfl⟩ (.refl _ _)
    | no=>
     have ne:LB .eql 80 .lU .lU (.bool true):=λ{k}=>propext ⟨λh=>h.2.2.2.2,λh=>⟨rfl,EL,.inr rfl,λ_ _ e=>(by cases e),h⟩⟩;rw [ne,eY]
     repeat (first | rw [aV] | rw [aG] | rw [ON] | rw [l5] | rw [l6] | rw [WY])
     refine aDn (d:=d+10) hy (by omega) (by omega) ?_
     have ad:LB .add 3 (nz (uK ms me)) (.int .i64 (.ofNat 1)) (nz (uK ms me+1)):=λ{k}=>by
      rw [iM]
      congr 2
      have:=Ik (ms:=ms) (z:=me);exact wrap_small (by simp only [lR];omega) (by simp only [lR];omega)
     repeat (first | rw [ON] | rw [l5] | rw [l6] | rw [aJf] | rw [ad])
     have ok:bOk ht 4 1 (uK ms me+1):=by
      have h1:=Ik (ms:=ms) (z:=me);have h2:=(Aq e3).1;exact⟨by omega,⟨hht.1,h64⟩,by omega,by omega,by omega,by omega⟩
     refine aIJ (n:=d+9) rfl rfl hy (λc=>absurd ok c) λ_ m t q hm0 htm ht0 hqt hqm hq0=>?_;refine xM rfl ?_;refine xM rfl ?_
     have le:cP S (aM (aM (aM S m (.map [])) t (.row [.int .i64 4,.sP m] 160)) q (.row (lM (.start ht 4 1 (uK ms me+1)) t) 124)):=
      ((cP.aN hm0).trans (.aN (by rw [aC htm];exact ht0))).trans (.aN (by rw [aC hqt,aC hqm];exact hq0))
     have kb:vP (aM (aM (aM S m (.map [])) t (.row [.int .i64 4,.sP m] 160)) q (.row (lM (.start ht 4 1 (uK ms me+1)) t) 124)) q t m 124 ⟨.start ht 4 1 (uK ms me+1),[]⟩:=
      ⟨aB,⟨[],⟨by rw [aC (dB hqt)];exact aB,by rw [aC (dB hqm),aC (dB htm)];exact aB⟩,.refl _⟩,gY.start ok,hqt,hqm,htm⟩
     have g1:=g0.up le;generalize aM (aM (aM S m (.map [])) t (.row [.int .i64 4,.sP m] 160)) q (.row (lM (.start ht 4 1 (uK ms me+1)) t) 124)=S1 at le kb g1;rw [aV,aG,RX g1.row (aW rfl) rfl];have nb1:∀j,(j=q\/j=t\/j=m)->S j=none:=λj hj=>by rcases hj with rfl | rfl | rfl<;>assumption
     have nb0:¬(b=q\/b=t\/b=m):=λc=>by have:=nb1 _ c;rw [g0.row]at this;cases this
     have n1:¬tM tv b:=g1.told.nat g1.row;have n2:¬tM kv b:=g1.kept.nat g1.row;refine rest _ (Own b tv kv λj=>j=q\/j=t\/j=m) e3 hd h64 ⟨.ptr q 0,tv,kv,_,⟨aB,g1.told.set n1,g1.kept.set n2,.is (kb.but λj p h1 h2=>by rw [aC (λc=>nb0 (by rw [<-c];exact h1))];exact h2),nb0,g0.tna⟩,rfl⟩ ⟨λj o hn e=>by rw [aC (λc=>hn (.inl c))];exact le _ _ e,λj hj=>?_⟩;rcases hj with hj | hj | hj | hj
     ·exact .inl (.inl hj)
     ·exact .inl (.inr (.inl hj))
     ·exact .inl (.inr (.inr (.inl hj)))
     ·exact .inr (nb1 j hj)
end
def KH(a b:Ba):Prop:=b.s.h=a.s.h/\b.s.n=a.s.n/\b.s.t=a.s.t
namespace KH
theorem refl(a:Ba):KH a a:=⟨rfl,rfl,rfl⟩
theorem trans{a b c:Ba}(h:KH a b)(k:KH b c):KH a c:=⟨k.1.trans h.1,k.2.1.trans h.2.1,k.2.2.trans h.2.2⟩
theorem put(a:Ba)(v:Vo):KH a (a.put v):=by unfold KH;rw [gY.Qv];exact⟨rfl,rfl,rfl⟩
theorem say(a:Ba)(k:Nat)(vl:Int)(tx:List UInt8):KH a (a.say k vl tx).1:=put a _
theorem lZ(a:Ba)(tx:List UInt8)(f:Bool):KH a (a.lZ tx f).1:=(show KH a (a.to 2)from⟨rfl,rfl,rfl⟩).trans (say _ _ _ _)
theorem BB(a:Ba)(want:List UInt8)(may:List (List UInt8))(k:Nat):KH a (a.BB want may k).1:=by
 unfold Ba.BB;split
 ·unfold Ba.xP;split<;>exact⟨rfl,rfl,rfl⟩
 ·unfold Ba.skip;split<;>exact⟨rfl,rfl,rfl⟩
 ·unfold Ba.fresh
  split
  ·split
   ·exact lZ _ _ _
   ·exact refl a
  ·exact refl a
 ·unfold Ba.old
  split
  ·split
   ·exact lZ _ _ _
   ·exact refl a
  ·exact refl a
 ·unfold Ba.lock
  split
  ·split
   ·split
    ·exact⟨rfl,rfl,rfl⟩
    ·exact KH.trans (b:=⟨_,_⟩) ⟨rfl,rfl,rfl⟩ (say _ _ _ _)
   ·exact refl a
  ·exact refl a
 ·unfold Ba.nothing
  split
  ·exact(show KH a (a.to 3)from⟨rfl,rfl,rfl⟩).trans (say _ _ _ _)
  ·exact refl a
 ·unfold Ba.vZ
  split
  ·exact KH.trans (b:=⟨_,_⟩) ⟨rfl,rfl,rfl⟩ (say _ _ _ _)
  ·exact refl a
theorem from_(a:Ba)(want:List UInt8)(may:List (List UInt8)):∀(n k:Nat),KH a (a.from_ want may n k).1:=by
 intro n;induction n with
 | zero=>intro k;exact refl a
 | succ n ih=>
  intro k;unfold Ba.from_;split
  ·exact BB a want may k
  ·exact ih (k+1)
theorem run(want:List UInt8)(may:List (List UInt8)):∀(n:Nat) (a:Ba) (out:List Mg),KH a (Ba.run want may n a out).1:=by
 intro n;induction n with
 | zero=>intro a out;exact refl a
 | succ n ih=>
  intro a out;unfold Ba.run;split
  ·split
   ·exact(from_ a want may _ _).trans (ih _ _)
   ·exact refl a
  ·exact refl a
theorem UI(a:Ba)(want:List UInt8)(may:List (List UInt8)):KH a (a.UI want may).1:=run want may 1000 a []
theorem late(a:Ba):KH a a.late.1:=by
 unfold Ba.late;split
 ·exact(show KH a (a.to 2)from⟨rfl,rfl,rfl⟩).trans (say _ _ _ _)
 ·split
  ·split
   ·exact(show KH a (a.to 3)from⟨rfl,rfl,rfl⟩).trans (say _ _ _ _)
   ·exact refl a
  ·split
   ·exact⟨rfl,rfl,rfl⟩
   ·exact refl a
theorem tick(a:Ba)(want:List UInt8)(may:List (List UInt8)):KH a (a.tick want may).1:=by
 refine KH.trans ?_ (UI (a.AV want).1 want may);unfold Ba.AV;split
 ·split
  ·exact(show KH a a.xG from⟨rfl,rfl,rfl⟩).trans (late _)
  ·exact⟨rfl,rfl,rfl⟩
 ·exact refl a
theorem WT(a:Ba)(fr:Int)(k:Nat)(h r vl:Int)(tx:List UInt8):KH a (a.WT fr k h r vl tx):=by
 unfold Ba.WT;split
 ·exact put _ _
 ·exact refl a
end KH
theorem aEH{m:Ms}(h:Al m=true):m.text.length<=2048/\m.nums.length<=1024:=by
 unfold Al LZ at h;simp only [PD,List.all_nil,id,bW,decide_eq_true_eq]at h;exact h.2.2.2.2.2.2.2.2.2.2.2.1
theorem aJx{m:Ms}(h:Al m=true)(hk:m.kind=5):m.text≠[]:=by
 unfold Al LZ at h;simp only [PD,List.all_nil,id,bW]at h;have h1:=h.2.2.2.2.2.2.2.2.2.1.2;rw [hk,show FZ 5 256=true from by decide]at h1;simpa using h1
section
variable{B:Bd}{ms:List Int}{m:Ms}{g:Ba->Ba×List Mg}
theorem BI.MA(h:BI B)(h64:B.ht<=64){z:Int}{tx:List UInt8}(hz:1<=z/\z<=5)(ht:tx≠[]/\tx.length<=2048):BI (B.MA z tx)/\(B.MA z tx).ht<=64:=by
 unfold Bd.MA;cases e:Ni B.told z with
 | true=>exact⟨h,h64⟩
 | false=>
  refine⟨⟨h.me,h.ht,?_,λ_=>h64,h.dI,(h.HE.ins e (by omega)).1,λp hp=>?_,h.kept,h.unl⟩,h64⟩
  ·show(if 1<Pa (uL B.told (z,tx)) tx then tx else B.dec).length<=2048
   split
   ·exact ht.2
   ·exact h.dec
  ·have hp:p∈uL B.told (z,tx):=hp
   rw [aJa]at hp;exact(Nj hp).elim (λe=>by subst e;exact⟨hz.1,hz.2,ht.1,ht.2⟩) (h.told p)
theorem BI.vO(hms:∀z∈ms,1<=z/\z<=5)(hm:Al m=true)(h:BI B/\B.ht<=64):BI (B.vO ms m)/\(B.vO ms m).ht<=64:=by
 unfold Bd.vO;by_cases e:uK ms m.fr= -1
 ·rw [aU e];exact h
 ·rw [aR e]
  split
  ·exact h
  ·split
   ·rename_i hk
    exact h.1.MA h.2 (hms _ (aBn e)) ⟨aJx hm hk,(aEH hm).1⟩
   ·refine⟨⟨h.1.me,h.1.ht,h.1.dec,h.1.dht,λa ha=>?_,h.1.OJ,h.1.told,h.1.kept,h.1.unl⟩,h.2⟩
    have ha:(B.dI.map λa=>a.WT (uK ms m.fr+1) m.kind m.ht m.rd m.vl m.text)=some a:=ha;cases hb:B.dI with
    | none=>rw [hb]at ha;cases ha
    | some a0=>
     rw [hb]at ha;injection ha with ha;subst ha;obtain⟨i,q1,q2,q3⟩:=h.1.dI a0 hb;have k:=KH.WT a0 (uK ms m.fr+1) m.kind m.ht m.rd m.vl m.text;exact⟨i.WT _ _ _ _ _ _,k.1.trans q1,k.2.1.trans q2,k.2.2.trans q3⟩
theorem BI.aPJ(hms:∀z∈ms,1<=z/\z<=5):∀(l:List Ms) {B:Bd},(∀m∈l,Al m=true)->BI B/\B.ht<=64->BI (l.foldl (Bd.vO ms) B)/\(l.foldl (Bd.vO ms) B).ht<=64:=by
 intro l;induction l with
 | nil=>intro B _ h;exact h
 | cons m l ih=>intro B hl h;exact ih (λa ha=>hl a (.tail _ ha)) (BI.vO hms (hl m (.head _)) h)
theorem aDs{ms:List Int}{B:Bd}{m:Ms}:(B.vO ms m).kept=B.kept:=by unfold Bd.vO;split;rfl;split;exact aGe;rfl
theorem aBt{ms:List Int}{l:List Ms}:∀{B:Bd},(l.foldl (Bd.vO ms) B).kept=B.kept:=by
 induction l with
 | nil=>intro B;rfl
 | cons m l ih=>intro B;rw [PA,ih,aDs]
theorem BI.aRs(h:BI B)(p:Ms->Bool):BI {B with kept:=B.kept.filter p}:=⟨h.me,h.ht,h.dec,h.dht,h.dI,h.OJ,h.told,λm hm=>h.kept m (gE.1 hm).1,h.unl.filter p⟩
theorem BI.open_(hms:∀z∈ms,1<=z/\z<=5)(h:BI B/\B.ht<=64):BI (B.open_ ms)/\(B.open_ ms).ht<=64:=by
 unfold Bd.open_;exact BI.aPJ hms _ (λm hm=>(h.1.kept m (gE.1 hm).1).1) ⟨h.1.aRs _,h.2⟩
theorem BI.gP(hc:ms.length=4)(h:BI B)(h64:B.ht<=64):BI (B.gP ms):=by
 refine⟨h.me,h.ht,h.dec,h.dht,λa ha=>?_,h.OJ,h.told,h.kept,h.unl⟩;have ha:some (B.dI.getD ⟨.start B.ht 4 1 (uK ms B.me+1),[]⟩)=some a:=ha;injection ha with ha;subst ha;cases hb:B.dI with
 | some a=>exact h.dI a hb
 | none=>
  have h1:=Ik (ms:=ms) (z:=B.me);have h2:=h.ht;exact⟨gY.start ⟨by omega,⟨h2.1,h64⟩,by omega,by omega,by omega,by omega⟩,rfl,rfl,rfl⟩
def Kps(g:Ba->Ba×List Mg):Prop:=∀a,gY a->gY (g a).1/\KH a (g a).1
theorem Kps.UI(want:List UInt8)(may:List (List UInt8)):Kps λa=>a.UI want may:=λa i=>⟨i.UI want may,KH.UI a want may⟩
theorem Kps.tick(want:List UInt8)(may:List (List UInt8)):Kps λa=>a.tick want may:=λa i=>⟨i.tick want may,KH.tick a want may⟩
theorem BI.goes(hg:Kps g)(h:BI B/\B.ht<=64):BI (B.goes g ms).1:=by
 unfold Bd.goes;split
 ·split
  ·rename_i a ha
   obtain⟨i,q1,q2,q3⟩:=h.1.dI a ha;obtain⟨i2,k⟩:=hg a i;refine⟨h.1.me,h.1.ht,i2.dec,λ_=>h.2,λb hb=>?_,h.1.OJ,h.1.told,h.1.kept,h.1.unl⟩;injection hb with hb;subst hb;exact⟨i2,k.1.trans q1,k.2.1.trans q2,k.2.2.trans q3⟩
  ·exact h.1
 ·exact h.1
theorem BI.Nk(hg:Kps g)(h:BI B):BI (B.Nk g ms).1:=by
 unfold Bd.Nk;split
 ·rename_i hc
  obtain⟨c1,c2⟩:=Aq hc.2;exact BI.goes hg (BI.open_ c2 ⟨h.gP c1 hc.1.2,hc.1.2⟩)
 ·exact h
theorem aBu:(B.Nk g ms).1.kept.length<=B.kept.length:=by
 unfold Bd.Nk;split
 ·have:(((B.gP ms).open_ ms).goes g ms).1.kept=((B.gP ms).open_ ms).kept:=by
   unfold Bd.goes;split
   ·split<;>rfl
   ·rfl
  show(((B.gP ms).open_ ms).goes g ms).1.kept.length<=_;rw [this];unfold Bd.open_;rw [aBt];exact DU _ _
 ·exact bI _
theorem aEI(hg:∀a,(g a).2.length<=2000):(B.Nk g ms).2.length<100000/\∀m∈(B.Nk g ms).2,m.nums.length<=1024:=by
 unfold Bd.Nk;split
 ·rename_i hc
  obtain⟨c1,_⟩:=Aq hc.2
  have h1:(((B.gP ms).open_ ms).goes g ms).2.length<=20000/\∀m∈(((B.gP ms).open_ ms).goes g ms).2,m.nums=[]:=by
   unfold Bd.goes;split
   ·split
    ·rename_i a _
     have:=Rh (me:=((B.gP ms).open_ ms).me) (l:=(g a).2) (show ms.length<=10 by omega);have:=hg a;refine⟨by show(JX ((B.gP ms).open_ ms).me ms (g a).2).length<=20000;omega,λm hm=>?_⟩;obtain⟨q,_,hq⟩:=Iw.1 hm;obtain⟨z,_,rfl⟩:=mF.1 hq;rfl
    ·exact⟨gF _,λm hm=>by cases hm⟩
   ·exact⟨gF _,λm hm=>by cases hm⟩
  have t1:∀(me ht:Int) (tx:List UInt8),(Gi me ht tx).length<=6/\∀m∈Gi me ht tx,m.nums=[]:=λme ht tx=>by
   refine⟨?_,λm hm=>?_⟩
   ·unfold Gi Rg
    rw [jB];exact DU _ _
   ·obtain⟨z,_,rfl⟩:=mF.1 hm
    rfl
  have t2:=t1 (((B.gP ms).open_ ms).goes g ms).1.me (((B.gP ms).open_ ms).goes g ms).1.ht (((B.gP ms).open_ ms).goes g ms).1.dec;have n0:∀{m:Ms},m.nums=[]->m.nums.length<=1024:=λh=>by rw [h];exact gF _
  show(Wx ms (((B.gP ms).open_ ms).goes g ms).1 (((B.gP ms).open_ ms).goes g ms).2).length<100000/\∀m∈Wx ms (((B.gP ms).open_ ms).goes g ms).1 (((B.gP ms).open_ ms).goes g ms).2,m.nums.length<=1024;unfold Wx;split
  ·exact⟨by omega,λm hm=>n0 (h1.2 m hm)⟩
  ·split
   ·refine⟨by rw [bH];omega,λm hm=>n0 ?_⟩
    rcases uP.1 hm with hm | hm
    ·exact h1.2 m hm
    ·exact t2.2 m hm
   ·exact⟨by omega,λm hm=>n0 (h1.2 m hm)⟩
 ·exact⟨by show 0<100000;omega,λm hm=>by cases hm⟩
theorem BI.take(h:BI B):BI (B.take m):=by
 unfold Bd.take;cases e:KP B.ht B.kept m with
 | false=>exact h
 | true=>
  unfold KP at e;simp only [bW,xR,Iq,Be]at e;obtain⟨⟨⟨⟨e1,e2⟩,e3⟩,e4⟩,e5⟩:=e;refine⟨h.me,h.ht,h.dec,h.dht,h.dI,h.OJ,h.told,λa ha=>?_,?_⟩
  ·rcases uP.1 (show a∈B.kept++[m]from ha)with ha | ha
   ·exact h.kept a ha
   ·obtain rfl:a=m:=by simpa using ha
    exact⟨e1,by omega,by omega,by show B.ht<=a.ht;omega⟩
  ·show(B.kept++[m]).Pairwise _
   rw [List.pairwise_append];refine⟨h.unl,aBB _ _,λa ha b hb=>?_⟩;obtain rfl:b=m:=by simpa using hb
   have:=e5 a ha;simpa using this
theorem aGi:(B.take m).kept.length<=B.kept.length+1:=by
 unfold Bd.take;split
 ·show(B.kept++[m]).length<=_
  rw [bH];exact bI _
 ·omega
theorem BI.next(h:BI B)(hd:B.dec≠[]):BI B.next:=by
 have h1:=h.ht;have h2:=h.dht hd;refine⟨h.me,⟨by show(1:Int)<=B.ht+1;omega,by show B.ht+1<=65;omega⟩,gF _,λc=>absurd rfl c,(λa ha=>by cases ha),.nil,(λp hp=>by cases hp),λm hm=>?_,h.unl.filter _⟩;obtain⟨q1,q2⟩:=gE.1 hm;obtain⟨k1,k2,k3,k4⟩:=h.kept m q1;have q2:¬m.ht<=B.ht:=by simpa using q2
 exact⟨k1,k2,k3,by show B.ht+1<=m.ht;omega⟩
theorem aGj:B.next.kept.length<=B.kept.length:=DU _ _
theorem BI.start{me:Int}(h:0<=me/\me<=5):BI (Dy me):=⟨h,⟨by show(1:Int)<=1;decide,by show(1:Int)<=65;decide⟩,gF _,λc=>absurd rfl c,(λa ha=>by cases ha),.nil,(λp hp=>by cases hp),(λm hm=>by cases hm),.nil⟩
theorem BI.nums(h:BI B):∀m∈B.kept,m.nums.length<=1024:=λm hm=>(aEH (h.kept m hm).1).2
theorem BI.ZA(h:BI B):(EO B.dI).length<=10000:=by
 cases hb:B.dI with
 | none=>exact gF _
 | some a=>
  have i:=(h.dI a hb).1;have:=RU i.OJ i.ok.1.2 λv hv=>(i.vs v hv).1;show a.l.length<=_;omega
end
section
variable{M d:Nat}{x:VE}{S:Hp}{K:KV}{B:Bd}
theorem aGh{t:TypeId}{k:IntKind}{z:Int}{q:V->Prop}:aD PP .neq t (.int k z) (.int k z) q=q (.bool false):=by rw [gD,aU rfl];rfl
theorem aN2{t:TypeId}{l:List UInt8}{q:V->Prop}:aD PP .neq t (.str l) (.str l) q=q (.bool false):=by rw [LO,aU rfl];rfl
theorem aRp{b:Bool}{q:V->Prop}:aD PP .neq 4 (.bool b) (.bool b) q=q (.bool false):=by simp [aD,aEd,aEq]
theorem aJq(hM:100000<M)(hx:DP M (d+1) x){m:Ms}{O1 O2:Tag}(hn:m.nums.length<=1024)(hK:K (.bool true) S):x.call FR [.agg (nW O1 m),.agg (nW O2 m)] S K:=by
 refine hx.call rfl λy hy=>?_;rw [Wa];unfold Ad gEf zE jK uM gQ gG;refine fR rfl λp hp=>?_;have eU:cP S (aM S p (.row (nW O1 m) 37)):= .aN hp;have rp:aM S p (.row (nW O1 m) 37) p=some (.row (nW O1 m) 37):=aB;generalize aM S p (.row (nW O1 m) 37)=S1 at eU rp;refine fR rfl λq hq=>?_;have lA:cP S1 (aM S1 q (.row (nW O2 m) 37)):= .aN hq;have rq:aM S1 q (.row (nW O2 m) 37) q=some (.row (nW O2 m) 37):=aB;have rp:=lA _ _ rp;generalize aM S1 q (.row (nW O2 m) 37)=S2 at lA rp rq;have hle:=eU.trans lA;have p0:LD p 0 S2 (n8 m.kind):=fD rp rfl;have p1:LD p 1 S2 (nz m.fr):=fD rp rfl;have p2:LD p 2 S2 (nz m.to):=fD rp rfl;have p3:LD p 3 S2 (nz m.ht):=fD rp rfl;have p4:LD p 4 S2 (nz m.rd):=fD rp rfl;have p5:LD p 5 S2 (nz m.vl):=fD rp rfl;have p6:LD p 6 S2 (nz m.ep):=fD rp rfl;have p7:LD p 7 S2 (nz m.dl):=fD rp rfl;have p8:LD p 8 S2 (nz m.id):=fD rp rfl;have p9:LD p 9 S2 (.str m.text):=fD rp rfl;have p10:LD p 10 S2 (.list O1 (m.nums.map λn=>Dt.int .u64 (.ofNat n)) m.nums.length):=fD rp rfl;have q0:LD q 0 S2 (n8 m.kind):=fD rq rfl;have q1:LD q 1 S2 (nz m.fr):=fD rq rfl;have q2:LD q 2 S2 (nz m.to):=fD rq rfl;have q3:LD q 3 S2 (nz m.ht):=fD rq rfl;have q4:LD q 4 S2 (nz m.rd):=fD rq rfl;have q5:LD q 5 S2 (nz m.vl):=fD rq rfl;have q6:LD q 6 S2 (nz m.ep):=fD rq rfl;have q7:LD q 7 S2 (nz m.dl):=fD rq rfl;have q8:LD q 8 S2 (nz m.id):=fD rq rfl;have q9:LD q 9 S2 (.str m.text):=fD rq rfl;have q10:LD q 10 S2 (.list O2 (m.nums.map λn=>Dt.int .u64 (.ofNat n)) m.nums.length):=fD rq rfl
 repeat (first | rw [aL] | rw [aI] | rw [fA] | rw [aG] | rw [aGh] | rw [aN2] | rw [cF] | rw [p0] | rw [p1] | rw [p2] | rw [p3] | rw [p4] | rw [p5] | rw [p6] | rw [p7] | rw [p8] | rw [p9] | rw [p10] | rw [q0] | rw [q1] | rw [q2] | rw [q3] | rw [q4] | rw [q5] | rw [q6] | rw [q7] | rw [q8] | rw [q9] | rw [q10] | rw [dV] | dsimp only)
 have go:∀(s i k:Nat),i+s=m.nums.length->s<k->sY y k (.ptr p 0) (.ptr q 0) (ni i) S2 K:=by
  intro s;induction s with
  | zero=>
   intro i k hi hk;obtain⟨k,rfl⟩:=KJ hk;rw [EZ];unfold wP gG;refine aH ?_;rw [aG,p10,dV,dW,BC (by omega),cF];exact cL hle hK
  | succ s ih=>
   intro i k hi hk;obtain⟨k,rfl⟩:=KJ hk;rw [EZ];unfold wP gG;refine aH ?_;have lN:i<m.nums.length:=by omega
   have e1:(m.nums.map λn=>Dt.int .u64 (.ofNat n))[i]? =some (.int .u64 (.ofNat m.nums[i])):=by rw [jA,aP lN];rfl
   rw [aG,p10,dV,dW,Gg lN,eY,aG,p10,nR lN,OE,lS,kF e1,aG,q10,nR lN,OE,lS,kF e1];show aD PP .neq 29 (nu m.nums[i]) (nu m.nums[i]) _;rw [aGh,cF,fP (by omega)];exact ih (i+1) k (by omega) (by omega)
 exact go m.nums.length 0 y.most (by omega) (by rw [hy.most];omega)
theorem aDq(hM:100000<M)(hx:DP M (d+2) x){l:List Ms}{O1 O2:Tag}(hl:l.length<100000)(hn:∀m∈l,m.nums.length<=1024)(hK:K (.bool true) S):x.call vV [.list O1 (pE l) l.length,.list O2 (pE l) l.length] S K:=by
 refine hx.call rfl λy hy=>?_;rw [Vz];unfold Ac;rw [dV,dV,aGh,cF]
 have go:∀(s i k:Nat),i+s=l.length->s<k->sX y k (.list O1 (pE l) l.length) (.list O2 (pE l) l.length) (ni i) S K:=by
  intro s;induction s with
  | zero=>
   intro i k hi hk;obtain⟨k,rfl⟩:=KJ hk;rw [EY];unfold wO;refine aH ?_;rw [dV,dW,BC (by omega),cF];exact aF hK
  | succ s ih=>
   intro i k hi hk;obtain⟨k,rfl⟩:=KJ hk;rw [EY];unfold wO;refine aH ?_;have lN:i<l.length:=by omega
   have Oy:=lB 11 lN;obtain⟨t1,et1⟩:=aLp (O:=O1) lN;obtain⟨t2,et2⟩:=aLp (O:=O2) lN;rw [dV,dW,Gg lN,eY,nR lN,BZ,fH (by rw [JV];omega),et1,nR lN,BZ,fH (by rw [JV];omega),et2];refine aJq (d:=d) hM hy (hn _ (nO lN)) ?_;rw [gX,eH,cF,fP (by omega)];exact ih (i+1) k (by omega) (by omega)
 exact go l.length 0 y.most (by omega) (by rw [hy.most];omega)
theorem aLu(hM:100000<M)(hx:DP M (d+1) x){O1 O2:Tag}{l:List (List UInt8)}(hl:l.length<100000)(hK:K (.bool true) S):x.call xO [.list O1 (eF l) l.length,.list O2 (eF l) l.length] S K:=by
 refine hx.call rfl λy hy=>?_;rw [Hb];unfold OI;rw [dV,dV,aGh,cF]
 have go:∀(s i k:Nat),i+s=l.length->s<k->pL y k (.list O1 (eF l) l.length) (.list O2 (eF l) l.length) (ni i) S K:=by
  intro s;induction s with
  | zero=>
   intro i k hi hk;obtain⟨k,rfl⟩:=KJ hk;rw [AT];unfold tB;refine aH ?_;rw [dV,dW,BC (by omega),cF];exact aF hK
  | succ s ih=>
   intro i k hi hk;obtain⟨k,rfl⟩:=KJ hk;rw [AT];unfold tB;refine aH ?_;have lN:i<l.length:=by omega
   have e1:(eF l)[i]? =some (.str l[i]):=by unfold eF;rw [jA,aP lN];rfl
   rw [dV,dW,Gg lN,eY,nR lN,OE,lS,kF e1,nR lN,OE,lS,kF e1];show aD PP .neq 9 (.str l[i]) (.str l[i]) _;rw [aN2,cF,fP (by omega)];exact ih (i+1) k (by omega) (by omega)
 exact go l.length 0 y.most (by omega) (by rw [hy.most];omega)
theorem aPF:ZI PP 91=some (.many [.int .i64,.str]):=by kernel_rfl
theorem aJr(hM:100000<M)(hx:DP M (d+3) x){O1 O2 O3 U1 U2 U3:Tag}(hv:(EO B.dI).length<=10000)(hto:B.told.length<90000)(hl:B.kept.length<90000)(hn:∀m∈B.kept,m.nums.length<=1024)(hK:K (.bool true) S):x.call FQ [.agg (UL B O1 O2 O3),.agg (UL B U1 U2 U3)] S K:=by
 refine hx.call rfl λy hy=>?_;rw [Wb];unfold Ae gEf zE jK uM gQ gG;refine fR (SX rfl rfl rfl) λp hp=>?_;have eU:cP S (aM S p (.row (UL B O1 O2 O3) 61)):= .aN hp;have rp:aM S p (.row (UL B O1 O2 O3) 61) p=some (.row (UL B O1 O2 O3) 61):=aB;show pO 61 (.agg (UL B U1 U2 U3)) (aM S p (.row (UL B O1 O2 O3) 61)) _;generalize aM S p (.row (UL B O1 O2 O3) 61)=S1 at eU rp;refine fR (SX rfl rfl rfl) λq hq=>?_;have lA:cP S1 (aM S1 q (.row (UL B U1 U2 U3) 61)):= .aN hq;have rq:aM S1 q (.row (UL B U1 U2 U3) 61) q=some (.row (UL B U1 U2 U3) 61):=aB;have rp:=lA _ _ rp;show bF 0 (.ptr p 0) λv2=>bJ v2 (aM S1 q (.row (UL B U1 U2 U3) 61)) _;generalize aM S1 q (.row (UL B U1 U2 U3) 61)=S2 at lA rp rq;have hle:=eU.trans lA;have p0:LD p 0 S2 (nz B.ht):=fD rp rfl;have p1:LD p 1 S2 (.str B.dec):=fD rp rfl;have p2:LD p 2 S2 (.bool B.dI.isSome):=fD rp rfl
 have p3:∀{K:KV},cU 15 (.ptr p 3) S2 K=K (.agg (iL (Dx B.dI) (.list O1 (wT (EO B.dI)) (EO B.dI).length))) S2:=λ{K}=>by
  rw [NB rp,fH (aW rfl)];rfl
 have Pb:LD p 18 S2 (.list O2 (GC B.told) B.told.length):=fD rp rfl;have p19:LD p 19 S2 (.list O3 (pE B.kept) B.kept.length):=fD rp rfl;have q0:LD q 0 S2 (nz B.ht):=fD rq rfl;have q1:LD q 1 S2 (.str B.dec):=fD rq rfl;have q2:LD q 2 S2 (.bool B.dI.isSome):=fD rq rfl
 have q3:∀{K:KV},cU 15 (.ptr q 3) S2 K=K (.agg (iL (Dx B.dI) (.list U1 (wT (EO B.dI)) (EO B.dI).length))) S2:=λ{K}=>by
  rw [NB rq,fH (aW rfl)];rfl
 have q18:LD q 18 S2 (.list U2 (GC B.told) B.told.length):=fD rq rfl;have q19:LD q 19 S2 (.list U3 (pE B.kept) B.kept.length):=fD rq rfl
 have go:∀(s i k:Nat),i+s=B.told.length->s<k->sZ y k (.ptr p 0) (.ptr q 0) (ni i) S2 K:=by
  intro s;induction s with
  | zero=>
   intro i k hi hk;obtain⟨k,rfl⟩:=KJ hk;rw [FA];unfold wQ gG;refine aH ?_;rw [aG,Pb,dV,dW,BC (by omega),cF];exact cL hle hK
  | succ s ih=>
   intro i k hi hk;obtain⟨k,rfl⟩:=KJ hk;rw [FA];unfold wQ gG;refine aH ?_;have lN:i<B.told.length:=by omega
   have Oy:=lB 2 lN;have tc:∀O:Tag,Tl O (i*2) (toC B.told[i])=TQ B.told[i]:=λO=>rfl;rw [aG,Pb,dV,dW,Gg lN,eY,aG,Pb,nR lN,BZ,fH (by rw [xQ];omega),XA (aP lN),tc,aG,q18,nR lN,BZ,fH (by rw [xQ];omega),XA (aP lN),tc];refine aBa aPF ⟨rfl,trivial,trivial⟩ ⟨rfl,trivial,trivial⟩ (λ_=>?_) λe=>absurd rfl e;rw [cF,fP (by omega)];exact ih (i+1) k (by omega) (by omega)
 repeat (first | rw [aL] | rw [aI] | rw [fA] | rw [aG] | rw [aGh] | rw [aN2] | rw [aRp] | rw [p0] | rw [p1] | rw [p2] | rw [p3] | rw [q0] | rw [q1] | rw [q2] | rw [q3] | dsimp only)
 refine aIY (n:=d) hM hy hv ?_
 repeat (first | rw [aL] | rw [aI] | rw [fA] | rw [aG] | rw [gX] | rw [eH] | rw [aGh] | rw [Pb] | rw [p19] | rw [q18] | rw [q19] | rw [dV] | dsimp only)
 refine aDq (d:=d) hM hy (by omega) hn ?_
 repeat (first | rw [aL] | rw [aI] | rw [fA] | rw [gX] | rw [eH] | rw [cF] | dsimp only)
 exact go B.told.length 0 y.most (by omega) (by rw [hy.most];omega)
end
section
variable{M d:Nat}{x:VE}{S:Hp}{K:KV}{B:Bd}
def stK(B:Bd)(v3:V):List V:=[nz B.ht,.str B.dec,.bool B.dI.isSome]++(iL Rb .nil++[.nil,v3])
theorem aJs{l:List Vo}{i:Nat}(h:i<l.length):wT (l.take (i+1))=wT (l.take i)++l[i].dt:=by
 rw [tO,aP h];unfold wT;rw [Rr]
 congr 1
theorem aJt{l:List (Int×List UInt8)}{i:Nat}(h:i<l.length):GC (l.take (i+1))=GC (l.take i)++toC l[i]:=by
 rw [tO,aP h,Ap]
 congr 1
theorem aPG(v:Vo):wA v.vv v.dt:= .cons (.root 0) _ (.cons (.root 0) _ (.cons (.root 0) _ (.cons (.root 0) _ (.cons (.root 0) _ .nil))))
theorem aDr:∀{new:List V} (pre rest:List V) {k:List V->Prop},new.all pN=true->new.length<=rest.length->k (pre++(new++rest.drop new.length))->vD (Nc pre.length new) (pre++rest) k:=by
 intro new;induction new with
 | nil=>intro pre rest k _ hl hk;exact hk
 | cons v new ih=>
  intro pre rest k ho hl hk;cases rest with
  | nil=>simp at hl
  | cons r rest=>
   simp only [PD,bW]at ho;refine cK ho.1 (by simp) ?_;have e:(pre++r::rest).set pre.length v=(pre++[v])++rest:=by simp
   rw [e];have:=ih (pre++[v]) rest (k:=k) ho.2 (by simpa using hl) (by simpa using hk)
   rwa [bH]at this
theorem aJu(hM:100000<M)(hx:DP M (d+1) x){O1 O2 O3:Tag}(hv:(EO B.dI).length<=10000)(hto:B.told.length<90000)(hK:∀O1 O2 O3,K (.agg (UL B O1 O2 O3)) S):x.call vT [.agg (UL B O1 O2 O3)] S K:=by
 refine hx.call rfl λy hy=>?_;rw [Vx];unfold Aa gG;refine fR (SX rfl rfl rfl) λp hp=>?_;have eU:cP S (aM S p (.row (UL B O1 O2 O3) 71)):= .aN hp;have rp:aM S p (.row (UL B O1 O2 O3) 71) p=some (.row (UL B O1 O2 O3) 71):=aB;show eI _ 61 (aM S p (.row (UL B O1 O2 O3) 71)) _;generalize aM S p (.row (UL B O1 O2 O3) 71)=S1 at eU rp;refine dQ (l:=Ar) rfl λi hi=>?_;have lA:cP S1 (aM S1 i (.row Ar 61)):= .aN hi;have ri:aM S1 i (.row Ar 61) i=some (.row Ar 61):=aB;have rp:=lA _ _ rp;generalize aM S1 i (.row Ar 61)=S2 at lA rp ri;have p0:LD p 0 S2 (nz B.ht):=fD rp rfl;have p1:LD p 1 S2 (.str B.dec):=fD rp rfl;have p2:LD p 2 S2 (.bool B.dI.isSome):=fD rp rfl;have p19:LD p 19 S2 (.list O3 (pE B.kept) B.kept.length):=fD rp rfl;rw [aG,p0,aG,p1,aG,p2,aG,p19]
 have aRq:∀{z:List Value} {k:V->Prop},ED z=some Ar->k (.agg (stK B (.list O3 (pE B.kept) B.kept.length)))->fX z [(0,1,nz B.ht),(1,1,.str B.dec),(2,1,.bool B.dI.isSome),(19,1,.list O3 (pE B.kept) B.kept.length)] k:=λ{z k} hz hk=>by
  refine qD hz ?_;exact⟨rfl,aW rfl,rfl,aW rfl,rfl,aW rfl,rfl,aW rfl,hk⟩
 refine aRq rfl ?_;refine dQ (l:=Ar) rfl λc hc=>?_;refine gJ (cs:=stK B (.list O3 (pE B.kept) B.kept.length)) aB (by rfl) (by rfl) (by rfl) ?_;rw [cW];have GG:cP S2 (aM S2 c (.row (stK B (.list O3 (pE B.kept) B.kept.length)) 61)):= .aN hc;have rc:aM S2 c (.row (stK B (.list O3 (pE B.kept) B.kept.length)) 61) c=some (.row (stK B (.list O3 (pE B.kept) B.kept.length)) 61):=aB;have rp:=GG _ _ rp;have ri:=GG _ _ ri;generalize aM S2 c (.row (stK B (.list O3 (pE B.kept) B.kept.length)) 61)=S3 at GG rp ri rc
 have p3:∀{K:KV},cU 15 (.ptr p 3) S3 K=K (.agg (iL (Dx B.dI) (.list O1 (wT (EO B.dI)) (EO B.dI).length))) S3:=λ{K}=>by
  rw [NB rp,fH (aW rfl)];rfl
 rw [aG,p3];refine dQ (l:=iL Rb .nil) rfl λg hg=>?_;refine gJ (cs:=iL (Dx B.dI) (.list O1 (wT (EO B.dI)) (EO B.dI).length)) aB (by rfl) (by rfl) (by rfl) ?_;rw [cW];have Gf:cP S3 (aM S3 g (.row (iL (Dx B.dI) (.list O1 (wT (EO B.dI)) (EO B.dI).length)) 68)):= .aN hg;have rg:aM S3 g (.row (iL (Dx B.dI) (.list O1 (wT (EO B.dI)) (EO B.dI).length)) 68) g=some (.row (iL (Dx B.dI) (.list O1 (wT (EO B.dI)) (EO B.dI).length)) 68):=aB;have rp:=Gf _ _ rp;have ri:=Gf _ _ ri;have rc:=Gf _ _ rc;have hle:cP S S3:=eU.trans (lA.trans GG);have hle:=hle.trans Gf;generalize aM S3 g (.row (iL (Dx B.dI) (.list O1 (wT (EO B.dI)) (EO B.dI).length)) 68)=S4 at Gf rp ri rc rg hle;have hci:S c=none:=(eU.trans lA).none hc;have hii:S i=none:=eU.none hi;have nic:i≠c:=λe=>by rw [e,rc]at ri;injection ri with ri;injection ri with ri _;simp [stK,Ar,iL]at ri
 have g0:LD g 0 S4 (nz (Dx B.dI).h):=fD rg rfl;have g1:LD g 1 S4 (nz (Dx B.dI).n):=fD rg rfl;have g2:LD g 2 S4 (nz (Dx B.dI).t):=fD rg rfl;have g3:LD g 3 S4 (nz (Dx B.dI).me):=fD rg rfl;have g4:LD g 4 S4 (nz (Dx B.dI).rd):=fD rg rfl;have g5:LD g 5 S4 (nz (Dx B.dI).st):=fD rg rfl;have g6:LD g 6 S4 (nz (Dx B.dI).LY):=fD rg rfl;have g7:LD g 7 S4 (.str (Dx B.dI).lock):=fD rg rfl;have g8:LD g 8 S4 (.str (Dx B.dI).valid):=fD rg rfl;have g9:LD g 9 S4 (nz (Dx B.dI).yZ):=fD rg rfl;have g10:LD g 10 S4 (nz (Dx B.dI).nU):=fD rg rfl;have g11:LD g 11 S4 (.bool (Dx B.dI).prop):=fD rg rfl;have g12:LD g 12 S4 (.bool (Dx B.dI).seen):=fD rg rfl;have g13:LD g 13 S4 (.str (Dx B.dI).dec):=fD rg rfl
 repeat (first | rw [aG] | rw [g0] | rw [g1] | rw [g2] | rw [g3] | rw [g4] | rw [g5] | rw [g6] | rw [g7] | rw [g8] | rw [g9] | rw [g10] | rw [g11] | rw [g12] | rw [g13])
 have aRr:∀{s:Bs} {z:List Value} {k:V->Prop},ED z=some (iL Rb .nil)->k (.agg (iL s .nil))->fX z [(0,1,nz s.h),(1,1,nz s.n),(2,1,nz s.t),(3,1,nz s.me),(4,1,nz s.rd),(5,1,nz s.st),(6,1,nz s.LY),(7,1,.str s.lock),(8,1,.str s.valid),(9,1,nz s.yZ),(10,1,nz s.nU),(11,1,.bool s.prop),(12,1,.bool s.seen),(13,1,.str s.dec)] k:=λ{s z k} hz hk=>by
  refine qD hz ?_;exact aDr (new:=[nz s.h,nz s.n,nz s.t,nz s.me,nz s.rd,nz s.st,nz s.LY,.str s.lock,.str s.valid,nz s.yZ,nz s.nU,.bool s.prop,.bool s.seen,.str s.dec]) [] (iL Rb .nil) rfl (aW rfl) hk
 refine aRr rfl ?_
 have st:∀{k:Hp->Prop},k (aM S4 c (.row (Wy B .nil .nil (.list O3 (pE B.kept) B.kept.length)) 61))->mE 15 (.ptr c 3) (.agg (iL (Dx B.dI) .nil)) S4 k:=λ{k} h=>by
  unfold mE;simp only [rc];exact⟨rfl,rfl,aW rfl,h⟩
 rw [aG];refine st ?_
 have fr0:cP (del S4 c) (aM S4 c (.row (Wy B .nil .nil (.list O3 (pE B.kept) B.kept.length)) 61)):=λj o e=>by
  by_cases h:j=c
  ·rw [h,Lv]at e;cases e
  ·rw [aC h];exact aCK _ _ e
 have hd:∀{j:Nat} {o:Ob},j≠c->S4 j=some o->del S4 c j=some o:=λ{j o} h1 h2=>by unfold del;rw [if_neg h1];exact h2
 have npc:p≠c:=λe=>by rw [e,rc]at rp;injection rp with rp;injection rp with _ rp;cases rp
 have ngc:g≠c:=λe=>by rw [e,rc]at rg;injection rg with rg;injection rg with _ rg;cases rg
 have bs:cP S (del S4 c):=λj o e=>hd (λh=>by rw [h,hci]at e;cases e) (hle _ _ e);have dp:=hd npc rp;have dg:=hd ngc rg;have di:=hd nic ri;have dc:del S4 c c=none:=Lv;generalize del S4 c=Sbz at fr0 dp dg di dc bs;have rc5:aM S4 c (.row (Wy B .nil .nil (.list O3 (pE B.kept) B.kept.length)) 61) c=some (.row (Wy B .nil .nil (.list O3 (pE B.kept) B.kept.length)) 61):=aB;generalize aM S4 c (.row (Wy B .nil .nil (.list O3 (pE B.kept) B.kept.length)) 61)=S5 at fr0 rc5;have hm:y.most=M:=hy.most
 have aPH:∀(q j k:Nat) (Skz:Hp) (u1 u2:V),j+q=B.told.length->q<k->cP Sbz Skz->Skz c=some (.row (Wy B u1 u2 (.list O3 (pE B.kept) B.kept.length)) 61)->SL 93 5 Sbz Skz u1 (wT (EO B.dI)) (EO B.dI).length->SL 91 2 Sbz Skz u2 (GC (B.told.take j)) j->pJ y k (.ptr p 0) (.ptr i 0) (.ptr c 0) (ni j) Skz K:=by
  intro q;induction q with
  | zero=>
   intro j k Skz u1 u2 hj hk hf Ht s1 s2;obtain⟨k,rfl⟩:=KJ hk;rw [AS];unfold sW gG;refine aH ?_;have Pb:LD p 18 Skz (.list O2 (GC B.told) B.told.length):=fD (hf _ _ dp) rfl;rw [aG,Pb,dV,dW,BC (by omega),cF];refine eX Ht rfl ?_;refine gJ (hf _ _ di) (SX s1.one s2.one rfl) (by rfl) (by rfl) ?_;refine eX aB (by rfl) ?_;rw [oS (by omega)]at s2;obtain rfl:j=B.told.length:=by omega
   have n1:¬tM u1 i:=λe=>by have:=(s1.at e).1;rw [di]at this;cases this
   have n2:¬tM u2 i:=λe=>by have:=(s2.at e).1;rw [di]at this;cases this
   refine aBs (S':=S) (λz o e=>?_) ((s1.set n1).base bs).frz ((s2.set n2).base bs).frz (aBg O3 (.list _ _)) hK;rw [aC (λh=>by rw [h,hii]at e;cases e)];exact hf _ _ (bs _ _ e)
  | succ q ih=>
   intro j k Skz u1 u2 hj hk hf Ht s1 s2;obtain⟨k,rfl⟩:=KJ hk;rw [AS];unfold sW gG;refine aH ?_;have MC:j<B.told.length:=by omega
   have Pb:∀{Skz:Hp},cP Sbz Skz->LD p 18 Skz (.list O2 (GC B.told) B.told.length):=λhf=>fD (hf _ _ dp) rfl;have c18:LD c 18 Skz u2:=fD Ht rfl
   have ln:∀{K:KV},cU 2 (.rK O2 (GC B.told) (j*2)) Skz K=K (.agg (TQ B.told[j])) Skz:=λ{K}=>by
    rw [BZ,fH (by rw [xQ];have:=lB 2 MC;omega),XA (aP MC)];rfl
   have sa:∀{q:Prop},aT (.agg (TQ B.told[j])) (.agg (TQ B.told[j])) q=q:=λ{q}=>dX rfl;have sl:∀{q:Prop},aT (.list O2 (GC B.told) B.told.length) (.list O2 (GC B.told) B.told.length) q=q:=λ{q}=>dX rfl;have su:∀{q:Prop},aT u2 u2 q=q:=λ{q}=>dX s2.same;rw [aG,Pb hf,dV,dW,Gg MC,eY,aG,c18,aG,Pb hf,nR MC,ln,ln,sa,Pb hf,sl,c18,su];refine⟨sE rfl rfl rfl rfl λ_ _=>trivial,?_⟩;refine s2.app (new:=toC B.told[j]) hf (by omega) rfl rfl (aDo _) rfl (by decide) λu S' e1 kp AX s3=>?_;have nc:¬tM u2 c:=s2.nat Ht;rw [Pb e1,sl,aG,RX (kp _ _ Ht nc) (aW rfl) s3.one,fP (by omega)];have BS:(Wy B u1 u2 (.list O3 (pE B.kept) B.kept.length)).set 18 u=Wy B u1 u (.list O3 (pE B.kept) B.kept.length):=rfl;rw [BS];have nu:¬tM u c:=λe=>(AX c e).elim nc λh=>by rw [Ht]at h;cases h
   have n1:¬tM u1 c:=s1.nat Ht;refine ih (j+1) k _ u1 u (by omega) (by omega) (λz o e=>?_) aB ((s1.but λz o h1 h2=>kp z o h2 (s1.ne2 s2 (by decide) h1)).set n1) ?_
   ·rw [aC (λh=>by rw [h,dc]at e;cases e)];exact e1 _ _ e
   ·rw [aJt MC];exact s3.set nu
 have aPI:∀(q j k:Nat) (Skz:Hp) (u1:V),j+q=(EO B.dI).length->q<k->cP Sbz Skz->Skz c=some (.row (Wy B u1 .nil (.list O3 (pE B.kept) B.kept.length)) 61)->SL 93 5 Sbz Skz u1 (wT ((EO B.dI).take j)) j->qO y k (.ptr p 0) (.ptr i 0) (.ptr c 0) (.ptr g 0) (ni j) Skz K:=by
  intro q;induction q with
  | zero=>
   intro j k Skz u1 hj hk hf Ht s1;obtain⟨k,rfl⟩:=KJ hk;rw [BG];unfold tT gG;refine aH ?_;have g14:LD g 14 Skz (.list O1 (wT (EO B.dI)) (EO B.dI).length):=fD (hf _ _ dg) rfl;rw [aG,g14,dV,dW,BC (by omega),cF];rw [oS (by omega)]at s1;obtain rfl:j=(EO B.dI).length:=by omega
   exact aPH B.told.length 0 y.most Skz u1 .nil (by omega) (by omega) hf Ht s1 .nil
  | succ q ih=>
   intro j k Skz u1 hj hk hf Ht s1;obtain⟨k,rfl⟩:=KJ hk;rw [BG];unfold tT gG;refine aH ?_;have MC:j<(EO B.dI).length:=by omega
   have g14:∀{Skz:Hp},cP Sbz Skz->LD g 14 Skz (.list O1 (wT (EO B.dI)) (EO B.dI).length):=λhf=>fD (hf _ _ dg) rfl;have f3:∀{k:V->Prop},bF 14 (.ptr c 3) k=k (.ptr c 17):=λ{k}=>rfl;have c17:LD c 17 Skz u1:=fD Ht rfl
   have ln:∀{K:KV},cU 5 (.rK O1 (wT (EO B.dI)) (j*5)) Skz K=K (.agg (EO B.dI)[j].vv) Skz:=λ{K}=>by
    rw [BZ,fH (by rw [JU];have:=lB 5 MC;omega),Dn _ j _ (aP MC)];rfl
   have sa:∀{q:Prop},aT (.agg (EO B.dI)[j].vv) (.agg (EO B.dI)[j].vv) q=q:=λ{q}=>dX rfl;have sl:∀{q:Prop},aT (.list O1 (wT (EO B.dI)) (EO B.dI).length) (.list O1 (wT (EO B.dI)) (EO B.dI).length) q=q:=λ{q}=>dX rfl;have su:∀{q:Prop},aT u1 u1 q=q:=λ{q}=>dX s1.same;rw [aG,g14 hf,dV,dW,Gg MC,eY,aG,f3,c17,aG,g14 hf,nR MC,ln,ln,sa,g14 hf,sl,c17,su];refine⟨sE rfl rfl rfl rfl λ_ _=>trivial,?_⟩;refine s1.app (new:=(EO B.dI)[j].dt) hf (by omega) rfl rfl (aPG _) rfl (by decide) λu S' e1 kp AX s3=>?_;have nc:¬tM u1 c:=s1.nat Ht;rw [g14 e1,sl,aG,f3,RX (kp _ _ Ht nc) (aW rfl) s3.one,fP (by omega)];have BS:(Wy B u1 .nil (.list O3 (pE B.kept) B.kept.length)).set 17 u=Wy B u .nil (.list O3 (pE B.kept) B.kept.length):=rfl;rw [BS];have nu:¬tM u c:=λe=>(AX c e).elim nc λh=>by rw [Ht]at h;cases h
   refine ih (j+1) k _ u (by omega) (by omega) (λz o e=>?_) aB ?_
   ·rw [aC (λh=>by rw [h,dc]at e;cases e)];exact e1 _ _ e
   ·rw [aJs MC];exact s3.set nu
 exact aPI (EO B.dI).length 0 y.most S5 .nil (by omega) (by omega) fr0 rc5 .nil
end
def pD(x:VE)(m:Nat)(t0 t3 t4:V):HK:=mT PP fT AJ x [.r,.r,.l,.r,.d] m [] [t0,t3,t4]
def lY(x:VE)(m:Nat)(m0:Nat)(t0 t3 t4 t5:V):HK:=mT PP fT AJ x [.r,.r,.l,.r,.d,.d,.r,.l,.d,.r,.r,.d] m [m0] [t0,t3,t4,t5]
def Ah(x:VE)(a0:V):HK:=λS K=>
 pD x x.most a0 (.int .i64 (.ofNat 0)) (.int .i64 (.ofNat 0)) S K
theorem We(x:VE)(a0:V):nV PP fT AJ x [a0]=Ah x a0:=by kernel_rfl
def FC(x:VE)(m0:Nat)(t0 t3 t4:V):HK:=λS K=>
 fG S λS=>
 dC t0 λv0=>
 aD PP .lss 3 t4 v0 λv1=>
 BD x v1 t3 S λv2 S=>
 rW x v1 (aD PP .lss 3 v2 (.int .i64 (.ofNat 5000))) S λv4 S=>
 gQ x v1 v4 (.bool false) λv5=>
 iQ v5 (aD PP .add 3 t3 (.int .i64 (.ofNat 30)) λv6=>jM 15 t0 t4 λv7=>bF 1 v7 λv8=>gG 9 v8 S λv10 S=>JA v10 λv11=>aD PP .add 3 v6 v11 λv12=>jM 15 t0 t4 λpI=>gG 13 pI S λuN S=>JA uN λuJ=>aD PP .add 3 v12 uJ λv17=>jM 15 t0 t4 λBA=>bF 1 BA λyT=>gG 10 yT S λv21 S=>dC v21 λv22=>aD PP .add 3 v17 v22 λv23=>jM 15 t0 t4 λv24=>gG 12 v24 S λv26 S=>dC v26 λKQ=>aD PP .add 3 v23 KQ λv28=>lY x x.most m0 t0 v28 t4 (.int .i64 (.ofNat 0)) S K) (aD PP .geq 3 t3 (.int .i64 (.ofNat 5000)) λJP=>aQ JP S K)
theorem TO(x:VE)(m0:Nat)(t0 t3 t4:V):pD x (m0+1) t0 t3 t4=FC x m0 t0 t3 t4:=by kernel_rfl
def vK(x:VE)(m1:Nat)(m0:Nat)(t0 t3 t4 t5:V):HK:=λS K=>
 fG S λS=>
 jM 15 t0 t4 λv0=>
 gG 14 v0 S λv2 S=>
 dC v2 λv3=>
 aD PP .lss 3 t5 v3 λv4=>
 BD x v4 t3 S λv5 S=>
 rW x v4 (aD PP .lss 3 v5 (.int .i64 (.ofNat 5000))) S λv7 S=>
 gQ x v4 v7 (.bool false) λv8=>
 iQ v8 (aD PP .add 3 t3 (.int .i64 (.ofNat 1)) λv9=>jM 15 t0 t4 λv10=>gG 14 v10 S λv12 S=>jM 1 v12 t5 λpI=>bJ pI S λmL S=>JA mL λuN=>aD PP .add 3 v9 uN λuJ=>aD PP .add 3 t5 (.int .i64 (.ofNat 1)) λv17=>lY x m1 m0 t0 uJ t4 v17 S K) (aD PP .add 3 t4 (.int .i64 (.ofNat 1)) λBA=>pD x m0 t0 t3 BA S K)
theorem IB(x:VE)(m1:Nat)(m0:Nat)(t0 t3 t4 t5:V):lY x (m1+1) m0 t0 t3 t4 t5=vK x m1 m0 t0 t3 t4 t5:=by kernel_rfl
def lL(x:VE)(m:Nat)(t0 t1 t5 t7:V):HK:=mT PP fT qH x [.r,.r,.r,.r,.r,.l,.r,.d] m [] [t0,t1,t5,t7]
def cN(x:VE)(m0:Nat)(t0 t1 t5 t7 t8 t11:V):HK:=DC PP fT qH x [.r,.r,.r,.r,.r,.l,.r,.d,.d,.r,.l,.d,.r,.r,.r,.r,.r] [m0] [t0,t1,t5,t7,t8,t11]
def JS(x:VE)(a0 a1:V):HK:=λS K=>
 x.call AJ [a1] S λv0 S=>
 wF x v0 a1 S λv1 S=>
 jK x v0 (dC v1) S λv3 S=>
 jK x v0 (aD PP .gtr 3 v3 (.int .i64 (.ofNat 40))) S λv5 S=>
 gQ x v0 (.bool true) v5 λv6=>
 uM x v6 (x.call KI [] S) S λv8 S=>
 jK x v6 (JC .not v8) S λv10 S=>
 gQ x v6 (.bool true) v10 λv11=>
 iQ v11 (x.call KI [] S λv12 S=>aQ v12 S K) (Lo .u64 a0 λpI=>aD PP .rem 40 pI (.int .u64 (.ofNat 6)) λmL=>Lo .i64 mL λuN=>x.call xA [] S λuJ S=>x.call DE [uJ,uN] S λv17 S=>nF 0 v17 λBA=>nF 1 v17 λyT=>aD PP .neq 26 yT (.int .i64 (.ofNat 0)) λv20=>iQ v20 (aQ (.bool false) S K) (lL x x.most uN a1 BA (.int .i64 (.ofNat 0)) S K))
theorem Ai(x:VE)(a0 a1:V):nV PP fT qH x [a0,a1]=JS x a0 a1:=by kernel_rfl
def oM(x:VE)(m0:Nat)(t0 t1 t5 t7:V):HK:=λS K=>
 fG S λS=>
 dC t1 λv0=>
 aD PP .lss 3 t7 v0 λv1=>
 iQ v1 (x.call xA [] S λv2 S=>x.call nZ [t5] S λv3 S=>x.call vU [v2,t0,v3] S λv4 S=>nF 0 v4 λv5=>nF 1 v4 λv6=>aD PP .neq 26 v6 (.int .i64 (.ofNat 0)) λv7=>wF x v7 t5 S λv8 S=>uM x v7 (x.call oA [v8] S) S λv10 S=>wF x v7 v5 S λv11 S=>uM x v7 (x.call oA [v11] S) S λpI S=>uM x v7 (x.call xO [v10,pI] S) S λuN S=>jK x v7 (JC .not uN) S λv17 S=>gQ x v7 (.bool true) v17 λBA=>iQ BA (aQ (.bool false) S K) (jM 15 t1 t7 λyT=>cU 15 yT S λv20 S=>eI [(.int .u8 (.ofNat 0)),(.int .u8 (.ofNat 0)),(.int .i64 (.ofNat 0)),(.int .i64 (.ofNat 0)),(.int .i64 (.ofNat 0)),(.int .i64 (.ofNat 0)),(.int .i64 (.ofNat 0)),(.int .i64 (.ofNat 0)),(.int .i64 (.ofNat 0)),(.int .i64 (.ofNat 0)),(.string ⟨⟨[]⟩⟩),(.slice none 0 0),(.slice none 0 0),(.string ⟨⟨[]⟩⟩),(.slice none 0 0)] 53 S λv21 S=>mE 15 v21 v20 S λS=>gG 0 v21 S λv23 S=>aD PP .eql 5 v23 (.int .u8 (.ofNat 0)) λv24=>iQ v24 (bF 1 v21 λv25=>cU 11 v25 S λv26 S=>bF 1 v21 λKQ=>cU 11 KQ S λv28 S=>x.call mJ [t5,v26] S λJP S=>cU 11 KQ S λv30 _=>aT v30 v28 (x.call mJ [v5,v28] S λv31 S=>aD PP .eql 4 JP v31 λv32=>cN x m0 t0 t1 t5 t7 v5 v32 S K)) (aD PP .eql 5 v23 (.int .u8 (.ofNat 1)) λv33=>iQ v33 (gG 12 v21 S λv35 S=>gG 13 v21 S λv37 S=>gG 14 v21 S λv39 S=>bF 12 v21 λv40=>bJ v40 S λv41 S=>bF 13 v21 λFo=>bJ Fo S λIh S=>bF 14 v21 λv44=>bJ v44 S λv45 S=>x.call vS [t5,v35,v37,v39] S λv46 S=>bJ v44 S λFp _=>aT Fp v45 (bJ Fo S λNr _=>aT Nr Ih (bJ v40 S λv49 _=>aT v49 v41 (x.call vS [v5,v41,Ih,v45] S λv50 S=>x.call vV [v46,v50] S λv51 S=>cN x m0 t0 t1 t5 t7 v5 v51 S K)))) (aD PP .eql 5 v23 (.int .u8 (.ofNat 2)) λVm=>iQ Vm (gG 12 v21 S λv54 S=>gG 13 v21 S λv56 S=>gG 14 v21 S λv58 S=>bF 12 v21 λv59=>bJ v59 S λv60 S=>bF 13 v21 λv61=>bJ v61 S λv62 S=>bF 14 v21 λv63=>bJ v63 S λv64 S=>x.call sR [t5,v54,v56,v58] S λv65 S=>bJ v63 S λv66 _=>aT v66 v64 (bJ v61 S λv67 _=>aT v67 v62 (bJ v59 S λv68 _=>aT v68 v60 (x.call sR [v5,v60,v62,v64] S λv69 S=>x.call vV [v65,v69] S λv70 S=>cN x m0 t0 t1 t5 t7 v5 v70 S K)))) (x.call sQ [t5] S λv71 S=>nF 0 v71 λv72=>nF 1 v71 λv73=>x.call sQ [v5] S λv74 S=>nF 0 v74 λv75=>nF 1 v74 λv76=>aD PP .eql 9 v72 v75 λv77=>BD x v77 v73 S λv78 S=>BD x v77 v76 S λv79 S=>rW x v77 (aD PP .eql 4 v78 v79) S λv81 S=>gQ x v77 v81 (.bool false) λv82=>cN x m0 t0 t1 t5 t7 v5 v82 S K))))) (aQ (.bool true) S K)
theorem uF(x:VE)(m0:Nat)(t0 t1 t5 t7:V):lL x (m0+1) t0 t1 t5 t7=oM x m0 t0 t1 t5 t7:=by kernel_rfl
def oF(x:VE)(m0:Nat)(t0 t1 t5 t7 t8 t11:V):HK:=λS K=>
 fG S λS=>
 JC .not t11 λv0=>
 wF x v0 t5 S λv1 S=>
 uM x v0 (x.call nZ [v1] S) S λv3 S=>
 uM x v0 (x.call vT [v3] S) S λv5 S=>
 wF x v0 t8 S λv6 S=>
 uM x v0 (x.call nZ [v6] S) S λv8 S=>
 uM x v0 (x.call vT [v8] S) S λv10 S=>
 uM x v0 (x.call FQ [v5,v10] S) S λv12 S=>
 jK x v0 (JC .not v12) S λmL S=>
 gQ x v0 (.bool true) mL λuN=>
 iQ uN (aQ (.bool false) S K) (aD PP .add 3 t7 (.int .i64 (.ofNat 1)) λuJ=>lL x m0 t0 t1 t5 uJ S K)
theorem wS(x:VE)(hm:x.most≠0)(m0:Nat)(t0 t1 t5 t7 t8 t11:V)(S:Hp)(K:KV):cN x m0 t0 t1 t5 t7 t8 t11 S K=oF x m0 t0 t1 t5 t7 t8 t11 S K:=(rM (hm:=hm) ..).trans (by kernel_rfl)
structure TR where
 what:Nat
 m:Ms
 ms:List Int
 want:List UInt8
 may:List (List UInt8)
def TR.dt(s:TR):List Dt:=[.int .u8 (.ofNat s.what)]++(Nd s.m++[.list (OV s.ms) s.ms.length,.str s.want,.list (eF s.may) s.may.length])
def TR.vv(s:TR)(t1 t2 t3:Tag):List V:=[n8 s.what]++(nW t1 s.m++[.list t2 (OV s.ms) s.ms.length,.str s.want,.list t3 (eF s.may) s.may.length])
def Dz(l:List TR):List Dt:=l.flatMap TR.dt
structure Sml(s:TR):Prop where
 kind:s.m.kind<256
 what:s.what<256
 text:s.m.text.length<=140737488355328
 nums:s.m.nums.length<=140737488355328
 ms:s.ms.length<=140737488355328
 want:s.want.length<=140737488355328
 may:s.may.length<=140737488355328
 aCq:∀t∈s.may,t.length<=140737488355328
theorem aLv(l:List TR):(Dz l).length=l.length*15:=by
 induction l with
 | nil=>rfl
 | cons a l ih=>
  show(a.dt++Dz l).length=_;rw [bH,ih,qS];have:a.dt.length=15:=rfl;omega
theorem aJv(l:List TR):∀j,Dz (l.drop j)=(Dz l).drop (j*15):=by
 induction l with
 | nil=>intro j;cases j<;>simp [Dz]
 | cons a l ih=>
  intro j;cases j with
  | zero=>rw [KC];rfl
  | succ j=>
   rw [aBK,ih];show _=(a.dt++Dz l).drop _;rw [show(j+1)*15=15+j*15 by omega,<-KB,Ja (show a.dt.length=15 from rfl)]
theorem aJw{l:List TR}{i:Nat}(hi:i<l.length):((Dz l).drop (i*15)).take 15=l[i].dt:=by
 rw [<-aJv,zG hi];exact Rt (show l[i].dt.length=15 from rfl)
theorem aLw{l:List TR}{i:Nat}(hi:i<l.length){o:Nat}{dd:Dt}(ho:o<15)(h:l[i].dt[o]? =some dd):(Dz l)[i*15+o]? =some dd:=by
 rw [<-aJw hi,kR,if_pos ho,kS]at h;exact h
section
variable{M d:Nat}{x:VE}{S:Hp}{K:KV}{l:List TR}{O:Tag}
theorem aN3(hM:100000<M)(hx:DP M (d+1) x)(hs:∀s∈l,Sml s)(hl:l.length<=140737488355328)(hT:K (.bool true) S)(hF:(∀s∈l,s.ms.length<5000/\s.may.length<5000)->K (.bool false) S):x.call AJ [.list O (Dz l) l.length] S K:=by
 refine hx.call rfl λy hy=>?_;rw [We];unfold Ah;have hm:y.most=M:=hy.most;have ld:∀(i o:Nat) (dd:Dt),(hi:i<l.length)->o<15->l[i].dt[o]? =some dd->∀{K:KV},bJ (.rK O (Dz l) (i*15+o)) S K=K (T (.sub O (i*15+o)) dd) S:=λi o dd hi ho h {K}=>by rw [OE,kF (aLw hi ho h)]
 have fl:∀(a b c:Nat) {k:V->Prop},a+b=c->bF b (.rK O (Dz l) a) k=k (.rK O (Dz l) c):=λa b c {k} h=>by rw [<-h];rfl
 have fin:∀(i n:Nat),n<2251799813685248->(5000<=n\/i=l.length)->(n<5000->∀s∈l.take i,s.ms.length<5000/\s.may.length<5000)->(aD PP .geq 3 (ni n) (.int .i64 (.ofNat 5000)) λJP=>aQ JP S K):=λi n hn h1 h2=>by
  rw [Wp];refine aF ?_;by_cases h:5000<=n
  ·rw [aU h];exact hT
  ·rw [aR h]
   refine hF ?_;have:=h2 (by omega)
   rwa [h1.resolve_left h,US]at this
 have outer:∀(q i n k:Nat),5000<=n+q->q<k->i<=l.length->n<2251799813685248->(n<5000->∀s∈l.take i,s.ms.length<5000/\s.may.length<5000)->pD y k (.list O (Dz l) l.length) (ni n) (ni i) S K:=by
  intro q;induction q using Nat.strongRecOn with
  | _ q ih=>
   intro i n k hq hk hi hn hb;obtain⟨k,rfl⟩:=KJ hk;rw [TO];unfold FC rW BD gQ gG;refine aH ?_;rw [dV,dW];by_cases lN:i<l.length
   ·rw [Gg lN]
    have c5:LB .lss 3 (ni n) (.int .i64 (.ofNat 5000)) (.bool (decide (n<5000))):=λ{k}=>dW
    repeat (first | rw [aL] | rw [aI] | rw [kB] | rw [c5] | dsimp only)
    by_cases h5:n<5000
    ·rw [aU h5,eY]
     have sm:=hs _ (nO lN);have b1:=sm.text;have b2:=sm.nums;have b3:=sm.ms;have b4:=sm.want;have ix:∀{k:V->Prop},jM 15 (.list O (Dz l) l.length) (ni i) k=k (.rK O (Dz l) (i*15)):=λ{k}=>nR lN;have e9:∀{K:KV},bJ (.rK O (Dz l) (i*15+10)) S K=K (.str l[i].m.text) S:=λ{K}=>ld i 10 (.str l[i].m.text) lN (by omega) rfl;have e13:∀{K:KV},bJ (.rK O (Dz l) (i*15+13)) S K=K (.str l[i].want) S:=λ{K}=>ld i 13 (.str l[i].want) lN (by omega) rfl;have e11:∀{K:KV},bJ (.rK O (Dz l) (i*15+11)) S K=K (.list (.sub O (i*15+11)) (l[i].m.nums.map λn=>Dt.int .u64 (.ofNat n)) l[i].m.nums.length) S:=λ{K}=>ld i 11 (.list (l[i].m.nums.map λn=>Dt.int .u64 (.ofNat n)) l[i].m.nums.length) lN (by omega) rfl;have e12:∀{K:KV},bJ (.rK O (Dz l) (i*15+12)) S K=K (.list (.sub O (i*15+12)) (OV l[i].ms) l[i].ms.length) S:=λ{K}=>ld i 12 (.list (OV l[i].ms) l[i].ms.length) lN (by omega) rfl;rw [fP (by omega),ix,fl (i*15) 1 (i*15+1) rfl,fl (i*15+1) 9 (i*15+10) (by omega),e9,CQ,fP (by omega),ix,fl (i*15) 13 (i*15+13) rfl,e13,CQ,fP (by omega),ix,fl (i*15) 1 (i*15+1) rfl,fl (i*15+1) 10 (i*15+11) (by omega),e11,dV,fP (by omega),ix,fl (i*15) 12 (i*15+12) rfl,e12,dV,fP (by omega)];have hms:n+30+l[i].m.text.length+l[i].want.length+l[i].m.nums.length+l[i].ms.length<5000->l[i].ms.length<5000:=λh=>by omega
     have hn1:n+30<=n+30+l[i].m.text.length+l[i].want.length+l[i].m.nums.length+l[i].ms.length:=by omega
     have hn2:n+30+l[i].m.text.length+l[i].want.length+l[i].m.nums.length+l[i].ms.length<1125899906842624:=by omega
     generalize n+30+l[i].m.text.length+l[i].want.length+l[i].m.nums.length+l[i].ms.length=n0 at hms hn1 hn2
     have inner:∀(q2 j n2 k2:Nat),5000<=n2+q2->q2<k2->j<=n2->j<=l[i].may.length->n0<=n2->n2<2251799813685248->lY y k2 k (.list O (Dz l) l.length) (ni n2) (ni i) (ni j) S K:=by
      intro q2;induction q2 using Nat.strongRecOn with
      | _ q2 ih2=>
       intro j n2 k2 Xg tZ hj hjm h0 hn2;obtain⟨k2,rfl⟩:=pV (show k2≠0 by omega);rw [IB];unfold vK rW BD gQ gG;refine aH ?_;have e14:∀{K:KV},bJ (.rK O (Dz l) (i*15+14)) S K=K (.list (.sub O (i*15+14)) (eF l[i].may) l[i].may.length) S:=λ{K}=>ld i 14 (.list (eF l[i].may) l[i].may.length) lN (by omega) rfl
       have next:(5000<=n2\/j=l[i].may.length)->(aD PP .add 3 (ni i) (.int .i64 (.ofNat 1)) λBA=>pD y k (.list O (Dz l) l.length) (ni n2) BA S K):=λh1=>by
        rw [fP (by omega)];refine ih (q-30) (by omega) (i+1) n2 k (by omega) (by omega) (by omega) (by omega) λh s hs=>?_;rw [tO,aP lN]at hs;rcases uP.1 hs with hs | hs
        ·exact hb (by omega) s hs
        ·obtain rfl:s=l[i]:=by simpa using hs
         exact⟨hms (by omega),by omega⟩
       rw [ix,fl (i*15) 14 (i*15+14) rfl,e14,dV,dW];by_cases MC:j<l[i].may.length
       ·rw [Gg MC]
        have c6:LB .lss 3 (ni n2) (.int .i64 (.ofNat 5000)) (.bool (decide (n2<5000))):=λ{k}=>dW
        repeat (first | rw [aL] | rw [aI] | rw [kB] | rw [c6] | dsimp only)
        by_cases h6:n2<5000
        ·have e1:(eF l[i].may)[j]? =some (.str l[i].may[j]):=by unfold eF;rw [jA,aP MC];rfl
         have b5:=sm.aCq _ (nO MC);rw [aU h6,eY,fP (by omega),ix,fl (i*15) 14 (i*15+14) rfl,e14,nR MC,OE,lS,kF e1];show JA (.str l[i].may[j]) _;rw [CQ,fP (by omega),fP (by omega)];exact ih2 (q2-1) (by omega) (j+1) (n2+1+l[i].may[j].length) k2 (by omega) (by omega) (by omega) (by omega) (by omega) (by omega)
        ·rw [aR h6,cF]
         exact next (.inl (by omega))
       ·rw [BC MC]
        repeat (first | rw [aL] | rw [yG] | rw [oZ] | rw [fA] | rw [cF] | dsimp only)
        exact next (.inr (by omega))
     exact inner 5000 0 n0 y.most (by omega) (by omega) (by omega) (by omega) (by omega) (by omega)
    ·rw [aR h5,cF]
     exact fin i n hn (.inl (by omega)) hb
   ·rw [BC lN]
    repeat (first | rw [aL] | rw [yG] | rw [oZ] | rw [fA] | rw [cF] | dsimp only)
    exact fin i n hn (.inr (by omega)) hb
 exact outer 5000 0 0 y.most (by omega) (by omega) (by omega) (by omega) (λ_ s h=>by simp at h)
end
section
variable{S S':Hp}{b:Nat}{B B':Bd}{sd T T':Nat->Prop}
theorem rV.some_(h:rV S b B sd){j:Nat}(hj:sd j):∃o,S j=some o:=by
 obtain⟨bv,tv,kv,SB,g,rfl⟩:=h;exact g.some_ hj
theorem rV.keep(h:rV S b B sd)(f:Ds T S S' T')(hd:∀j,T j->¬sd j):rV S' b B sd:=by
 obtain⟨bv,tv,kv,SB,g,rfl⟩:=h;exact⟨bv,tv,kv,SB,g.but λj o hj e=>f.keep j o (λc=>hd j c hj) e,rfl⟩
theorem rV.apart(h:rV S b B sd)(f:Ds T S S' T')(hd:∀j,T j->¬sd j):∀j,T' j->¬sd j:=λj hj c=>(f.new j hj).elim (λq=>hd j q c) λq=>by
 obtain⟨o,e⟩:=h.some_ c;rw [q]at e;cases e
theorem As.apart{S0:Hp}{a:Nat}{A:Bd}(h:As S0 S b B)(k:rV S0 a A T):∃sd,rV S b B sd/\rV S a A T/\cP S0 S/\∀j,T j->¬sd j:=by
 obtain⟨sd,h1,h2,h3⟩:=h
 exact⟨sd,h1,k.up h2,h2,λj hj c=>by
  obtain⟨o,e⟩:=k.some_ hj;rw [h3 j c]at e;cases e⟩
end
section
variable{M d b:Nat}{x:VE}{S:Hp}{K:KV}{B:Bd}{sd:Nat->Prop}
theorem aBv(a:Ba)(want:List UInt8)(may:List (List UInt8)):(a.tick want may).2.length<=2000:=by
 have h1:=Wn (a:=(a.AV want).1) want may
 have h2:(a.AV want).2.length<=1:=by
  unfold Ba.AV;split
  ·split
   ·unfold Ba.late
    split
    ·exact bI _
    ·split
     ·split
      ·exact bI _
      ·exact gF _
     ·split<;>exact gF _
   ·exact gF _
  ·exact gF _
 show((a.AV want).2++((a.AV want).1.UI want may).2).length<=_;rw [bH];omega
theorem aL0(hM:100000<M)(Xk:M<=125000)(hx:DP M (d+13) x){O Ow:Tag}{ms:List Int}(DT:ms.length<100000)(h:rV S b B sd)(hB:BI B)(hl:B.kept.length<90000){want:List UInt8}{may:List (List UInt8)}(NS:may.length<=100000)
 (hK:∀S' KT,rV S' b (B.Nk (λa=>a.UI want may) ms).1 KT->Ds sd S S' KT->∀O,K (.list O (pE (B.Nk (λa=>a.UI want may) ms).2) (B.Nk (λa=>a.UI want may) ms).2.length) S'):
 x.call vS [.ptr b 0,.list O (OV ms) ms.length,.str want,.list Ow (eF may) may.length] S K:=by
 refine hx.call rfl λy hy=>?_;rw [Dh];unfold LR;refine aJi (d:=d) (g:=λa=>a.UI want may) hM Xk hy DT h hl hB.kind hB.HE ⟨hB.ht.1,by have:=hB.ht.2;omega⟩ (λz hz=>⟨λa=>by have:=Wn (a:=a) want may;omega,λkb hk=>aPk (n:=d+3) hM Xk hz kb NS hk⟩) λS' KT h1 h2 O=>aF (hK S' KT h1 h2 O)
theorem aEJ(hM:100000<M)(Xk:M<=125000)(hx:DP M (d+13) x){O Ow:Tag}{ms:List Int}(DT:ms.length<100000)(h:rV S b B sd)(hB:BI B)(hl:B.kept.length<90000){want:List UInt8}{may:List (List UInt8)}(NS:may.length<=100000)
 (hK:∀S' KT,rV S' b (B.Nk (λa=>a.tick want may) ms).1 KT->Ds sd S S' KT->∀O,K (.list O (pE (B.Nk (λa=>a.tick want may) ms).2) (B.Nk (λa=>a.tick want may) ms).2.length) S'):
 x.call sR [.ptr b 0,.list O (OV ms) ms.length,.str want,.list Ow (eF may) may.length] S K:=by
 refine hx.call rfl λy hy=>?_;rw [WS];unfold IA;refine aJi (d:=d) (g:=λa=>a.tick want may) hM Xk hy DT h hl hB.kind hB.HE ⟨hB.ht.1,by have:=hB.ht.2;omega⟩ (λz hz=>⟨λa=>aBv a want may,λkb hk=>aNs (n:=d+2) hM Xk hz kb NS hk⟩) λS' KT h1 h2 O=>aF (hK S' KT h1 h2 O)
theorem aJy{g:Ba->Ba×List Mg}{ms:List Int}:(B.Nk g ms).1.me=B.me:=by
 unfold Bd.Nk;split
 ·show(((B.gP ms).open_ ms).goes g ms).1.me=B.me
  have:(((B.gP ms).open_ ms).goes g ms).1.me=((B.gP ms).open_ ms).me:=by
   unfold Bd.goes;split
   ·split<;>rfl
   ·rfl
  rw [this,aLn];rfl
 ·rfl
theorem aLx{m:Ms}:(B.take m).me=B.me:=by unfold Bd.take;split<;>rfl
end
section
variable{M d a:Nat}{x:VE}{K:KV}{l:List TR}{O:Tag}
theorem aGk{B:Bd}(h:BI B)(hl:B.kept.length<40000):B.texts.length<100000:=by
 unfold Bd.texts;refine Nat.lt_of_le_of_lt (Lk _) ?_;rw [wX,bH,jB];have h2:=DU (λm:Ms=>decide (m.kind=2)&&decide (m.ht=B.ht)) B.kept;have h4:=h.ZA;cases hb:B.dI with
 | none=>show 0+_<100000;omega
 | some a=>
  rw [hb]at h4;have h4:a.l.length<=10000:=h4;have:=Nl a.l;show(yI a.l).length+_<100000;omega
theorem aN4{b:Bool}{q:V->Prop}:aD PP .eql 4 (.bool b) (.bool b) q=q (.bool true):=by simp [aD,aEd,aEq]
theorem aL1{s:List UInt8}{q:V->Prop}:aD PP .eql 9 (.str s) (.str s) q=q (.bool true):=by rw [tK,aU rfl]
set_option maxHeartbeats 1000000 in
theorem aGl(hM:100000<M)(Xk:M<=125000)(hx:DP M (d+13) x)(h40:l.length<=40)(hs:∀s∈l,s.m.kind<256/\s.what<256/\s.ms.length<5000/\s.may.length<5000)(hK:∀S',K (.bool true) S'):
 ∀(q i k:Nat) (S:Hp) (B:Bd) (sd:Nat->Prop),i+q=l.length->q<k->rV S a B sd->BI B->B.kept.length<=i->lL x k (nz B.me) (.list O (Dz l) l.length) (.ptr a 0) (ni i) S K:=by
 have hm:x.most≠0:=by rw [hx.most];omega
 intro q;induction q with
 | zero=>
  intro i k S B sd hi hk hA hB hl;obtain⟨k,rfl⟩:=KJ hk;rw [uF];unfold oM rW jK uM BD wF gQ gG;refine aH ?_;rw [dV,dW,BC (by omega),cF];exact aF (hK S)
 | succ q ih=>
  intro i k S B sd hi hk hA hB hl;obtain⟨k,rfl⟩:=KJ hk
  have jn:∀(b:Nat) (S4:Hp) (B':Bd) (Sa Sb:Nat->Prop),rV S4 a B' Sa->rV S4 b B' Sb->BI B'->B'.kept.length<=i+1->B'.me=B.me->cN x k (nz B.me) (.list O (Dz l) l.length) (.ptr a 0) (ni i) (.ptr b 0) (.bool true) S4 K:=by
   intro b S4 B' Sa Sb h1 h2 hB' Sj hme;rw [wS _ hm];unfold oF jK uM wF gQ;refine aH ?_;have hto:=hB'.len;rw [gX,eH]
   repeat (first | rw [aL] | rw [aI] | dsimp only)
   refine Wz (d:=d+10) hx h1 (by omega) (by omega) λt1 t2 t3=>?_
   repeat (first | rw [aL] | rw [aI] | dsimp only)
   refine aJu (d:=d+12) hM hx hB'.ZA (by omega) λr1 r2 r3=>?_
   repeat (first | rw [aL] | rw [aI] | dsimp only)
   refine Wz (d:=d+10) hx h2 (by omega) (by omega) λt1 t2 t3=>?_
   repeat (first | rw [aL] | rw [aI] | dsimp only)
   refine aJu (d:=d+12) hM hx hB'.ZA (by omega) λw1 w2 w3=>?_
   repeat (first | rw [aL] | rw [aI] | dsimp only)
   refine aJr (d:=d+10) hM hx hB'.ZA (by omega) (by omega) hB'.nums ?_
   repeat (first | rw [aL] | rw [aI] | rw [gX] | rw [eH] | rw [fA] | rw [cF] | dsimp only)
   rw [fP (by omega),<-hme];exact ih (i+1) k S4 B' Sa (by omega) (by omega) h1 hB' Sj
  rw [uF];unfold oM rW jK uM BD wF gQ gG;refine aH ?_;have lN:i<l.length:=by omega
  have hto:=hB.len;rw [dV,dW,Gg lN,eY];refine aEF (d:=d+12) hx ?_;refine Wz (d:=d+10) hx hA (by omega) (by omega) λt1 t2 t3=>?_;refine aN1 (d:=d+4) hM hx hB (by omega) λb S1 hn=>?_;obtain⟨Sb,h2,h1,hle,Kg⟩:=hn.apart hA;have vs0:LB .neq 26 (ni 0) (.int .i64 (.ofNat 0)) (.bool false):=λ{k}=>by rw [Wq];rfl
  rw [vE,vF,vs0]
  repeat (first | rw [aL] | rw [aI] | dsimp only)
  refine aEG (n:=d+9) hM hx h1 (by omega) hB.kind λO1=>?_
  repeat (first | rw [aL] | rw [aI] | dsimp only)
  refine aEG (n:=d+9) hM hx h2 (by omega) hB.kind λO2=>?_
  repeat (first | rw [aL] | rw [aI] | dsimp only)
  refine aLu (d:=d+12) hM hx (aGk hB (by omega)) ?_
  repeat (first | rw [aL] | rw [aI] | rw [gX] | rw [eH] | rw [fA] | rw [cF] | dsimp only)
  rw [nR lN,BZ,fH (by rw [aLv];have:=lB 15 lN;omega),aJw lN];have ev:Tl O (i*15) l[i].dt=l[i].vv (.sub O (i*15+11)) (.sub O (i*15+12)) (.sub O (i*15+14)):=rfl;rw [ev];obtain⟨Tg,tZ,hk3,hk4⟩:=hs _ (nO lN);generalize l[i]=s at Tg tZ hk3 hk4;refine dQ (l:=[n8 0,n8 0,ni 0,ni 0,ni 0,ni 0,ni 0,ni 0,ni 0,ni 0,.str [],.nil,.nil,.str [],.nil]) rfl λr hr=>?_;refine gJ (cs:=s.vv (.sub O (i*15+11)) (.sub O (i*15+12)) (.sub O (i*15+14))) aB rfl rfl (by rfl) ?_;rw [cW];generalize Tag.sub O (i*15+11)=u1;generalize Tag.sub O (i*15+12)=u2;generalize Tag.sub O (i*15+14)=u3;have lA:cP S1 (aM S1 r (.row (s.vv u1 u2 u3) 53)):= .aN hr;have rr:aM S1 r (.row (s.vv u1 u2 u3) 53) r=some (.row (s.vv u1 u2 u3) 53):=aB;have nra:¬sd r:=λc=>by obtain⟨o,e⟩:=h1.some_ c;rw [hr]at e;cases e
  have nrb:¬Sb r:=λc=>by obtain⟨o,e⟩:=h2.some_ c;rw [hr]at e;cases e
  have h1:=h1.up lA;have h2:=h2.up lA;generalize aM S1 r (.row (s.vv u1 u2 u3) 53)=S2 at lA rr h1 h2
  have ld:∀{Skz:Hp},Skz r=some (.row (s.vv u1 u2 u3) 53)->(LD r 12 Skz (.list u2 (OV s.ms) s.ms.length))/\(LD r 13 Skz (.str s.want))/\(LD r 14 Skz (.list u3 (eF s.may) s.may.length))/\(∀{K:KV},cU 11 (.ptr r 1) Skz K=K (.agg (nW u1 s.m)) Skz):=λ{Skz} e=>
   ⟨fD e rfl,fD e rfl,fD e rfl,λ{K}=>by rw [NB e,fH (aW rfl)];rfl⟩
  obtain⟨WY,ON,UJ,l1⟩:=ld rr;have l0:LD r 0 S2 (n8 s.what):=fD rr rfl;have sm:∀{p:Prop},aT (.agg (nW u1 s.m)) (.agg (nW u1 s.m)) p=p:=λ{p}=>dX rfl;have s12:∀{p:Prop},aT (.list u2 (OV s.ms) s.ms.length) (.list u2 (OV s.ms) s.ms.length) p=p:=λ{p}=>dX rfl;have s13:∀{p:Prop},aT (.str s.want) (.str s.want) p=p:=λ{p}=>dX rfl;have s14:∀{p:Prop},aT (.list u3 (eF s.may) s.may.length) (.list u3 (eF s.may) s.may.length) p=p:=λ{p}=>dX rfl;have qk:∀{n:Nat} {k:V->Prop},aD PP .eql 5 (n8 s.what) (.int .u8 (.ofNat n)) k=k (.bool (decide (s.what=n))):=λ{n k}=>by rw [cV];congr 2;simp;omega
  rw [aG,l0,qk];by_cases e0:s.what=0
  ·rw [aU e0,eY,aG,l1,aG,l1]
   refine Xa (d:=d+6) hM hx h1 (by omega) Tg λS3 Sa g1 f1=>?_;obtain⟨_,_,_,m1⟩:=ld (f1.keep _ _ nra rr);rw [m1,sm];refine Xa (d:=d+6) hM hx (h2.keep f1 Kg) (by omega) Tg λS4 Sb' g2 f2=>?_;rw [aN4];have ap:=h2.apart f1 Kg;have hk:=aGi (B:=B) (m:=s.m);exact jn b S4 (B.take s.m) Sa Sb' (g1.keep f2 λj c1 c2=>ap j c2 c1) g2 hB.take (by omega) aLx
  ·rw [aR e0,cF,qk]
   by_cases e1:s.what=1
   ·rw [aU e1,eY]
    repeat (first | rw [aG] | rw [WY] | rw [ON] | rw [UJ])
    refine aL0 (d:=d) hM Xk hx (by omega) h1 hB (by omega) (by omega) λS3 Sa g1 f1 O3=>?_;obtain⟨m12,m13,m14,_⟩:=ld (f1.keep _ _ nra rr)
    repeat (first | rw [m12] | rw [m13] | rw [m14] | rw [s12] | rw [s13] | rw [s14])
    refine aL0 (d:=d) hM Xk hx (by omega) (h2.keep f1 Kg) hB (by omega) (by omega) λS4 Sb' g2 f2 O4=>?_;obtain⟨ol,on⟩:=aEI (B:=B) (ms:=s.ms) (g:=λa=>a.UI s.want s.may) λa=>by have:=Wn (a:=a) s.want s.may;omega
    refine aDq (d:=d+11) hM hx ol on ?_;have ap:=h2.apart f1 Kg;have hk:=aBu (B:=B) (ms:=s.ms) (g:=λa=>a.UI s.want s.may);exact jn b S4 _ Sa Sb' (g1.keep f2 λj c1 c2=>ap j c2 c1) g2 (BI.Nk (Kps.UI _ _) hB) (by omega) aJy
   ·rw [aR e1,cF,qk]
    by_cases e2:s.what=2
    ·rw [aU e2,eY]
     repeat (first | rw [aG] | rw [WY] | rw [ON] | rw [UJ])
     refine aEJ (d:=d) hM Xk hx (by omega) h1 hB (by omega) (by omega) λS3 Sa g1 f1 O3=>?_;obtain⟨m12,m13,m14,_⟩:=ld (f1.keep _ _ nra rr)
     repeat (first | rw [m12] | rw [m13] | rw [m14] | rw [s12] | rw [s13] | rw [s14])
     refine aEJ (d:=d) hM Xk hx (by omega) (h2.keep f1 Kg) hB (by omega) (by omega) λS4 Sb' g2 f2 O4=>?_;obtain⟨ol,on⟩:=aEI (B:=B) (ms:=s.ms) (g:=λa=>a.tick s.want s.may) λa=>aBv a s.want s.may;refine aDq (d:=d+11) hM hx ol on ?_;have ap:=h2.apart f1 Kg;have hk:=aBu (B:=B) (ms:=s.ms) (g:=λa=>a.tick s.want s.may);exact jn b S4 _ Sa Sb' (g1.keep f2 λj c1 c2=>ap j c2 c1) g2 (BI.Nk (Kps.tick _ _) hB) (by omega) aJy
    ·rw [aR e2,cF]
     have hht:=hB.ht;refine aDl (d:=d+9) hM hx h1 (by omega) ⟨by omega,by omega⟩ (λc=>?_) λc S3 Sa g1 f1=>?_
     ·rw [vE,vF]
      refine aDl (d:=d+9) hM hx h2 (by omega) ⟨by omega,by omega⟩ (λ_=>?_) λc2=>absurd c c2;rw [vE,vF,aL1]
      repeat (first | rw [aL] | rw [aI] | rw [aN4] | rw [kB] | dsimp only)
      exact jn b S2 B sd Sb h1 h2 hB (by omega) rfl
     ·rw [vE,vF]
      refine aDl (d:=d+9) hM hx (h2.keep f1 Kg) (by omega) ⟨by omega,by omega⟩ (λc2=>absurd c2 c) λ_ S4 Sb' g2 f2=>?_;rw [vE,vF,aL1]
      repeat (first | rw [aL] | rw [aI] | rw [aN4] | rw [kB] | dsimp only)
      have ap:=h2.apart f1 Kg;have hk:=aGj (B:=B);exact jn b S4 B.next Sa Sb' (g1.keep f2 λj c1 c2=>ap j c2 c1) g2 (hB.next c) (by omega) rfl
theorem aN5(hM:100000<M)(Xk:M<=125000)(hx:DP M (d+14) x){me:Int}(hl:l.length<=140737488355328)(hs:∀s∈l,Sml s)(hK:∀S',K (.bool true) S'){S:Hp}:x.call qH [nz me,.list O (Dz l) l.length] S K:=by
 refine hx.call rfl λy hy=>?_;rw [Ai];unfold JS jK uM wF gQ;refine aN3 (d:=d+12) hM hy hs hl ?_ λhb=>?_
 ·repeat (first | rw [aL] | rw [EN] | rw [oZ] | rw [kB] | rw [eY] | dsimp only)
  exact hy.yE (g:=aI3) rfl ⟨rfl,aF (hK _)⟩
 ·have g40:LB .gtr 3 (ni l.length) (.int .i64 (.ofNat 40)) (.bool (decide (40<l.length))):=λ{k}=>Dq
  repeat (first | rw [aL] | rw [aI] | rw [dV] | rw [g40] | rw [fA] | dsimp only)
  by_cases h40:40<l.length
  ·rw [aU h40]
   repeat (first | rw [aL] | rw [EN] | rw [oZ] | rw [kB] | rw [eY] | dsimp only)
   exact hy.yE (g:=aI3) rfl ⟨rfl,aF (hK _)⟩
  ·rw [aR h40]
   repeat (first | rw [aL] | rw [aI] | dsimp only)
   refine hy.yE (g:=aI3) rfl ⟨rfl,?_⟩
   repeat (first | rw [aL] | rw [aI] | rw [gX] | rw [eH] | rw [fA] | rw [cF] | dsimp only)
   show aD PP .rem 40 (.int .u64 (lC .u64 me)) (.int .u64 (.ofNat 6)) _
   have hw:0<=lC .u64 me:=by
    rw [PL];show 0<=me%18446744073709551616;omega
   generalize lC .u64 me=w at hw;rw [Cz (by decide)];have z1:0<=w.tmod (.ofNat 6):=Int.tmod_nonneg _ hw;have z2:w.tmod (.ofNat 6)<6:=Int.tmod_lt_of_pos _ (by decide);generalize w.tmod (.ofNat 6)=z at z1 z2;show y.call xA [] S λuJ S=>y.call DE [uJ,nz (lC .i64 z)] S _;rw [wrap_small (by omega) (by omega)];refine aEF (d:=d+12) hy ?_;refine aJo (d:=d+11) hy ⟨z1,by omega⟩ λb S1 hn=>?_;have vs0:LB .neq 26 (ni 0) (.int .i64 (.ofNat 0)) (.bool false):=λ{k}=>by rw [Wq];rfl
   rw [vE,vF,vs0,cF];obtain⟨sd,h1,_,_⟩:=hn;exact aGl (d:=d) hM Xk hy (by omega) (λs h=>⟨(hs s h).kind,(hs s h).what,hb s h⟩) hK l.length 0 y.most S1 (Dy z) sd (by omega) (by rw [hy.most];omega) h1 (BI.start ⟨z1,by omega⟩) (gF _)
end
end Go.Am
namespace Go.Am
open Go.RowKit Go.MapKept Go.Proofs
section
variable{S:St}{C:Nat->Prop}
theorem aGm{α:Type}{f:α->List Dt}{w:Nat}(hf:∀a,(f a).length=w)(l:List α):(l.flatMap f).length=l.length*w:=by
 induction l with
 | nil=>simp
 | cons a l ih=>rw [Bf,bH,ih,hf,qS,Nat.succ_mul];omega
theorem aGn{α:Type}{f:α->List Dt}{w:Nat}(hf:∀a,(f a).length=w):∀(l:List α) (j:Nat) (d:Dt),(l.flatMap f)[j]? =some d->0<w->∃k i a,j=k*w+i/\i<w/\l[k]? =some a/\(f a)[i]? =some d:=by
 intro l;induction l with
 | nil=>intro j d h;simp at h
 | cons a l ih=>
  intro j d h hw;rw [Bf]at h;by_cases c:j<w
  ·rw [fB (by rw [hf];exact c)]at h
   exact⟨0,j,a,by omega,c,rfl,h⟩
  ·rw [iG (by rw [hf];omega),hf]at h
   obtain⟨k,i,a',h1,h2,h3,h4⟩:=ih _ _ h hw;exact⟨k+1,i,a',by rw [Nat.succ_mul];omega,h2,h3,h4⟩
theorem aBw{its:List It}{v:Value}{d:D}(h:Rd S C (.list its) v d){α:Type}(f:α->List Dt)(g:α->Prop)(hp:0<its.length)(hlen:∀a,(f a).length=its.length)
 (hf:∀(vs:List Value) (ds:List D),RdA S C its vs ds->∃a,(∀(j:Nat) (d:Dt) (v:Value),(f a)[j]? =some d->vs[j]? =some v->WE S C d v)/\g a):
 ∃l:List α,WE S C (.list (l.flatMap f) l.length) v/\(∀a∈l,g a)/\l.length<=140737488355328/\l.length*aB8 its<=140737488355328:=by
 cases h with
 | empty=>exact⟨[],.nil,(λa h=>by cases h),gF _,by simp⟩
 | Tq=>exact⟨[],.emp,(λa h=>by cases h),gF _,by simp⟩
 | @row _ b o n c sp vs e ck es CW hb hC ho hw hn hl hd hN hnc hr=>
  have each:∀k:Nat,k<n->∃a:α,(∀(j:Nat) (d:Dt) (v:Value),(f a)[j]? =some d->vs[o+k*its.length+j]? =some v->WE S C d v)/\g a:=by
   intro k hk;have Tg:k<es.length:=by omega
   have hds:=hd es[k] (nO Tg)
   have hle:k*its.length+its.length<=n*its.length:=by
    have:(k+1)*its.length<=n*its.length:=lB _ hk
    rwa [mG,Nat.one_mul]at this
   obtain⟨a,h1,h2⟩:=hf ((vs.drop (o+k*its.length)).take its.length) es[k] ⟨by rw [jL,qT];omega,hds,λj it v d a1 a2 a3=>by
    rw [kR]at a2;split at a2
    ·rw [kS]at a2
     exact hr k es[k] j it v d (aP Tg) a1 a2 a3
    ·cases a2⟩
   refine⟨a,λj d v e1 e2=>h1 j d v e1 ?_,h2⟩;have:j<its.length:=by rw [<-hlen a];exact(dS.1 e1).1
   rw [kR,if_pos this,kS];exact e2
  rcases MH n with h0 | h0
  ·subst h0
   exact⟨[],.row CW hb hC ho (by simp;omega) hnc (λj d v e=>by simp at e),(λa h=>by cases h),gF _,by simp⟩
  ·obtain⟨a0,_⟩:=each 0 h0
   let F:Nat->α:=λk=>if h:k<n then(each k h).choose else a0
   have hF:∀k,k<n->(∀(j:Nat) (d:Dt) (v:Value),(f (F k))[j]? =some d->vs[o+k*its.length+j]? =some v->WE S C d v)/\g (F k):=λk h=>by
    show(∀(j:Nat) (d:Dt) (v:Value),(f (if h:k<n then(each k h).choose else a0))[j]? =some d->vs[o+k*its.length+j]? =some v->WE S C d v)/\g (if h:k<n then(each k h).choose else a0);rw [dif_pos h];exact(each k h).choose_spec
   refine⟨(List.range n).map F,?_,λa ha=>?_,by simpa using hN.1,by simpa using hN.2⟩
   ·have:WE S C (.list (((List.range n).map F).flatMap f) n) (.slice (some ⟨b,o,sp⟩) n c):=by
     refine .row CW hb hC ho (by rw [aGm hlen];simpa using hl) hnc λj d v e1 e2=>?_;obtain⟨k,i,a,q1,q2,q3,q4⟩:=aGn hlen _ _ _ e1 hp;rw [jA]at q3;cases hj:(List.range n)[k]? with
     | none=>rw [hj]at q3;cases q3
     | some q=>
      rw [hj]at q3;injection q3 with q3;have hjn:k<n:=by have:=(dS.1 hj).1;simpa using this
      rw [Is hjn]at hj;injection hj with hj;subst hj q3 q1;exact(hF k hjn).1 i d v q4 (by rw [uQ];exact e2)
    simpa using this
   ·obtain⟨k,hk,rfl⟩:=mF.1 ha
    exact(hF k (by simpa using hk)).2
theorem aJz{α:Type}(f:α->Dt)(l:List α):l.flatMap (λa=>[f a])=l.map f:=by
 induction l with
 | nil=>rfl
 | cons a l ih=>rw [Bf,ih];rfl
theorem RdA.at{its:List It}{vs:List Value}{ds:List D}(h:RdA S C its vs ds){j:Nat}{it:It}{v:Value}(h1:its[j]? =some it)(h2:vs[j]? =some v):∃d,Rd S C it v d:=by
 have:j<ds.length:=by rw [h.Tp];exact(dS.1 h1).1
 exact⟨_,h.rd j it v _ h1 h2 (aP this)⟩
theorem RdA.ex{its:List It}{vs:List Value}{ds:List D}(h:RdA S C its vs ds){j:Nat}{it:It}(h1:its[j]? =some it):∃v d,vs[j]? =some v/\Rd S C it v d:=by
 have:j<vs.length:=by rw [h.len];exact(dS.1 h1).1
 obtain⟨d,hd⟩:=h.at h1 (aP this);exact⟨_,d,aP this,hd⟩
theorem aJA{it:It}{v:Value}{d:D}(h:Rd S C (.list [it]) v d){α:Type}(f:α->Dt)(g:α->Prop)(hf:∀(v:Value) (d:D),Rd S C it v d->∃a,WE S C (f a) v/\g a):∃l:List α,WE S C (.list (l.map f) l.length) v/\(∀a∈l,g a)/\l.length<=140737488355328/\l.length*wIt it<=140737488355328:=by
 obtain⟨l,h1,h2,h3,h4⟩:=aBw h (λa=>[f a]) g (Nat.zero_lt_one) (λ_=>rfl) (λvs ds hr=>by
  obtain⟨u,d,q1,q2⟩:=hr.ex (j:=0) rfl;obtain⟨a,q3,q4⟩:=hf u d q2;refine⟨a,λj d v e1 e2=>?_,q4⟩
  match j,e1 with
  | 0,e1=>injection e1 with e1;rw [q1]at e2;injection e2 with e2;subst e1 e2;exact q3)
 rw [aJz]at h1;exact⟨l,h1,h2,h3,by simpa [aB8]using h4⟩
theorem aJB{v:Value}{d:D}(h:Rd S C .nums v d):∃l:List Nat,WE S C (.list (l.map λn=>Dt.int .u64 (.ofNat n)) l.length) v/\l.length<=140737488355328:=by
 cases h with
 | nums h=>
  obtain⟨l,h1,_,h3,_⟩:=aJA h (λz:Nat=>Dt.int .u64 (.ofNat z)) (λ_=>True) λv d q=>by cases q with | @num z h=>exact⟨z,.int,trivial⟩
  exact⟨l,h1,h3⟩
theorem aLy{v:Value}{d:D}(h:Rd S C (.list [.int]) v d):∃l:List Int,WE S C (.list (OV l) l.length) v/\l.length<=140737488355328:=by
 obtain⟨l,h1,_,h3,_⟩:=aJA h (Dt.int .i64) (λ_=>True) λv d q=>by
  obtain⟨z,rfl,_,_,_⟩:=q.FO;exact⟨z,.int,trivial⟩
 exact⟨l,h1,h3⟩
theorem aLz{v:Value}{d:D}(h:Rd S C (.list [.text]) v d):∃l:List (List UInt8),WE S C (.list (eF l) l.length) v/\(∀t∈l,t.length<=140737488355328)/\l.length<=140737488355328:=by
 obtain⟨l,h1,h2,h3,_⟩:=aJA h Dt.str (λt=>t.length<=140737488355328) λv d q=>by cases q with | text h=>exact⟨_,.str,h⟩
 exact⟨l,h1,h2,h3⟩
def Xb:List It:=[.kind,.kind,.int,.int,.int,.int,.int,.int,.int,.int,.text,.nums,.list [.int],.text,.list [.text]]
theorem aLA{vs:List Value}{ds:List D}(hr:RdA S C Xb vs ds):∃s:TR,(∀(j:Nat) (d:Dt) (v:Value),s.dt[j]? =some d->vs[j]? =some v->WE S C d v)/\Sml s:=by
 obtain⟨u0,d0,a0,b0⟩:=hr.ex (j:=0) rfl;obtain⟨u1,d1,a1,b1⟩:=hr.ex (j:=1) rfl;obtain⟨u2,d2,a2,b2⟩:=hr.ex (j:=2) rfl;obtain⟨u3,d3,a3,b3⟩:=hr.ex (j:=3) rfl;obtain⟨u4,d4,a4,b4⟩:=hr.ex (j:=4) rfl;obtain⟨u5,d5,a5,b5⟩:=hr.ex (j:=5) rfl;obtain⟨u6,d6,a6,b6⟩:=hr.ex (j:=6) rfl;obtain⟨u7,d7,a7,b7⟩:=hr.ex (j:=7) rfl;obtain⟨u8,d8,a8,b8⟩:=hr.ex (j:=8) rfl;obtain⟨u9,d9,a9,b9⟩:=hr.ex (j:=9) rfl;obtain⟨u10,d10,a10,b10⟩:=hr.ex (j:=10) rfl;obtain⟨u11,d11,a11,b11⟩:=hr.ex (j:=11) rfl;obtain⟨u12,d12,a12,b12⟩:=hr.ex (j:=12) rfl;obtain⟨u13,d13,a13,b13⟩:=hr.ex (j:=13) rfl;obtain⟨u14,d14,a14,b14⟩:=hr.ex (j:=14) rfl;obtain⟨what,rfl,_,hw⟩:=b0.Zp;obtain⟨kind,rfl,_,hk⟩:=b1.Zp;obtain⟨z2,rfl,_,_,_⟩:=b2.FO;obtain⟨z3,rfl,_,_,_⟩:=b3.FO;obtain⟨z4,rfl,_,_,_⟩:=b4.FO;obtain⟨z5,rfl,_,_,_⟩:=b5.FO;obtain⟨z6,rfl,_,_,_⟩:=b6.FO;obtain⟨z7,rfl,_,_,_⟩:=b7.FO;obtain⟨z8,rfl,_,_,_⟩:=b8.FO;obtain⟨z9,rfl,_,_,_⟩:=b9.FO;obtain⟨tx,rfl,ht⟩:∃l:List UInt8,u10= .string ⟨⟨l⟩⟩/\l.length<=140737488355328:=by cases b10 with | text h=>exact⟨_,rfl,h⟩
 obtain⟨ns,g11,hn⟩:=aJB b11;obtain⟨ms,g12,hms⟩:=aLy b12;obtain⟨wa,rfl,XD⟩:∃l:List UInt8,u13= .string ⟨⟨l⟩⟩/\l.length<=140737488355328:=by cases b13 with | text h=>exact⟨_,rfl,h⟩
 obtain⟨may,g14,hmy,DT⟩:=aLz b14;refine⟨⟨what,⟨kind,z2,z3,z4,z5,z6,z7,z8,z9,tx,ns⟩,ms,wa,may⟩,λj d v e1 e2=>?_,⟨hk,hw,ht,hn,hms,XD,DT,hmy⟩⟩
 match j,e1 with
 | 0,e1=>injection e1 with e1;rw [a0]at e2;injection e2 with e2;subst e1 e2;exact .int
 | 1,e1=>injection e1 with e1;rw [a1]at e2;injection e2 with e2;subst e1 e2;exact .int
 | 2,e1=>injection e1 with e1;rw [a2]at e2;injection e2 with e2;subst e1 e2;exact .int
 | 3,e1=>injection e1 with e1;rw [a3]at e2;injection e2 with e2;subst e1 e2;exact .int
 | 4,e1=>injection e1 with e1;rw [a4]at e2;injection e2 with e2;subst e1 e2;exact .int
 | 5,e1=>injection e1 with e1;rw [a5]at e2;injection e2 with e2;subst e1 e2;exact .int
 | 6,e1=>injection e1 with e1;rw [a6]at e2;injection e2 with e2;subst e1 e2;exact .int
 | 7,e1=>injection e1 with e1;rw [a7]at e2;injection e2 with e2;subst e1 e2;exact .int
 | 8,e1=>injection e1 with e1;rw [a8]at e2;injection e2 with e2;subst e1 e2;exact .int
 | 9,e1=>injection e1 with e1;rw [a9]at e2;injection e2 with e2;subst e1 e2;exact .int
 | 10,e1=>injection e1 with e1;rw [a10]at e2;injection e2 with e2;subst e1 e2;exact .str
 | 11,e1=>injection e1 with e1;rw [a11]at e2;injection e2 with e2;subst e1 e2;exact g11
 | 12,e1=>injection e1 with e1;rw [a12]at e2;injection e2 with e2;subst e1 e2;exact g12
 | 13,e1=>injection e1 with e1;rw [a13]at e2;injection e2 with e2;subst e1 e2;exact .str
 | 14,e1=>injection e1 with e1;rw [a14]at e2;injection e2 with e2;subst e1 e2;exact g14
theorem aJC{v:Value}{d:D}(h:Rd S C (.list Xb) v d):∃l:List TR,WE S C (.list (Dz l) l.length) v/\(∀s∈l,Sml s)/\l.length<=140737488355328:=by
 obtain⟨l,h1,h2,h3,_⟩:=aBw h TR.dt Sml (by decide) (λ_=>rfl) (λvs ds hr=>aLA hr);exact⟨l,h1,h2,h3⟩
end
def c0(ws:List Value)(n:Nat):Cx:=⟨λ_=>none,λ_ _=>none,λk=>ws[k]?,n⟩
theorem aJD(P:Program)(S:St)(ws:List Value):VS P (λ_=>False) S (c0 ws S.n) (λ_=>none) S:=by
 refine⟨.refl S,λb h=>h.elim,(λi o e _=>by cases e),(λi vs t n e=>by cases e),λi j b l _=>?_,(λi n w e=>by cases e),⟨0,λi _=>⟨rfl,rfl,λn=>rfl⟩⟩,⟨ws.length,λk hk=>GH hk⟩,(λi vs t n m b e=>by cases e),(λi vs t n b w e o e1=>by cases e1)⟩;rcases l with ⟨o,e,_⟩ | ⟨vs,t,n,m,e,_⟩<;>cases e
theorem aGo{ws:List Value}{n b:Nat}:¬cY (λ_=>False) (c0 ws n) (λ_=>none) b:=by
 rintro(h | ⟨i,⟨o,e,_⟩ | ⟨vs,t,n,m,e,_⟩⟩)
 ·exact h
 ·cases e
 ·cases e
theorem aJE{ws:List Value}(S:St):AZ (λ_=>False) S S (cY (λ_=>False) (c0 ws S.n) (λ_=>none)):=⟨bI _,λ_ _ _=>rfl,λb hb=>(aGo hb).elim⟩
theorem Lay.none{P:Program}{w:World}(hsz:P.globals.size<=w.heap.size):Lay P w (Rn.globals P.globals.size) (St.none P.globals.size):=by
 refine⟨Rel.none hsz,λi o h=>?_⟩;have:(St.none P.globals.size).obj i=Option.none:=rfl;rw [this]at h;cases h
def aLB:V->Prop
 | .bool b=>b=true
 | _=>False
theorem aGp{W:World}{U:Rn}{S:St}(hsz:PP.globals.size<=W.heap.size)(hg:Laid gs W)(hl:Lay PP W U S)(roots:List Value){f:FuncId}{va:List V}{us vs:List Value}{M m:Nat}(ra:kW (c0 roots S.n) S (cY (λ_=>False) (c0 roots S.n) (λ_=>none)) va us)(hu:lD U us vs)
 (hv:(Ut PP fT gT M m).call f va (λ_=>none) (λv _=>aLB v)):Calls PP f ⟨vs⟩ W (λe w'=>e= .returned (.bool true)/\Below W.heap.size W w'):=by
 have hk:=(aIx (P:=PP) (B:=λ_=>False) (Sbz:=S) (tb:=fT) aNP M m).aEl f (aJD PP S roots) ra (K:=λv _=>isTrue v) (λc' h' S' v w _ _ _ r hb=>by
  cases r with
  | bool=>exact hb
  | _=>cases hb) hv
 obtain⟨_,OA⟩:=(aCn (P:=PP) (w0:=W) (tb:=fT) (most:=M) (aKi (w:=W) hsz hg) names mixed m).1 f us S (λv _=>isTrue v) U W vs hk hl.1 hu;refine Calls.mono (callsIn_wide.1 OA) ?_
 rintro e w' ⟨v',rfl,U3,v,S3,tZ,hv,hrel,_⟩
 cases v with
 | bool b=>
  have hb:b=true:=tZ;subst hb;rw [hv.of_flat rfl];exact⟨rfl,hrel.base⟩
 | _=>cases tZ
theorem aPK:aB7 PP 8 47=some [.list Xb]:=by kernel_rfl
theorem aJF{H:Type}{enc:TypeId×Value->H}{W:World}{t:TypeId}{its:List It}(hits:aB7 PP 8 t=some [.list its]){v:Value}{d:DataW H}{p:List MemPlace}(hc:v.cells= #[v])(h:DataW.Trod enc PP W 0 (λ_=>true) true t v d p)(hz:∀b off,MemPlace.cell b off∈p->W.frozen? ⟨b,off,none⟩=false)(hw:∀x∈d.weights PP t,x<=reachBytes)
 {U:Rn} {S:St} (hl:Lay PP W U S):∃U' S' u D,Ext U U'/\Lay PP W U' S'/\MX S S'/\VR U' u v/\Rd S' (λ_=>False) (.list its) u D:=by
 obtain⟨F,hF⟩:=h;obtain⟨U',S',vs,ds,e1,l1,x1,GU,hr⟩:=lay (P:=PP) (w:=W) (λ_=>true) (λ_=>rfl) F 8 t v.cells.toList d p hF hz hw [.list its] hits U S hl;rw [hc]at GU;have hlen:vs.length=1:=hr.len
 match vs,hlen,GU,hr with
 | [u],_,GU,hr=>
  have hd:ds.length=1:=hr.Tp
  match ds,hd,hr with
  | [d1],_,hr=>exact⟨U',S',u,d1,e1,l1,x1,GU.2 0 u v rfl rfl,hr.rd 0 _ _ _ rfl rfl rfl⟩
theorem called_anew{H:Type}{enc:TypeId×Value->H}{W:World}(hsz:PP.globals.size<=W.heap.size)(hg:Laid gs W){me:Int}
 {v2:Value} {d2:DataW H} {p2:List MemPlace} (Ht:v2.cells= #[v2]) (h2:DataW.Trod enc PP W 0 (λ_=>true) true 47 v2 d2 p2) (XB:∀b off,MemPlace.cell b off∈p2->W.frozen? ⟨b,off,none⟩=false) (hw2:∀x∈d2.weights PP 47,x<=reachBytes):
 Calls PP qH ⟨[.int .i64 me,v2]⟩ W (λe w'=>e= .returned (.bool true)/\Below W.heap.size W w'):=by
 obtain⟨U,S,u2,D2,_,hl,_,hu2,hr2⟩:=aJF aPK Ht h2 XB hw2 (Lay.none hsz);obtain⟨l,ht,hs,hll⟩:=aJC hr2;have fr:=aJE (ws:=[u2]) S
 refine aGp (M:=100001) (m:=14) hsz hg hl [u2] (va:=[nz me,.list (.root 0) (Dz l) l.length]) (us:=[.int .i64 me,u2])
  (.cons .int (.cons (.list (.root rfl) (ht.mono fr)) .nil))
  (.cons (VR.flat rfl) (.cons hu2 (.nil _))) ?_
 exact aN5 (d:=0) (by decide) (by decide) (aFD 14) hll hs λ_=>rfl
end Go.Am
