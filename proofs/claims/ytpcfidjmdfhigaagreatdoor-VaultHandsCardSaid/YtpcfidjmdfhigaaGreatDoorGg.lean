/- vault: weights of two places at 0. -/
import Derived.Test.YtpcfidjmdfhigaaGreatDoorGf
import Derived.Test.YtpcfidjmdfhigaaGreatDoorGe
import Derived.Test.YtpcfidjmdfhigaaGreatDoorGd

noncomputable section
set_option maxRecDepth 100000
set_option linter.unusedVariables false
namespace Go.Am
open Go.Proofs.JJ
section
variable{M n:Nat}{x:VE}{S S0:Hp}{K:KV}{two:Bool}{t:Tag}{a b:Nat}
structure Cap (S:Hp) (t:Tag) (a b i:Nat) (p0 p1 p3 p2:Nat):Prop where
 xs:S p0=some (.row [.list t (iV [a,b]) 2] 51)
 i:S p1=some (.row [ni i] 3)
 q:S p3=some (.row [nu 11] 22)
 at0:S p2=some (.row [nu 0] 22)
theorem Cap.up{S S':Hp}{i p0 p1 p3 p2:Nat} (h:Cap S t a b i p0 p1 p3 p2) (hs:∀j o,S j=some o->j=p0\/j=p1\/j=p3\/j=p2->S' j=some o):Cap S' t a b i p0 p1 p3 p2:=
 ⟨hs _ _ h.xs (.inl rfl),hs _ _ h.i (.inr (.inl rfl)),hs _ _ h.q (.inr (.inr (.inl rfl))),hs _ _ h.at0 (.inr (.inr (.inr rfl)))⟩
theorem aCZ{k:Nat} (hk:k<2){c:V->Prop}:cI 1 (.list t (iV [a,b]) 2) (ni k) c=c (.nU t (iV [a,b]) k):=by rw [gW hk,jQ]
theorem aC0{k:Nat} (hk:k<2):aU (.nU t (iV [a,b]) k) S K=K (nu (fY k a b)) S:=by
 match k,hk with
 | 0,_=>rfl
 | 1,_=>rfl
theorem Te{y:VE}{l i m p0 p1 p3 p2:Nat} (hi:i<2) (h:Cap S t a b i p0 p1 p3 p2) (hk:gU y m (.yield l) (.ptr p0 0) (.ptr p1 0) (.ptr p3 0) (.ptr p2 0) (.list t (iV [a,b]) 2) (ni 2) (ni (i+1)) S K):
 gU y (m+1) (.yield l) (.ptr p0 0) (.ptr p1 0) (.ptr p3 0) (.ptr p2 0) (.list t (iV [a,b]) 2) (ni 2) (ni i) S K:=by
 rw [AK];unfold tU gP gL gK gC gQ;refine aE ?_;have li:∀{K:KV},aU (.ptr p1 0) S K=K (ni i) S:=cW h.i rfl;rw [aO,yQ hi,bR,aCZ hi,aC0 hi,li,tZ,bF rfl,eQ]
 repeat (rw [aF,kD];try dsimp only)
 repeat (rw [aF,oQ])
 rw [li,cM]
 repeat (rw [aF,kD];try dsimp only)
 repeat (rw [aF,oQ])
 rw [li,cM]
 repeat (rw [aF,kD];try dsimp only)
 repeat (rw [aF,oQ])
 rw [li,cM]
 repeat (rw [aF,kD];try dsimp only)
 rw [aF,dS,bC,bD (by omega)];exact hk
theorem Ln{y:VE} (hy:Deep PP bI gM M (n+1) y){l i k m p0 p1 p3 p2:Nat} (hi:i<2) (vZ:k<2) (oX:k≠i) (ha:a<11) (hb:b<11) (h:Cap S t a b i p0 p1 p3 p2)
 (hk:∀K':KV,(∀S',Cap S' t a b i p0 p1 p3 p2->gU y m (.yield l) (.ptr p0 0) (.ptr p1 0) (.ptr p3 0) (.ptr p2 0) (.list t (iV [a,b]) 2) (ni 2) (ni (k+1)) S' K->K' (.bool true) S')->y.R l [nu (iJ (fY i a b) (fY k a b) 11),nu (iJ 0 (fY k a b) 11)] S K'):
 gU y (m+1) (.yield l) (.ptr p0 0) (.ptr p1 0) (.ptr p3 0) (.ptr p2 0) (.list t (iV [a,b]) 2) (ni 2) (ni k) S K:=by
 rw [AK];unfold tU gP gL gK gC gQ;refine aE ?_;have li:∀{K:KV},aU (.ptr p1 0) S K=K (ni i) S:=cW h.i rfl;have lx:∀{K:KV},aU (.ptr p0 0) S K=K (.list t (iV [a,b]) 2) S:=cW h.xs rfl;have lq:∀{K:KV},aU (.ptr p3 0) S K=K (nu 11) S:=cW h.q rfl;have la:∀{K:KV},aU (.ptr p2 0) S K=K (nu 0) S:=cW h.at0 rfl;have sm:∀{p:Prop},aW (.list t (iV [a,b]) 2) (.list t (iV [a,b]) 2) p=p:=fun {p}=>cK rfl;rw [aO,yQ vZ,bR,aCZ vZ,aC0 vZ,li,tZ,bN oX,BN];rw [aF,aM];try dsimp only
 rw [aF,aM,lx];try dsimp only
 rw [aF,aM,li];try dsimp only
 rw [aF,aM,aCZ hi];try dsimp only
 rw [aF,aM,aC0 hi];try dsimp only
 rw [aF,aM];try dsimp only
 rw [aF,aM,lq];try dsimp only
 rw [aF,aM,la];try dsimp only
 rw [aF,aM];try dsimp only
 rw [aF,aM,lq];try dsimp only
 rw [aF,aM];try dsimp only
 refine aB4 hy (lV (MY ha hb)) (lV (MY ha hb)) qQ ?_
 try dsimp only
 rw [aF,kY,lq,cM,aF,kY,la,cM,aF,kY,li,cM,aF,kY,lx,sm,li,cM];rw [aF,aM];try dsimp only
 refine aB4 hy (by decide) (lV (MY ha hb)) qQ ?_
 try dsimp only
 rw [aF,kY,li,cM,aF,kY,lx,sm,li,cM];rw [aF,aM];try dsimp only
 refine hk _ fun S' h' hn=>?_;have li':∀{K:KV},aU (.ptr p1 0) S' K=K (ni i) S':=cW h'.i rfl;have lx':∀{K:KV},aU (.ptr p0 0) S' K=K (.list t (iV [a,b]) 2) S':=cW h'.xs rfl
 try dsimp only
 rw [aF,kY,li',cM,aF,kY,lx',sm,li',cM];rw [aF,aM];try dsimp only
 rw [lR,eQ,aF,dW,bC,bD (by omega)];exact hn
def Vh (q u o:Nat) (st:LoopState):Ob:= .loop [7,11,12] [.ptr q 0,.ptr u 0,.ptr o 0] 45 (EE PP eH [.r,.r,.l,.r,.d]) (EG PP eH [.r,.r,.l,.r,.d]) (yX PP eH [.r,.r,.l,.r,.d]) st none
theorem aQd{y:VE} (hy:Deep PP bI gM M (n+2) y){l q u o own far uu oo:Nat} (hl:S l=some (Vh q u o .ready)) (rq:S q=some (.row [nu 11] 22)) (ru:S u=some (.row [nu uu] 22)) (ro:S o=some (.row [nu oo] 22)) (huo:u≠o) (hU:uu<11) (hO:oo<11) (h1:own<11) (h2:far<11)
 (hK:K (.bool true) (aJ (aJ (aJ (aJ S l (Vh q u o .busy)) u (.row [nu (uu*own%11)] 22)) o (.row [nu (oo*far%11)] 22)) l (Vh q u o .ready))):y.R l [nu own,nu far] S K:=by
 refine hy.round fun z hz=>?_;refine QP (st:= .ready) (pe:=none) hl Ds ?_;rw [Dr];unfold JZ;refine XQ hl ?_;have hlu:l≠u:=fun e=>by subst e;rw [ru]at hl;cases hl
 have hlo:l≠o:=fun e=>by subst e;rw [ro]at hl;cases hl
 have hlq:l≠q:=fun e=>by subst e;rw [rq]at hl;cases hl
 show(aU (.ptr u 0) (aJ S l (Vh q u o .busy)) fun v0 S=>aU (.ptr q 0) S fun v1 S=>_);have rq1:aJ S l (Vh q u o .busy) q=some (.row [nu 11] 22):=by rw [aC (aN hlq)];exact rq
 have ru1:aJ S l (Vh q u o .busy) u=some (.row [nu uu] 22):=by rw [aC (aN hlu)];exact ru
 have ro1:aJ S l (Vh q u o .busy) o=some (.row [nu oo] 22):=by rw [aC (aN hlo)];exact ro
 have Vt:aJ S l (Vh q u o .busy) l=some (Vh q u o .busy):=aB;generalize aJ S l (Vh q u o .busy)=S1 at hK rq1 ru1 ro1 Vt;have lq:∀{K:KV},aU (.ptr q 0) S1 K=K (nu 11) S1:=cW rq1 rfl;have lo:∀{K:KV},aU (.ptr o 0) S1 K=K (nu oo) S1:=cW ro1 rfl;rw [cW ru1 rfl,lq,lo,lq];refine QL hz (lV hU) (lV h1) qQ ?_;rw [lq,cM,lo,cM];refine QL hz (lV hO) (lV h2) qQ ?_;rw [EC ru1 (show 0<1 by decide) rfl,EC (i:=o) (vs:=[nu oo]) (t:=22) (by rw [aC (aN huo)];exact ro1) (show 0<1 by decide) rfl];refine XR (pe:=none) (st:= .busy) (n:=45) (ls:=[7,11,12]) (vs:=[.ptr q 0,.ptr u 0,.ptr o 0]) (by rw [aC hlo,aC hlu];exact Vt) ?_;exact hK
theorem aLD (hM:10<M) (hx:Deep PP bI gM M (n+4) x){i k iv:Nat} (hi:i<2) (hk:k<2) (oX:k≠i) (ha:a<11) (hb:b<11) (hiv:aCW (1*iJ (fY i a b) (fY k a b) 11%11) iv)
 (hK:K (.tuple [nu iv,nu (1*iJ 0 (fY k a b) 11%11),ni 0]) S):x.call eH [.list t (iV [a,b]) 2,ni i,nu 0,nu 11] S K:=by
 refine hx.call rfl fun y hy=>?_;rw [aAW];unfold Hm;refine ZY rfl fun q hq=>?_;have rq:aJ S q (.row [nu 11] 22) q=some (.row [nu 11] 22):=aB;have dH:bP S (aJ S q (.row [nu 11] 22)):= .aI hq;generalize aJ S q (.row [nu 11] 22)=S1 at rq dH;have lq:∀{K:KV},aU (.ptr q 0) S1 K=K (nu 11) S1:=cW rq rfl;rw [lq,Av (by decide),lq,Av (by decide),lq,cM,lq,cM];refine⟨cB (l:=[nu 0]) rfl fun _ _=>trivial,cB (l:=[nu 0]) rfl fun _ _=>trivial,?_⟩;refine cB (l:=[nu 0]) rfl fun u hu=>?_;have ru:aJ S1 u (.row [nu 0] 22) u=some (.row [nu 0] 22):=aB;have fF:bP S1 (aJ S1 u (.row [nu 0] 22)):= .aI hu;have hu0:S u=none:=dH.none hu;generalize aJ S1 u (.row [nu 0] 22)=S2 at ru fF;refine cB (l:=[nu 0]) rfl fun o ho=>?_;have ro:aJ S2 o (.row [nu 0] 22) o=some (.row [nu 0] 22):=aB;have pK:bP S2 (aJ S2 o (.row [nu 0] 22)):= .aI ho;have ho0:S o=none:=dH.none (fF.none ho);have huo:u≠o:=fun e=>by subst e;rw [ru]at ho;cases ho
 have ru3:=pK _ _ ru;have rq3:=pK _ _ (fF _ _ rq);have hqu:q≠u:=fun e=>by subst e;rw [rq]at hu;cases hu
 have hqo:q≠o:=fun e=>by have:=fF _ _ rq;rw [e,ho]at this;cases this
 have DC:=(dH.trans fF).trans pK;generalize aJ S2 o (.row [nu 0] 22)=S3 at ro ru3 rq3 DC;have hse:[nu 0].set 0 (nu (1%11))=[nu 1]:=rfl;rw [EC ru3 (show 0<1 by decide) rfl,hse];have ru4:aJ S3 u (.row [nu 1] 22) u=some (.row [nu 1] 22):=aB;have rq4:aJ S3 u (.row [nu 1] 22) q=some (.row [nu 11] 22):=by rw [aC hqu];exact rq3
 have ro4:aJ S3 u (.row [nu 1] 22) o=some (.row [nu 0] 22):=by rw [aC (aN huo)];exact ro
 have HI:bP S (aJ S3 u (.row [nu 1] 22)):=fun j p e=>by rw [aC (fun c=>by rw [c,hu0]at e;cases e)];exact DC _ _ e
 generalize aJ S3 u (.row [nu 1] 22)=S4 at ru4 rq4 ro4 HI;rw [cW rq4 rfl,cM,EC ro4 (show 0<1 by decide) rfl,hse];have ro5:aJ S4 o (.row [nu 1] 22) o=some (.row [nu 1] 22):=aB;have rq5:aJ S4 o (.row [nu 1] 22) q=some (.row [nu 11] 22):=by rw [aC hqo];exact rq4
 have ru5:aJ S4 o (.row [nu 1] 22) u=some (.row [nu 1] 22):=by rw [aC huo];exact ru4
 have FK:bP S (aJ S4 o (.row [nu 1] 22)):=fun j p e=>by rw [aC (fun c=>by rw [c,ho0]at e;cases e)];exact HI _ _ e
 generalize aJ S4 o (.row [nu 1] 22)=S5 at ro5 rq5 ru5 FK;rw [cW rq5 rfl];refine hy.call rfl fun z hz=>?_;rw [Vf];unfold Bq;refine ZY rfl fun p0 h0=>?_;have r0:aJ S5 p0 (.row [.list t (iV [a,b]) 2] 51) p0=some (.row [.list t (iV [a,b]) 2] 51):=aB;have g0:bP S5 (aJ S5 p0 (.row [.list t (iV [a,b]) 2] 51)):= .aI h0;generalize aJ S5 p0 (.row [.list t (iV [a,b]) 2] 51)=O1 at r0 g0;refine ZY rfl fun p1 h1=>?_;have r1:aJ O1 p1 (.row [ni i] 3) p1=some (.row [ni i] 3):=aB;have g1:bP O1 (aJ O1 p1 (.row [ni i] 3)):= .aI h1;generalize aJ O1 p1 (.row [ni i] 3)=O2z at r1 g1;refine ZY rfl fun p2 h2=>?_;have r2:aJ O2z p2 (.row [nu 0] 22) p2=some (.row [nu 0] 22):=aB;have g2:bP O2z (aJ O2z p2 (.row [nu 0] 22)):= .aI h2;generalize aJ O2z p2 (.row [nu 0] 22)=O3 at r2 g2;refine ZY rfl fun p3 h3=>?_;have r3:aJ O3 p3 (.row [nu 11] 22) p3=some (.row [nu 11] 22):=aB;have g3:bP O3 (aJ O3 p3 (.row [nu 11] 22)):= .aI h3;have gA:bP S5 (aJ O3 p3 (.row [nu 11] 22)):=((g0.trans g1).trans g2).trans g3;have cap:Cap (aJ O3 p3 (.row [nu 11] 22)) t a b i p0 p1 p3 p2:=⟨g3 _ _ (g2 _ _ (g1 _ _ r0)),g3 _ _ (g2 _ _ r1),r3,g3 _ _ r2⟩;have n0:S5 p0=none:=h0;have n1:S5 p1=none:=g0.none h1;have n2:S5 p2=none:=g0.none (g1.none h2);have n3:S5 p3=none:=g0.none (g1.none (g2.none h3));generalize aJ O3 p3 (.row [nu 11] 22)=O4 at cap gA;refine aL ?_;refine QQ fun l hl=>?_;have hlo:aJ O4 l (.loop [7,11,12] [.ptr q 0,.ptr u 0,.ptr o 0] 45 (EE PP eH [.r,.r,.l,.r,.d]) (EG PP eH [.r,.r,.l,.r,.d]) (yX PP eH [.r,.r,.l,.r,.d]) .ready none)=aJ O4 l (Vh q u o .ready):=rfl;rw [hlo];have hl6:aJ O4 l (Vh q u o .ready) l=some (Vh q u o .ready):=aB;have VP:bP O4 (aJ O4 l (Vh q u o .ready)):= .aI hl;have Jv:Cap (aJ O4 l (Vh q u o .ready)) t a b i p0 p1 p3 p2:=cap.up fun j p e _=>VP _ _ e;have rq6:=VP _ _ (gA _ _ rq5);have ru6:=VP _ _ (gA _ _ ru5);have ro6:=VP _ _ (gA _ _ ro5);have leT:bP S (aJ O4 l (Vh q u o .ready)):=(FK.trans gA).trans VP;have hl0:S l=none:=(FK.trans gA).none hl;generalize aJ O4 l (Vh q u o .ready)=S6 at hl6 Jv rq6 ru6 ro6 leT;have hlu:l≠u:=fun e=>by subst e;rw [ru6]at hl6;cases hl6
 have aR4:l≠o:=fun e=>by subst e;rw [ro6]at hl6;cases hl6
 have hlq:l≠q:=fun e=>by subst e;rw [rq6]at hl6;cases hl6
 have fin:∀S',bP S S'->S' l=some (Vh q u o .ready)->S' q=some (.row [nu 11] 22)->S' u=some (.row [nu (1*iJ (fY i a b) (fY k a b) 11%11)] 22)->S' o=some (.row [nu (1*iJ 0 (fY k a b) 11%11)] 22)->
  Wv l S' fun pe S=>UJ pe (aU (.ptr u 0) S fun zE S=>aU (.ptr q 0) S fun AM S=>y.call yV [zE,AM] S fun wF S=>uG 0 wF fun yR=>uG 1 wF fun wU=>aU (.ptr o 0) S fun v20 S=>bE (.tuple [yR,v20,wU]) S K) (bE (.tuple [(.int .u64 (.ofNat 0)),(.int .u64 (.ofNat 0)),(.int .i64 (.ofNat 0))]) S K) (fun tO=>Bf tO 0 (aU (.ptr u 0) S fun v21 S=>aU (.ptr q 0) S fun NF S=>y.call yV [v21,NF] S fun EW S=>uG 0 EW fun v24=>uG 1 EW fun RA=>aU (.ptr o 0) S fun Bi S=>bE (.tuple [v24,Bi,RA]) S K) False):=by
  intro S' hle Tg hq' hu' WS;refine XS (st:= .ready) (pe:=none) (n:=45) (ls:=[7,11,12]) (vs:=[.ptr q 0,.ptr u 0,.ptr o 0]) Tg (by simp) ?_;rw [Fy];obtain⟨ob,hex⟩:∃ob,aJ S' l (.loop [7,11,12] [.ptr q 0,.ptr u 0,.ptr o 0] 45 (EE PP eH [.r,.r,.l,.r,.d]) (EG PP eH [.r,.r,.l,.r,.d]) (yX PP eH [.r,.r,.l,.r,.d]) .exhausted none)=aJ S' l ob:=⟨_,rfl⟩;rw [hex];have hq7:aJ S' l ob q=some (.row [nu 11] 22):=by rw [aC (aN hlq)];exact hq'
  have hu7:aJ S' l ob u=some (.row [nu (1*iJ (fY i a b) (fY k a b) 11%11)] 22):=by rw [aC (aN hlu)];exact hu'
  have ho7:aJ S' l ob o=some (.row [nu (1*iJ 0 (fY k a b) 11%11)] 22):=by rw [aC (aN aR4)];exact WS
  have le7:bP S (aJ S' l ob):=fun j p e=>by rw [aC (fun c=>by rw [c,hl0]at e;cases e)];exact hle _ _ e
  rw [cW hu7 rfl,cW hq7 rfl];refine aJp hy (lV (gI _ (by decide))) qQ (by rw [hiv.1]) ?_;rw [hiv.1];refine dB (v:=nu iv) rfl ?_;refine dB (v:=ni 0) rfl ?_;rw [cW ho7 rfl];exact bL le7 hK
 show y.call BI [.yield l,.ptr p0 0,.ptr p1 0,.ptr p3 0,.ptr p2 0] S6 _;refine hy.call rfl fun w hw=>?_;rw [Mu];unfold VC;rw [cW Jv.xs rfl];show gU w w.most (.yield l) (.ptr p0 0) (.ptr p1 0) (.ptr p3 0) (.ptr p2 0) (.list t (iV [a,b]) 2) (ni 2) (ni 0) S6 _;obtain⟨M',DH⟩:∃q,M=q+3:=⟨M-3,by omega⟩;rw [hw.most,DH];rw [DH]at hw
 have done:∀{S':Hp} {K':KV},K' (.tuple []) S'->gU w (M'+1) (.yield l) (.ptr p0 0) (.ptr p1 0) (.ptr p3 0) (.ptr p2 0) (.list t (iV [a,b]) 2) (ni 2) (ni 2) S' K':=fun {S' K'} h=>by
  rw [AK];unfold tU gP gL gK gC gQ;refine aE ?_;rw [aO,jO (by decide),bC];exact aL h
 have rnd:∀(K':KV),(∀S',Cap S' t a b i p0 p1 p3 p2->bP S S'->S' l=some (Vh q u o .ready)->S' q=some (.row [nu 11] 22)->S' u=some (.row [nu (1*iJ (fY i a b) (fY k a b) 11%11)] 22)->S' o=some (.row [nu (1*iJ 0 (fY k a b) 11%11)] 22)->K' (.bool true) S')->w.R l [nu (iJ (fY i a b) (fY k a b) 11),nu (iJ 0 (fY k a b) 11)] S6 K':=by
  intro K' xE;refine aQd (n:=n) hw hl6 rq6 ru6 ro6 huo (by decide) (by decide) (Ny _ _) (Ny _ _) ?_;have aH1:∀j p,S6 j=some p->j≠l->j≠u->j≠o->aJ (aJ (aJ (aJ S6 l (Vh q u o .busy)) u (.row [nu (1*iJ (fY i a b) (fY k a b) 11%11)] 22)) o (.row [nu (1*iJ 0 (fY k a b) 11%11)] 22)) l (Vh q u o .ready) j=some p:=fun j p e h1 h2 h3=>by rw [aC h1,aC h3,aC h2,aC h1];exact e
  have nl:∀{j:Nat} {v:V} {ty:TypeId},S6 j=some (.row [v] ty)->j≠l:=fun {j v ty} e c=>by rw [c,hl6]at e;cases e
  have Zf:∀{j:Nat},S5 j=none->j≠u/\j≠o:=fun {j} h=>⟨(fun c=>by rw [c,ru5]at h;cases h),(fun c=>by rw [c,ro5]at h;cases h)⟩;refine xE _ ⟨aH1 _ _ Jv.xs (nl Jv.xs) (Zf n0).1 (Zf n0).2,aH1 _ _ Jv.i (nl Jv.i) (Zf n1).1 (Zf n1).2,aH1 _ _ Jv.q (nl Jv.q) (Zf n3).1 (Zf n3).2,aH1 _ _ Jv.at0 (nl Jv.at0) (Zf n2).1 (Zf n2).2⟩ (fun j p e=>?_) aB (aH1 _ _ rq6 (aN hlq) hqu hqo) ?_ ?_
  ·exact aH1 _ _ (leT _ _ e) (fun c=>by rw [c,hl0]at e;cases e) (fun c=>by rw [c,hu0]at e;cases e) (fun c=>by rw [c,ho0]at e;cases e)
  ·rw [aC (aN hlu),aC huo];exact aB
  ·rw [aC (aN aR4)];exact aB
 rcases(show i=0/\k=1\/i=1/\k=0 by omega)with ⟨rfl,rfl⟩ | ⟨rfl,rfl⟩
 ·
   refine Te (i:=0) (by decide) Jv ?_;refine Ln (n:=n+1) (i:=0) (k:=1) hw (by decide) (by decide) (by decide) ha hb Jv fun K' xE=>?_;refine rnd K' fun S' c1 c2 c3 c4 c5 c6=>xE S' c1 (done ?_);exact fin S' c2 c3 c4 c5 c6
 ·
   refine Ln (n:=n+1) (i:=1) (k:=0) hw (by decide) (by decide) (by decide) ha hb Jv fun K' xE=>?_;refine rnd K' fun S' c1 c2 c3 c4 c5 c6=>xE S' c1 ?_;refine Te (i:=1) (by decide) c1 (done ?_);exact fin S' c2 c3 c4 c5 c6
end
section
variable{M n:Nat}{x:VE}{S S0:Hp}{K:KV}{two:Bool}{t:Tag}{a b:Nat}
theorem aLE{j:Nat}:TG (.one (.int .u64)) (nu j):=rfl
theorem aLF (hM:10<M) (hx:Deep PP bI gM M (n+2) x) (ha:a<11) (hb:b<11) (hab:a≠b) (hK:K (ni 0) S):x.call HN [.list t (iV [a,b]) 2,nu 11] S K:=by
 refine hx.call rfl fun y hy=>?_;rw [Ve];unfold Bp;refine aO7 hy qQ ?_;rw [lR,eQ,bC,eU];show aH PP .gtr 3 (ni 2) (ni 1024) _;rw [SX,bN (by decide),bC,eU];intro m hm;show sM y y.most (.list t (iV [a,b]) 2) (nu 11) (.yZ m) (.list t (iV [a,b]) 2) (ni 2) (ni 0) (aJ S m (.map [])) K;have DI:aJ S m (.map []) m=some (.map []):=aB;have dH:bP S (aJ S m (.map [])):= .aI hm;generalize aJ S m (.map [])=S1 at DI dH;obtain⟨M',DH⟩:∃q,M=q+3:=⟨M-3,by omega⟩;rw [hy.most,DH,xB];unfold rB;refine aE ?_;rw [aO,yQ (by decide),bR,aCZ (show 0<2 by decide),aC0 (show 0<2 by decide)];show aH PP .rem 22 (nu a) (nu 11) _;rw [Av (by decide),OU ha];refine Rp DI aLE (fun e he=>by cases he) (fun v hv=>by cases hv) fun _=>?_;show aH PP .add 3 (ni 0) (ni 1) _;rw [bD (by decide)];unfold AC;simp only [DI];refine⟨aLE,(fun e he=>by cases he),?_⟩;have ZD:aJ S1 m (.map (PG [] (nu a) (ni (0+1)))) m=some (.map [(nu a,ni 1)]):=aB;have fF:bP S (aJ S1 m (.map (PG [] (nu a) (ni (0+1))))):=fun j p e=>by rw [aC (fun c=>by rw [c,hm]at e;cases e)];exact dH _ _ e
 generalize aJ S1 m (.map (PG [] (nu a) (ni (0+1))))=S2 at ZD fF;rw [bD (by decide),xB];unfold rB;refine aE ?_;rw [aO,yQ (by decide),bR,aCZ (show 1<2 by decide),aC0 (show 1<2 by decide)];show aH PP .rem 22 (nu b) (nu 11) _;have oX:¬(nu b=nu a):=fun e=>by injection e with _ e;injection e with e;exact hab e.symm
 have hks:∀e∈[(nu a,ni 1)],TG (.one (.int .u64)) e.1:=fun e he=>by rcases cC.1 he with rfl | he;exact aLE;cases he
 have Ej:YC [(nu a,ni 1)] (nu b)=none:=by simp only [YC];rw [aG oX]
 rw [Av (by decide),OU hb];refine Rp ZD aLE hks (fun v hv=>by rw [Ej]at hv;cases hv) fun _=>?_;show aH PP .add 3 (ni 0) (ni 1) _;rw [bD (by decide)];unfold AC;simp only [ZD];refine⟨aLE,hks,?_⟩;have wB:PG [(nu a,ni 1)] (nu b) (ni (0+1))=[(nu a,ni 1),(nu b,ni 1)]:=by simp only [PG];rw [aG oX]
 rw [wB];have hm3:aJ S2 m (.map [(nu a,ni 1),(nu b,ni 1)]) m=some (.map [(nu a,ni 1),(nu b,ni 1)]):=aB;have pK:bP S (aJ S2 m (.map [(nu a,ni 1),(nu b,ni 1)])):=fun j p e=>by rw [aC (fun c=>by rw [c,hm]at e;cases e)];exact fF _ _ e
 generalize aJ S2 m (.map [(nu a,ni 1),(nu b,ni 1)])=S3 at hm3 pK;rw [bD (by decide),xB];unfold rB;refine aE ?_;rw [aO,jO (by decide),bC];unfold Rm;simp only [hm3];rw [eU];show aH PP .lss 3 (ni 2) (ni 2) _;rw [aO,jO (by decide),bC];exact bL pK hK
def aTk (a b:Nat):Prop:=∃iv,aCW (1*iJ a b 11%11) iv/\wt a b=iv*(1*iJ 0 b 11%11)%11
theorem aGv (a b:Nat) (ha:a<5) (hb:b<5) (h0:0<a) (h1:0<b) (hab:a≠b):aTk a b:=by
 have:∀a<5,∀b<5,¬(0<a/\0<b/\a≠b)\/((DB (1*iJ a b 11%11%11+1) 11 (1*iJ a b 11%11%11) 0 (1%11) 11).1=1/\(DB (1*iJ a b 11%11%11+1) 11 (1*iJ a b 11%11%11) 0 (1%11) 11).2<11/\wt a b=(DB (1*iJ a b 11%11%11+1) 11 (1*iJ a b 11%11%11) 0 (1%11) 11).2*(1*iJ 0 b 11%11)%11):=by decide
 obtain⟨h1,h2,h3⟩:=(this a ha b hb).resolve_left (fun h=>h ⟨h0,h1,hab⟩);exact⟨_,⟨Prod.ext h1 rfl,h2⟩,h3⟩
theorem aH2 (hM:10<M) (hx:Deep PP bI gM M (n+6) x) (ha:a<5) (hb:b<5) (h0:0<a) (h1:0<b) (hab:a≠b) (hK:∀t,K (.tuple [.list t (iV (wts a b)) 2,ni 0]) S):x.C EV [.list t (iV [a,b]) 2,nu 0,nu 11] S K:=by
 refine hx.aQ7 rfl fun y hy=>?_;rw [Sw];unfold YR;refine aLF (n:=n+3) hM hy (by omega) (by omega) hab ?_;rw [tZ,bF rfl,eQ,bC,eU];show rA y y.most (.list t (iV [a,b]) 2) (nu 0) (nu 11) .nil (ni 2) (ni 0) S K;obtain⟨M',DH⟩:∃q,M=q+3:=⟨M-3,by omega⟩;obtain⟨iv0,w0,e0⟩:=aGv a b ha hb h0 h1 hab;obtain⟨iv1,w1,e1⟩:=aGv b a hb ha h1 h0 (aN hab);rw [hy.most,DH,vX];unfold pQ;refine aE ?_;rw [aO,yQ (by decide),bR];refine aLD (n:=n+1) (i:=0) (k:=1) (iv:=iv0) hM hy (by decide) (by decide) (by decide) (by omega) (by omega) w0 ?_;refine dB (v:=nu iv0) rfl ?_;refine dB (v:=nu (1*iJ 0 b 11%11)) rfl ?_;refine dB (v:=ni 0) rfl ?_;rw [tZ,bF rfl,eQ,bC];refine QL hy (lV w0.2) (lV (gI _ (by decide))) qQ ?_;rw [<-e0];refine(MN.nil (S0:=S)).app (.refl _) (by simp) fun u1 S1 dH k1 m1=>?_;rw [bD (by decide),vX];unfold pQ;refine aE ?_;rw [aO,yQ (by decide),bR];refine aLD (n:=n+1) (i:=1) (k:=0) (iv:=iv1) hM hy (by decide) (by decide) (by decide) (by omega) (by omega) w1 ?_;refine dB (v:=nu iv1) rfl ?_;refine dB (v:=nu (1*iJ 0 a 11%11)) rfl ?_;refine dB (v:=ni 0) rfl ?_;rw [tZ,bF rfl,eQ,bC];refine QL hy (lV w1.2) (lV (gI _ (by decide))) qQ ?_;rw [<-e1];refine m1.app dH (by simp) fun u2 S2 fF k2 m2=>?_;rw [bD (by decide),vX];unfold pQ;refine aE ?_;rw [aO,jO (by decide),bC];refine⟨S,fun O=> .tuple [.list (O 0) (iV (wts a b)) 2,ni 0],fF,fun O=> .tup ⟨rfl,fun j v u e1 e2=>?_⟩,fun O=>hK _⟩
 match j with
 | 0=>injection e1 with e1;injection e2 with e2;subst e1 e2;exact .ZE m2.Cy
 | 1=>injection e1 with e1;injection e2 with e2;subst e1 e2;exact .mI _
 | j+2=>simp at e1
theorem aLG{E:VE}{c:FuncId}{v:V}{args:List V}{cs:List Dt}{k:Nat}{S S':Hp} (hle:bP S' S) (h:Dx S' S v (.list cs k)) (hk:∀O,E.C c (.list O cs k::args) S' K):E.call c (v::args) S K:=by
 refine⟨S',fun O=> .list (O 0) cs k::args,hle,fun O=>⟨rfl,fun j w u e1 e2=>?_⟩,fun O=>hk _⟩
 match j with
 | 0=>injection e1 with e1;injection e2 with e2;subst e1 e2;exact .ZE h
 | j+1=>
  have e1:args[j]? =some w:=e1;have e2:args[j]? =some u:=e2;rw [e1]at e2;injection e2 with e2;subst e2;exact .mI _
theorem aGw{S0:Hp}{v:V}{l:List Int} (h:GL 3 S0 S v (lK l)){i:Nat} (hi:i<l.length):∃p,(∀k:V->Prop,cI 1 v (ni i) k=k p)/\∀S',bP S S'->∀K:KV,aU p S' K=K (.int .i64 l[i]) S':=by
 have:(lK l)[i]? =some (.int .i64 l[i]):=by unfold lK;rw [dJ,aQ hi];rfl
 obtain⟨p,t,h1,h2⟩:=h.at this;exact⟨p,fun k=>h1 _ k,fun S' hs K=>h2 S' hs K⟩
theorem aET (hM:1000000<M) (hx:Deep PP bI gM M (n+4) x){S0:Hp}{v:V}{d e:Int} (h:GL 3 S0 S v (lK [d,e])) (hd:1<=d/\d<=7) (he:1<=e/\e<=7) (hK:K (.bool true) S):x.call JF [v] S K:=by
 refine hx.call rfl fun y hy=>?_;rw [Ms];unfold UZ gP gL gK gQ;obtain⟨p0,i0,l0⟩:=aGw h (i:=0) (Oo 1);obtain⟨p1,i1,l1⟩:=aGw h (i:=1) (xR 1);rw [h.len];show aH PP .gtr 3 (ni 2) (ni 0) _;rw [SX,bF (by decide),aF,aM];dsimp only;rw [aF,aM];dsimp only
 have m1:∀{w:VE} {z:Int} {S:Hp} {K:KV},Deep PP bI gM M (n+1) w->1<=z/\z<=7->K (.bool false) S->w.call EU [.int .i64 z] S K:=fun {w z S K} hw hz hk=>by
  refine hw.call rfl fun u hu=>?_;rw [Hl];unfold OP gP gK gQ;show aH PP .lss 3 (.int .i64 z) (.int .i64 1) _;rw [aEK,bN (by omega)];simp only [aF,aM,dS];show aH PP .gtr 3 (.int .i64 z) (.int .i64 7) _;rw [aAQ,bN (by omega)];exact aL hk
 refine hy.call rfl fun u hu=>?_;rw [qR];unfold kU;refine hu.call rfl fun w hw=>?_;rw [tH];unfold mL;obtain⟨M',DH⟩:∃q,M=q+3:=⟨M-3,by omega⟩;rw [h.len,hw.most,DH,dV];unfold cV;refine aE ?_;show aH PP .lss 3 (ni 0) (ni 2) _;rw [aO,yQ (by decide),bR,i0,l0 S (.refl _)];refine m1 hw hd ?_;rw [bC,bD (by decide),dV];unfold cV;refine aE ?_;show aH PP .lss 3 (ni 1) (ni 2) _;rw [aO,yQ (by decide),bR,i1,l1 S (.refl _)];refine m1 hw he ?_;rw [bC,bD (by decide),dV];unfold cV;refine aE ?_;show aH PP .lss 3 (ni 2) (ni 2) _;rw [aO,jO (by decide),bC];refine aL ?_;rw [CR];refine aL ?_;show(UK y.most _);rw [aF,aM,lR];dsimp only;rw [aF,dW];exact aL hK
theorem aEU (hM:1000000<M) (hx:Deep PP bI gM M (n+7) x){S0:Hp}{v:V}{d e:Int} (h:GL 3 S0 S v (lK [d,e])) (hd:1<=d/\d<=4) (he:1<=e/\e<=4) (hde:d≠e) (hK:∀t,K (.tuple [.list t (iV (wts d.toNat e.toNat)) 2,ni 0]) S):x.call BG [v,nu 11] S K:=by
 refine hx.call rfl fun y hy=>?_;rw [Mt];unfold VB;obtain⟨p0,i0,l0⟩:=aGw h (i:=0) (Oo 1);obtain⟨p1,i1,l1⟩:=aGw h (i:=1) (xR 1);rw [h.len];show qZ y y.most (nu 11) .nil v (ni 2) (ni 0) S K;obtain⟨M',DH⟩:∃q,M=q+3:=⟨M-3,by omega⟩;rw [hy.most,DH,vW];unfold pP;refine aE ?_;rw [aO,yQ (by decide),bR,i0,l0 S (.refl _)];show LU .u64 (.int .i64 d) _;rw [aA0 (by omega) (by omega)];refine(MN.nil (S0:=S)).app (.refl _) (by simp) fun u1 S1 dH k1 m1=>?_;rw [bD (by decide),vW];unfold pP;refine aE ?_;rw [aO,yQ (by decide),bR,i1,l1 S1 dH];show LU .u64 (.int .i64 e) _;rw [aA0 (by omega) (by omega)];refine m1.app dH (by simp) fun u2 S2 fF k2 m2=>?_;rw [bD (by decide),vW];unfold pP;refine aE ?_;rw [aO,jO (by decide),bC];refine aLG (cs:=iV [d.toNat,e.toNat]) (k:=2) fF m2.Cy fun t2=>?_;refine aH2 (n:=n) (by omega) hy (by omega) (by omega) (by omega) (by omega) (by omega) fun t3=>?_;refine dB (v:= .list t3 (iV (wts d.toNat e.toNat)) 2) rfl ?_;refine dB (v:=ni 0) rfl ?_;exact aL (hK t3)
theorem aNz (hM:1000000<M) (hx:Deep PP bI gM M (n+12) x){O:Tag}{ds:List (Int×List (List Nat))} (hd:iO ds=true) (hK:∀t,K (.tuple [.list t (dO (FO ds)) (FO ds).length,ni 0]) S):x.call zC [.agg (pv two),.list O (MZ ds) ds.length] S K:=by
 obtain⟨d,e,rfl,d1,d2,d3,f1,f2⟩:=YI hd;obtain⟨fl1,fa1⟩:=kX.1 f1;obtain⟨fl2,fa2⟩:=kX.1 f2;refine hx.call rfl fun y hy=>?_;rw [aAV];unfold Hk gP gL gQ;refine bX kC fun p hp=>?_;have dH:bP S (aJ S p (.row (pv two) 29)):= .aI hp;have rp:aJ S p (.row (pv two) 29) p=some (.row (pv two) 29):=aB;generalize aJ S p (.row (pv two) 29)=S1 at dH rp;have l6:∀{S':Hp} {K:KV},bP S1 S'->aU (.ptr p (0+6)) S' K=K (ni 1) S':=fun {S' K} h=>cW (h _ _ rp) rfl;rw [lT rp];refine aLj (n:=n+10) (two:=two) hy ?_;rw [lR,eQ,aF,aM,aZ];dsimp only;rw [aF,aM,l6 (.refl _)];dsimp only;rw [aF,aM,aO,jO (by decide)];dsimp only;rw [aF,dS,aF,aM,aZ];dsimp only;rw [aF,aM,l6 (.refl _)];dsimp only;rw [aF,aM];dsimp only;rw [SX,bN (by decide),aF,dS,bC,eU];obtain⟨M',DH⟩:∃q,M=q+3:=⟨M-3,by omega⟩
 have step:∀(i m:Nat) (D:Int×List (List Nat)) (u v:V) (ats:List Int) (aEV:List (List (List Nat))) (S2:Hp),[d,e][i]? =some D->qK D.2=true->i<2->bP S1 S2->GL 3 S1 S2 u (lK ats)->GL 33 S1 S2 v (mD aEV)->ats.length<=2->aEV.length<=2->(∀j m m',u= .acc j m->v≠ .acc j m')->
  (∀u' v' S',bP S1 S'->GL 3 S1 S' u' (lK (ats++[D.1]))->GL 33 S1 S' v' (mD (aEV++[D.2]))->(∀j m m',u'= .acc j m->v'≠ .acc j m')->lC y m (.ptr p 0) u' v' (.list O (MZ [d,e]) 2) (ni 2) (ni (i+1)) S' K)->
  lC y (m+1) (.ptr p 0) u v (.list O (MZ [d,e]) 2) (ni 2) (ni i) S2 K:=by
  intro i m D u v ats aEV S2 hD hf hi hs gu gv hal Du hap hk;obtain⟨q1,q2⟩:=aAY hD;obtain⟨fl,fa⟩:=kX.1 hf;rw [FR];unfold xA gP gL gK gQ;refine aE ?_;rw [aO,yQ hi,bR,gW hi,TC,dG q1,q2];refine cB (l:=[ni 0,.nil]) rfl fun b hb=>?_;refine gO (n:=2) (i:=b) aB rfl rfl rfl ?_;rw [eS];generalize wL:(Tl O (i*2) [.int .i64 D.1,.list (dO D.2) D.2.length])=cs;obtain⟨t1,wL⟩:∃t1,cs=[.int .i64 D.1,.list t1 (dO D.2) D.2.length]:=⟨_,wL.symm⟩;subst wL;have pK:bP S2 (aJ S2 b (.row [.int .i64 D.1,.list t1 (dO D.2) D.2.length] 68)):= .aI hb;have rb:aJ S2 b (.row [.int .i64 D.1,.list t1 (dO D.2) D.2.length] 68) b=some (.row [.int .i64 D.1,.list t1 (dO D.2) D.2.length] 68):=aB;generalize aJ S2 b (.row [.int .i64 D.1,.list t1 (dO D.2) D.2.length] 68)=S3 at pK rb;have r3:=pK _ _ (hs _ _ rp);have l0:∀{S':Hp} {K:KV},S' b=some (.row [.int .i64 D.1,.list t1 (dO D.2) D.2.length] 68)->aU (.ptr b 0) S' K=K (.int .i64 D.1) S':=fun {S' K} h=>cW h rfl;have l1:∀{S':Hp} {K:KV},S' b=some (.row [.int .i64 D.1,.list t1 (dO D.2) D.2.length] 68)->aU (.ptr b (0+1)) S' K=K (.list t1 (dO D.2) D.2.length) S':=fun {S' K} h=>cW h rfl;have sm:∀{t:Tag} {cs:List Dt} {n:Nat} {p:Prop},aW (.list t cs n) (.list t cs n) p=p:=fun {t cs n p}=>cK rfl;have smi:∀{z:Int} {p:Prop},aW (.int .i64 z) (.int .i64 z) p=p:=fun {z p}=>cK rfl;rw [aZ,l1 rb,eU,lT r3];refine aLi (n:=n+10) (two:=two) hy ?_;rw [l1 rb,sm,tZ,bF fl,eQ];rw [aF,aM,aZ];dsimp only;rw [aF,aM,l1 rb];dsimp only;rw [aF,aM];dsimp only;rw [aF,aM];dsimp only;refine aCM (n:=n+9) (S0:=S3) hM hy .val (by omega) (p:=fun c=> !decide (c.length=2)) (fun z hz c hc w hw K hk=>aRR (two:=two) (n:=n+8) hz hw r3 hk) ?_
  have aTl:(D.2.any fun c=> !decide (c.length=2))=false:=by
   rw [Xr];intro c hc;rw [(fa c hc).1];decide
  rw [aTl]
  try dsimp only
  rw [l1 rb,sm,aF,dS,bC,aV,l0 rb,aZ,l1 rb,l1 rb,sm,l0 rb,smi];have hb3:∀{z:Int} {S:Hp} {K:KV},(∀j,S j=none->K (.own j 0 1 1) (aJ S j (.row [.int .i64 z] 3)))->aP 3 1 EN [(0,1,.int .i64 z)] S K:=fun {z S K} hk=>⟨rfl,by simp,hk⟩;refine⟨hb3 fun _ _=>trivial,yY rfl fun _ _=>trivial,?_⟩;refine(gu.up pK).app (t:=t1) (d:= .int .i64 D.1) (hs.trans pK) (by rw [EM];omega) (zv:=ni 0) rfl (by decide) fun u' S4 HI k4 o4 gu4=>?_
  have rb4:=k4 _ _ rb fun m c=>by
   obtain⟨vs,n,q⟩:=(gu.up pK).there c;rw [rb]at q;cases q
  have gv4:GL 33 S1 S4 v (mD aEV):=(gv.up pK).mI k4 fun j m m' c c2=>hap j m' m c2 c
  have aR5:∀j m m',u'= .acc j m->v≠ .acc j m':=fun j m m' c c2=>by
   rcases o4 j m c with ⟨m2,q⟩ | q
   ·exact hap j m2 m' q c2
   ·obtain⟨vs,n,q2⟩:=(gv.up pK).there c2
    rw [q]at q2;cases q2
  rw [l1 rb4,sm,l1 rb4,sm];refine⟨yY rfl fun _ _=>trivial,?_⟩;refine gv4.app (t:=t1) (d:= .list (dO D.2) D.2.length) HI (by rw [SZ];omega) (zv:= .nil) rfl (by decide) fun v' S5 FK k5 o5 gv5=>?_;have gu5:=gu4.mI k5 fun j m m' c c2=>aR5 j m m' c c2;rw [bD (by omega)];have e1:lK ats++[.int .i64 D.1]=lK (ats++[D.1]):=by unfold lK;rw [RQ];rfl
  have e2:mD aEV++[.list (dO D.2) D.2.length]=mD (aEV++[D.2]):=by rw [aAm];rfl
  rw [e1]at gu5;rw [e2]at gv5;refine hk u' v' S5 FK gu5 gv5 fun j m m' c c2=>?_;rcases o5 j m' c2 with ⟨m2,q⟩ | q
  ·exact aR5 j m m2 c q
  ·obtain⟨vs,n,q2⟩:=gu4.there c
   rw [q]at q2;cases q2
 show lC y y.most (.ptr p 0) .nil .nil (.list O (MZ [d,e]) 2) (ni 2) (ni 0) S1 K;rw [hy.most,DH];refine step 0 _ d .nil .nil [] [] S1 rfl f1 (by decide) (.refl _) .nil .nil (by decide) (by decide) (fun j m m' c=>by cases c) fun u1 v1 S2 fF gu1 gv1 ap1=>?_;refine step 1 _ e u1 v1 [d.1] [d.2] S2 rfl f2 (by decide) fF gu1 gv1 (RR 1) (RR 1) ap1 fun u2 v2 S3 pK gu2 gv2 ap2=>?_;rw [FR];unfold xA gP gL gK gQ;refine aE ?_;rw [aO,jO (by decide),bC];have gu2:GL 3 S1 S3 u2 (lK [d.1,e.1]):=gu2;have gv2:GL 33 S1 S3 v2 (mD [d.2,e.2]):=gv2;have Lt:=pK _ _ rp;refine aET (n:=n+7) hM hy gu2 (by omega) (by omega) ?_;rw [lR,eQ,bC,aZ,cW (o:=0+1) Lt rfl];refine aEU (n:=n+4) hM hy gu2 (by omega) (by omega) (by omega) fun t3=>?_;refine dB (v:= .list t3 (iV (wts d.1.toNat e.1.toNat)) 2) rfl ?_;refine dB (v:=ni 0) rfl ?_;rw [tZ,bF rfl,eQ,bC,lT Lt];refine aLi (n:=n+10) (two:=two) hy ?_
 have aLl:LS (wts d.1.toNat e.1.toNat):=fun c hc=>by
  have:c<11:=by
   rcases cC.1 hc with rfl | hc
   ·exact aGd _ _
   ·rcases cC.1 hc with rfl | hc
    ·exact aGd _ _
    ·cases hc
  show c<18446744073709551616;omega
 have one:∀(s j:Nat),s<2->j<2->∀(S4:Hp) (K':KV),bP S3 S4->(K' (nu (YH ((PI (FP [d.2,e.2] s) j).zip (wts d.1.toNat e.1.toNat)) (FJ []))) S4)->
  (bJ 12 (.ptr p 0) S4 fun v1 S=>y.call kZ [v2,ni s] S fun v2 S=>bJ 12 (.ptr p 0) S fun v3 _=>aW v3 v1 (y.call qS [v2,ni j] S fun v4 S=>bJ 12 (.ptr p 0) S fun v5 _=>aW v5 v1 (y.call nL [v1,.nil] S fun v6 S=>y.call pE [v4,.list t3 (iV (wts d.1.toNat e.1.toNat)) 2,v6,.func kG [] [.ptr p 0],.func kH [] [.ptr p 0]] S K'))):=by
  intro s j hs hj S4 K' hle hk;have r4:=hle _ _ Lt;have smp:∀{p:Prop},aW (.agg (pv two)) (.agg (pv two)) p=p:=fun {p}=>cK rfl;rw [lT r4];refine aNl (n:=n+9) hM hy (ms:=[d.2,e.2]) (fun l hl=>?_) (Xm rfl) (gv2.up hle) fun t5=>?_
  ·rcases cC.1 hl with rfl | hl
   ·omega
   ·rcases cC.1 hl with rfl | hl
    ·omega
    ·cases hl
  rw [lT r4,smp];refine aPW (n:=n+9) hM hy (ls:=FP [d.2,e.2] s) (fun l hl=>?_) (Xm rfl) fun t6=>?_
  ·have hl:l=d.2.getD s []\/l=e.2.getD s []:=by simpa [FP]using hl
   have gg:∀{c:List (List Nat)},c.length=2->(∀q∈c,q.length=2/\∀a∈q,Aa a=true)->j<(c.getD s []).length:=fun {c} h1 h2=>by
    have hlt:s<c.length:=by omega
    rw [sP,aQ hlt];show j<c[s].length;rw [(h2 _ (cJ hlt)).1];exact hj
   rcases hl with rfl | rfl
   ·exact gg fl1 fa1
   ·exact gg fl2 fa2
  rw [lT r4,smp];refine XN (n:=n+9) (two:=two) hM hy .nil (fun z hz=>by cases hz) (by simp) ?_;refine aNj (n:=n+6) (two:=two) hM hy (l:=PI (FP [d.2,e.2] s) j) (w:=wts d.1.toNat e.1.toNat) rfl .list .list (fun z hz=>?_) aLl (Xm rfl) r4 (QT _) hk;have hz:z=(d.2.getD s []).getD j 0\/z=(e.2.getD s []).getD j 0:=by simpa [FP,PI]using hz
  have:z<23:=by
   rcases hz with rfl | rfl
   ·exact TB (Nv f1 hs hj)
   ·exact TB (Nv f2 hs hj)
  show z<18446744073709551616;omega
 have sec:∀(s m:Nat) (w:V) (acc:List (List Nat)) (S4:Hp),s<2->bP S3 S4->ML S3 S4 w acc->acc.length<=2->(∀w' S',bP S3 S'->ML S3 S' w' (acc++[[0,1].map fun j=>YH ((PI (FP [d.2,e.2] s) j).zip (wts d.1.toNat e.1.toNat)) (FJ [])])->iP y m (.ptr p 0) v2 (.list t3 (iV (wts d.1.toNat e.1.toNat)) 2) (.func kG [] [.ptr p 0]) (.func kH [] [.ptr p 0]) w' (ni 2) (ni (s+1)) S' K)->
  iP y (m+1) (.ptr p 0) v2 (.list t3 (iV (wts d.1.toNat e.1.toNat)) 2) (.func kG [] [.ptr p 0]) (.func kH [] [.ptr p 0]) w (ni 2) (ni s) S4 K:=by
  intro s m w acc S4 hs hle hw hal hk;rw [wH];unfold oW;refine aE ?_;have r4:=hle _ _ Lt;rw [aO,yQ hs,bR,aZ,cW (o:=0+6) r4 rfl];show aH PP .add 3 (ni 1) (ni 1) _;rw [bD (by decide)];show fL y y.most m (.ptr p 0) v2 (.list t3 (iV (wts d.1.toNat e.1.toNat)) 2) (.func kG [] [.ptr p 0]) (.func kH [] [.ptr p 0]) w (ni s) .nil (ni 2) (ni s) (ni 2) (ni 0) S4 K;rw [hy.most,DH,jB];unfold fI;refine aE ?_;rw [aO,yQ (by decide),bR];refine one s 0 hs (by decide) S4 _ hle ?_;have aR6:∀{z:Nat} {S:Hp},aP 22 1 iK [(0,1,nu z)] S fun _ _=>True:=fun {z S}=>⟨rfl,by simp,fun _ _=>trivial⟩;refine⟨aR6,?_⟩;refine(MN.nil (S0:=S4)).app (.refl _) (by simp) fun u1 S5 FK k5 m5=>?_;rw [bD (by decide),jB];unfold fI;refine aE ?_;rw [aO,yQ (by decide),bR];refine one s 1 hs (by decide) S5 _ (hle.trans FK) ?_;refine⟨aR6,?_⟩;refine m5.app FK (by simp) fun u2 S6 VP k6 m6=>?_;rw [bD (by decide),jB];unfold fI;refine aE ?_;rw [aO,jO (by decide),bC];have nl:NL S3 S6 u2 ([0,1].map fun j=>YH ((PI (FP [d.2,e.2] s) j).zip (wts d.1.toNat e.1.toNat)) (FJ [])):=(NL.made m6).base hle;refine(hw.up VP).app (hle.trans VP) (by omega) nl fun w' S7 le7 k7 m7 _=>?_;rw [bD (by omega)];exact hk w' S7 le7 m7
 rw [hy.most,DH];refine sec 0 _ .nil [] S3 (by decide) (.refl _) .nil (by decide) fun w1 S4 HI m4=>?_;refine sec 1 _ w1 _ S4 (by decide) HI m4 (RR 1) fun w2 S5 FK m5=>?_;rw [wH];unfold oW;refine aE ?_;rw [aO,jO (by decide),bC];have m5:ML S3 S5 w2 (FO [d,e]):=m5;have hle:bP S S5:=(dH.trans pK).trans FK;have fz:=(m5.base (dH.trans pK)).Cy;refine⟨S,fun O=> .tuple [.list (O 0) (dO (FO [d,e])) (FO [d,e]).length,ni 0],hle,fun O=> .tup ⟨rfl,fun j v u e1 e2=>?_⟩,fun O=>hK _⟩
 match j with
 | 0=>injection e1 with e1;injection e2 with e2;subst e1 e2;exact .ZE fz
 | 1=>injection e1 with e1;injection e2 with e2;subst e1 e2;exact .mI _
 | j+2=>simp at e1
end
end Go.Am
namespace Go.Am
def lX (x:VE) (m:Nat) (t3 t5 t6 t8 t38 t39 t40:V) (S:Hp) (K:KV):Prop:=dQ PP bI CF x [.r,.r,.r,.l,.r,.d] m [] [t3,t5,t6,t8,t38,t39,t40] S K
def jX (x:VE) (t6 t8:V) (S:Hp) (K:KV):Prop:=Wx PP bI CF x [.r,.r,.r,.r,.r,.r] [] [t6,t8] S K
def Sy (x:VE) (a0 a1 a2:V) (S:Hp) (K:KV):Prop:=
 iE 29 a0 S fun v0 S=>
 iE 36 a1 S fun v1 S=>
 iE 42 a2 S fun v2 S=>
 cN uF 36 S fun v3 S=>
 bJ 12 v0 S fun v4 S=>
 bJ 5 v1 S fun v5 S=>
 bJ 7 v2 S fun v6 S=>
 bJ 7 v2 S fun v7 _=>
 aW v7 v6 (bJ 5 v1 S fun v8 _=>aW v8 v5 (bJ 12 v0 S fun v9 _=>aW v9 v4 ((cN Sr 86 S fun v10 S=>True)/\(x.call KL [v5] S fun v11 S=>bJ 7 v2 S fun v12 _=>aW v12 v6 (bJ 12 v0 S fun sN _=>aW sN v4 (cF Sr [(0,12,v4),(12,5,v11),(17,7,v6)] fun tO=>bJ 7 v2 S fun zE _=>aW zE v6 (bJ 12 v0 S fun AM _=>aW AM v4 ((cN Sr 86 S fun wF S=>True)/\(cN Sr 86 S fun yR S=>mB 24 yR tO S fun S=>bJ 12 v0 S fun wU S=>x.call uY [wU] S fun v20 S=>VJ .not v20 fun v21=>gP x false v21 (aS 0 v2) S fun EW S=>gL x false v21 (aU EW S) S fun RA S=>gP x false v21 (aH PP .lss 5 RA (.int .u8 (.ofNat 1))) S fun ZZ S=>gQ x v21 (.bool true) ZZ fun v28=>gP x false v28 (aS 0 v2) S fun v30 S=>gL x false v28 (aU v30 S) S fun v32 S=>gP x false v28 (aH PP .gtr 5 v32 (.int .u8 (.ofNat 4))) S fun Vb S=>gQ x v28 (.bool true) Vb fun Hr=>iQ Hr (aS 12 yR fun Ss=>bJ 5 Ss S fun v37 S=>mB 5 v3 v37 S fun S=>bJ 5 v3 S fun Js _=>bE (.tuple [Js,(.int .i64 (.ofNat 4))]) S K) (aS 0 v2 fun Lh=>aU Lh S fun v40 S=>x.call PJ [v40] S fun v41 S=>bK v41 fun He=>lX x x.most v0 v2 v3 yR v41 He (.int .i64 (.ofNat 0)) S K))))))))))
theorem aEN (x:VE) (a0 a1 a2:V) (S:Hp) (K:KV):jU PP bI CF x [a0,a1,a2] S K=Sy x a0 a1 a2 S K:=by kernel_rfl
def CG (x:VE) (m0:Nat) (t3 t5 t6 t8 t38 t39 t40:V) (S:Hp) (K:KV):Prop:=
 cS S fun S=>
 aH PP .lss 3 t40 t39 fun v0=>
 iQ v0 (cI 2 t38 t40 fun v1=>bJ 2 v1 S fun v2 S=>cN [.nilFunc,(.int .i64 (.ofNat 0))] 92 S fun v3 S=>mB 2 v3 v2 S fun S=>aS 0 v3 fun v4=>aU v4 S fun v5 S=>bJ 24 t8 S fun v6 S=>lJ x v5 [v6] S fun v7 S=>VJ .not v7 fun v8=>iQ v8 (aS 12 t8 fun v9=>bJ 5 v9 S fun v10 S=>aS 1 v3 fun v11=>aU v11 S fun v12 S=>mB 5 t6 v10 S fun S=>aU v11 S fun sN _=>aW sN v12 (bJ 5 t6 S fun tO _=>bE (.tuple [tO,v12]) S K)) (aH PP .add 3 t40 (.int .i64 (.ofNat 1)) fun zE=>lX x m0 t3 t5 t6 t8 t38 t39 zE S K)) (bJ 7 t5 S fun AM S=>x.call TO [AM] S fun wF S=>cN vR 42 S fun yR S=>mB 7 yR wF S fun S=>aS 0 t5 fun wU=>aU wU S fun v20 S=>aH PP .eql 5 v20 (.int .u8 (.ofNat 1)) fun v21=>iQ v21 (aS 4 yR fun NF=>aU NF S fun EW S=>aS 12 t8 fun v24=>aS 0 v24 fun RA=>mB 1 RA (.int .i64 (.ofNat 1)) S fun S=>aU NF S fun Bi _=>aW Bi EW (aS 12 t8 fun ZZ=>aS 2 ZZ fun v28=>mB 1 v28 EW S fun S=>jX x t6 t8 S K)) (aH PP .eql 5 v20 (.int .u8 (.ofNat 2)) fun v29=>iQ v29 (bJ 12 t3 S fun v30 S=>aS 12 t8 fun v31=>aS 4 v31 fun v32=>aU v32 S fun Nx S=>aS 1 t5 fun Vb=>aU Vb S fun Hr S=>aS 3 t5 fun Ss=>aU Ss S fun v37 S=>x.call YN [v30,Nx,Hr,v37] S fun Js S=>uG 0 Js fun Lh=>uG 1 Js fun v40=>aH PP .neq 46 v40 (.int .i64 (.ofNat 0)) fun v41=>iQ v41 (aS 12 t8 fun He=>bJ 5 He S fun v43 S=>mB 5 t6 v43 S fun S=>bJ 5 t6 S fun v44 _=>bE (.tuple [v44,v40]) S K) (aS 12 t8 fun v45=>aS 4 v45 fun v46=>mB 1 v46 Lh S fun S=>jX x t6 t8 S K)) (aH PP .eql 5 v20 (.int .u8 (.ofNat 3)) fun Dq=>iQ Dq (aS 5 yR fun v48=>aU v48 S fun v49 S=>aS 12 t8 fun v50=>aS 3 v50 fun v51=>mB 1 v51 v49 S fun S=>jX x t6 t8 S K) (bJ 12 t3 S fun v52 S=>aS 6 t5 fun v53=>aU v53 S fun v54 S=>x.call zC [v52,v54] S fun v55 S=>uG 0 v55 fun v56=>uG 1 v55 fun v57=>aH PP .neq 46 v57 (.int .i64 (.ofNat 0)) fun v58=>iQ v58 (aS 12 t8 fun v59=>bJ 5 v59 S fun v60 S=>mB 5 t6 v60 S fun S=>bJ 5 t6 S fun v61 _=>bE (.tuple [v61,(.int .i64 (.ofNat 4))]) S K) (aS 12 t8 fun v62=>aS 0 v62 fun v63=>aU v63 S fun v64 S=>aH PP .add 3 v64 (.int .i64 (.ofNat 1)) fun v65=>aS 12 t8 fun v66=>aS 3 v66 fun v67=>aU v67 S fun v68 S=>aS 12 t8 fun v69=>aS 4 v69 fun v70=>aU v70 S fun v71 S=>cF uF [(0,1,v65),(1,1,v68),(2,1,v56),(4,1,v71)] fun v72=>aS 12 t8 fun v73=>mB 5 v73 v72 S fun S=>jX x t6 t8 S K)))))
theorem MU (x:VE) (m0:Nat) (t3 t5 t6 t8 t38 t39 t40:V) (S:Hp) (K:KV):lX x (m0+1) t3 t5 t6 t8 t38 t39 t40 S K=CG x m0 t3 t5 t6 t8 t38 t39 t40 S K:=by kernel_rfl
def vY (x:VE) (t6 t8:V) (S:Hp) (K:KV):Prop:=
 cS S fun S=>
 aS 12 t8 fun v0=>
 bJ 5 v0 S fun v1 S=>
 mB 5 t6 v1 S fun S=>
 bJ 5 t6 S fun v2 _=>
 bE (.tuple [v2,(.int .i64 (.ofNat 0))]) S K
theorem Ai (x:VE) (t6 t8:V) (S:Hp) (K:KV):Wy PP bI CF x [.r,.r,.r,.r,.r,.r] [] [t6,t8] S K=vY x t6 t8 S K:=by kernel_rfl
theorem MV (x:VE) (hm:x.most≠0) (t6 t8:V) (S:Hp) (K:KV):jX x t6 t8 S K=vY x t6 t8 S K:=(Gu (hm:=hm) ..).trans (Ai x t6 t8 S K)
end Go.Am
namespace Go.Am
open Go.Proofs.JJ
section
variable{M n:Nat}{x:VE}{S:Hp}{K:KV}{two:Bool}{O O':Nat->Tag}{s:PD}{e:En}
theorem GR{t:TypeId}{a b:Nat}{k:V->Prop}:aH PP .eql t (n8 a) (n8 b) k=k (.bool (decide (a=b))):=by rw [KO];congr 2;simp;omega
theorem aQe{t:TypeId}{a b:Nat}{k:V->Prop}:aH PP .lss t (n8 a) (n8 b) k=k (.bool (decide (a<b))):=by rw [rT];congr 2;simp
theorem aQf{t:TypeId}{a b:Nat}{k:V->Prop}:aH PP .gtr t (n8 a) (n8 b) k=k (.bool (decide (b<a))):=by rw [QJ];congr 2;simp
theorem TD{p:Prop}:aW (.agg (pv two)) (.agg (pv two)) p=p:=cK rfl
theorem IG{p:Prop}:aW (.agg (gR O s)) (.agg (gR O s)) p=p:=cK rfl
theorem Np{p:Prop}:aW (.agg (ND O e)) (.agg (ND O e)) p=p:=cK rfl
def z24:List Value:=Sr
theorem aQg:∃l,LR z24=some l/\l.length=24:=⟨_,rfl,rfl⟩
theorem aH3{k:V->Prop} (hk:k (.agg (VO two O O' s e))):cF z24 [(0,12,.agg (pv two)),(12,5,.agg (gR O s)),(17,7,.agg (ND O' e))] k:=
 ⟨kC,rfl,cG rfl,IC,rfl,cG rfl,Gm,rfl,cG rfl,hk⟩
theorem aA1{S0 S1:Hp}{bt r w:Nat}{cs:List V} (hle:bP S0 S1) (rt:S1 bt=some (.row cs 86)){vs:List V} (rr:S1 r=some (.row vs 36)) (FG:S0 r=none) (hv:vs.length=5) (hc:(cs.drop 12).take 5=gR O s) (hl:cs.length=24) (hK:∀O,K (.tuple [.agg (gR O s),ni w]) S0):
 bJ 5 (.ptr bt (0+12)) S1 fun v S=>mB 5 (.ptr r 0) v S fun S=>bJ 5 (.ptr r 0) S fun tO _=>bE (.tuple [tO,ni w]) S K:=by
 rw [qB rt,dG (by omega),dX,hc];refine gO (n:=5) (i:=r) rr IC rfl hv ?_;refine dZ (n:=5) (i:=r) aB rfl ?_;exact bL (fun j o q=>by rw [aC (fun c=>by rw [c,FG]at q;cases q)];exact hle j o q) (hK O)
theorem aQh{y:VE} (hm:y.most≠0){S0 S1:Hp}{bt r:Nat}{cs:List V} (hle:bP S0 S1) (rt:S1 bt=some (.row cs 86)){vs:List V} (rr:S1 r=some (.row vs 36)) (FG:S0 r=none) (hv:vs.length=5) (hc:(cs.drop 12).take 5=gR O s) (hl:cs.length=24) (hK:∀O,K (.tuple [.agg (gR O s),ni 0]) S0):
 jX y (.ptr r 0) (.ptr bt 0) S1 K:=by
 rw [MV _ hm];unfold vY;refine aE ?_;rw [aZ];exact aA1 hle rt rr FG hv hc hl hK
theorem aR7{y:VE} (hm:y.most≠0){S0 S1:Hp}{bt r ep:Nat}{cs:List V} (hle:bP S0 S1) (rt:S1 bt=some (.row cs 86)){vs:List V} (rr:S1 r=some (.row vs 36)) (FG:S0 r=none) (hv:vs.length=5){t1 t2 t4:Tag}{l1:List Int}{l2:List (List Nat)}{l4:List (Int×List Int)} (hc:(cs.drop 12).take 5=[ni ep,.list t1 (lK l1) l1.length,.list t2 (dO l2) l2.length,.nil,.list t4 (aD l4) l4.length]) (hl:cs.length=24) (hK:∀O,K (.tuple [.agg (gR O ⟨ep,l1,l2,[],l4⟩),ni 0]) S0):
 jX y (.ptr r 0) (.ptr bt 0) S1 K:=by
 rw [MV _ hm];unfold vY;refine aE ?_;rw [aZ,qB rt,dG (by omega),dX,hc];refine gO (n:=5) (i:=r) rr rfl rfl hv ?_;refine dZ (n:=5) (i:=r) aB rfl ?_;refine⟨S0,fun O=> .tuple [.agg (gR (fun k=>if k=1 then t1 else if k=2 then t2 else if k=3 then O 5 else t4) ⟨ep,l1,l2,[],l4⟩),ni 0],fun j o q=>by rw [aC (fun c=>by rw [c,FG]at q;cases q)];exact hle j o q,fun O=> .aRt rfl ⟨rfl,fun j v u e1 e2=>?_⟩,fun O=>hK _⟩
 match j with
 | 0=>injection e1 with e1;injection e2 with e2;subst e1 e2;exact .mI _
 | 1=>injection e1 with e1;injection e2 with e2;subst e1 e2;exact .mI _
 | 2=>injection e1 with e1;injection e2 with e2;subst e1 e2;exact .mI _
 | 3=>injection e1 with e1;injection e2 with e2;subst e1 e2;exact .ZE .nil
 | 4=>injection e1 with e1;injection e2 with e2;subst e1 e2;exact .mI _
 | 5=>injection e1 with e1;injection e2 with e2;subst e1 e2;exact .mI _
 | j+6=>simp at e1
theorem Ho{y:VE}{S0 SB S1:Hp}{bp be r bt qj i q k err m:Nat}{g:FuncId}{p:Bool}{vs:List V} (rq:SB qj=some (.row (qV k) 92)) (rt:SB bt=some (.row (VO two O O' s e) 86)) (rr:SB r=some (.row vs 36)) (hv:vs.length=5) (h0:bP S0 SB) (FG:S0 r=none)
 (hi:i<q) (hql:i*2+2<=(qV k).length) (hc:((qV k).drop (i*2)).take 2=[fq g,ni err]) (hq9:q<9) (hf:∀S2 (K:KV),bP SB S2->K (.bool p) S2->y.call g [.agg (VO two O O' s e)] S2 K) (hs:bP SB S1)
 (hF:p=false->∀O,K (.tuple [.agg (gR O s),ni err]) S0) (hT:p=true->∀S2,bP SB S2->lX y m (.ptr bp 0) (.ptr be 0) (.ptr r 0) (.ptr bt 0) (.own qj 0 q q) (ni q) (ni (i+1)) S2 K):
 lX y (m+1) (.ptr bp 0) (.ptr be 0) (.ptr r 0) (.ptr bt 0) (.own qj 0 q q) (ni q) (ni i) S1 K:=by
 rw [MU];unfold CG;refine uE SB hs ?_;rw [aO,yQ hi,bR];refine⟨hi,?_⟩;dsimp only;rw [qB rq,dX,dG hql,hc];refine cB (l:=[.Je,ni 0]) rfl fun d hd=>?_;refine gO (n:=2) (i:=d) aB rfl rfl rfl ?_;rw [eS];have le:bP SB (aJ SB d (.row [fq g,ni err] 92)):= .aI hd;have rd:aJ SB d (.row [fq g,ni err] 92) d=some (.row [fq g,ni err] 92):=aB;generalize aJ SB d (.row [fq g,ni err] 92)=S2 at le rd;rw [aV,cW (o:=0) rd rfl];refine dZ (n:=24) (i:=bt) (le _ _ rt) rfl ?_;refine hf S2 _ le ?_;rw [lR];cases p with
 | true=>
  rw [eQ,bC,bD (by omega)];exact hT rfl S2 le
 | false=>
  rw [BN,bR,aZ,qB (le _ _ rt),dG (cG rfl),aZ,cW (o:=0+1) rd rfl];show mB 5 (.ptr r 0) (.agg (gR O s)) S2 _;refine gO (n:=5) (i:=r) (le _ _ rr) IC rfl hv ?_;have hdr:d≠r:=fun c=>by rw [c,rr]at hd;cases hd
  rw [cW (o:=0+1) (v:=ni err) (vs:=[fq g,ni err]) (t:=92) (by rw [aC hdr];exact rd) rfl,cM];refine dZ (n:=5) (i:=r) aB rfl ?_;exact bL (fun j o q=>by rw [aC (fun c=>by rw [c,FG]at q;cases q)];exact le _ _ (h0 j o q)) (hF rfl O)
theorem aNA (QV:140737488355328<M){y:VE} (hy:Deep PP bI gM M (n+12) y){S0 SB S1:Hp}{bp be r bt q m:Nat}{qv:V}{vs:List V} (rp:SB bp=some (.row (pv two) 29)) (re:SB be=some (.row (ND O' e) 42)) (rt:SB bt=some (.row (VO two O O' s e) 86)) (rr:SB r=some (.row vs 36)) (hv:vs.length=5) (h0:bP S0 SB) (FG:S0 r=none) (ht0:S0 bt=none) (hrt:r≠bt)
 (hsz:Ly e) (WG:aCg s) (LJ:UI s) (hs:bP SB S1) (EA:1<=e.kind/\e.kind<=4)
 (h1:e.kind=1->∀O,K (.tuple [.agg (gR O {s with ep:=1,cD:=e.cD}),ni 0]) S0)
 (h2:e.kind=2->(GU s.asked e.id e.x≠0->∀O,K (.tuple [.agg (gR O s),ni (GU s.asked e.id e.x)]) S0)/\(GU s.asked e.id e.x=0->∀O,K (.tuple [.agg (gR O {s with asked:=s.asked++[(e.id,e.x)]}),ni 0]) S0))
 (h3:e.kind=3->∀O,K (.tuple [.agg (gR O {s with next:=e.next}),ni 0]) S0)
 (h4:e.kind=4->iO e.eV=true/\∀O,K (.tuple [.agg (gR O ⟨s.ep+1,s.next,FO e.eV,[],s.asked⟩),ni 0]) S0):
 lX y (m+1) (.ptr bp 0) (.ptr be 0) (.ptr r 0) (.ptr bt 0) qv (ni q) (ni q) S1 K:=by
 have hM:1000000<M:=by omega
 have hym:y.most≠0:=by rw [hy.most];omega
 rw [MU];unfold CG;refine uE SB hs ?_;rw [aO,jO (by omega),bC];refine dZ (n:=7) (i:=be) re rfl ?_;refine aNo (n:=n+7) QV hy hsz fun O3=>?_;refine cB (l:=[n8 0,ni 0,ni 0,.nil,.nil,.nil,.nil]) rfl fun o ho=>?_;refine gO (n:=7) (i:=o) aB Gm rfl rfl ?_;rw [eS];have le:bP SB (aJ SB o (.row (ND O3 e) 42)):= .aI ho;have ro:aJ SB o (.row (ND O3 e) 42) o=some (.row (ND O3 e) 42):=aB;generalize aJ SB o (.row (ND O3 e) 42)=S2 at le ro;have re2:=le _ _ re;have rt2:=le _ _ rt;have rr2:=le _ _ rr;have rp2:=le _ _ rp;have aAO:=h0.trans le;have hot:o≠bt:=fun c=>by rw [c,rt]at ho;cases ho
 have w1:∀{S3:Hp} {cs:List V},bP S0 S3->bP S0 (aJ S3 bt (.row cs 86)):=fun {S3 cs} h j o q=>by rw [aC (fun c=>by rw [c,ht0]at q;cases q)];exact h j o q
 rw [aV,cW (o:=0) re2 rfl];show aH PP .eql 5 (n8 e.kind) (n8 1) _;rw [GR];by_cases c1:e.kind=1
 ·rw [bF c1,bR,aZ,cW (o:=0+4) ro rfl,aZ,aZ,EC rt2 (show 0+12+0<24 by decide) rfl]
  rw [cW (o:=0+4) (v:= .list (O3 4) (dO e.cD) e.cD.length) (vs:=ND O3 e) (t:=42) (i:=o) (by rw [aC hot];exact ro) rfl,cK rfl,aZ,aZ,EC aB (show 0+12+2<24 by decide) rfl,eS];exact aQh (O:=fun k=>if k=2 then O3 4 else O k) hym (w1 aAO) aB (by rw [aC hrt];exact rr2) FG hv rfl rfl (h1 c1)
 rw [bN c1,bC];show aH PP .eql 5 (n8 e.kind) (n8 2) _;rw [GR];by_cases c2:e.kind=2
 ·rw [bF c2,bR,lT rp2,aZ,aZ,cW (o:=0+12+4) (v:= .list (O 4) (aD s.asked) s.asked.length) rt2 rfl,aZ,cW (o:=0+1) (v:= .int .i64 e.id) re2 rfl,aZ,cW (o:=0+3) (v:= .list (O' 3) (lK e.x) e.x.length) re2 rfl]
  obtain⟨x0,ZU,hx2,rY⟩:=LJ.ask;have aTy:=LJ.few;obtain⟨h2a,h2b⟩:=h2 c2;refine aQc (n:=n) (two:=two) hM hy (by omega) hsz.x rY ⟨ZU,hx2⟩ (fun ha=>?_) (fun ha t=>?_)
  ·refine dB (v:= .nil) rfl ?_
   refine dB (v:=ni (GU s.asked e.id e.x)) rfl ?_;rw [tZ,bN ha,BN,bR,aZ];exact aA1 (cs:=VO two O O' s e) aAO rt2 rr2 FG hv rfl rfl (h2a ha)
  ·refine dB (v:= .list t (aD (s.asked++[(e.id,e.x)])) (s.asked++[(e.id,e.x)]).length) rfl ?_
   refine dB (v:=ni 0) rfl ?_;rw [tZ,bF rfl,eQ,bC,aZ,aZ,EC rt2 (show 0+12+4<24 by decide) rfl];exact aQh (O:=fun k=>if k=4 then t else O k) hym (w1 aAO) aB (by rw [aC hrt];exact rr2) FG hv rfl rfl (h2b ha)
 rw [bN c2,bC];show aH PP .eql 5 (n8 e.kind) (n8 3) _;rw [GR];by_cases c3:e.kind=3
 ·rw [bF c3,bR,aZ,cW (o:=0+5) ro rfl,aZ,aZ,EC rt2 (show 0+12+3<24 by decide) rfl]
  exact aQh (O:=fun k=>if k=3 then O3 5 else O k) hym (w1 aAO) aB (by rw [aC hrt];exact rr2) FG hv rfl rfl (h3 c3)
 rw [bN c3,bC];have c4:e.kind=4:=by omega
 obtain⟨h4a,h4b⟩:=h4 c4;have hep:=WG.ep;rw [lT rp2,aZ,cW (o:=0+6) (v:= .list (O' 6) (MZ e.eV) e.eV.length) re2 rfl];refine aNz (n:=n) (two:=two) hM hy h4a fun t=>?_;refine dB (v:= .list t (dO (FO e.eV)) (FO e.eV).length) rfl ?_;refine dB (v:=ni 0) rfl ?_;rw [tZ,bF rfl,eQ,bC,aZ,aZ,cW (o:=0+12+0) (v:=ni s.ep) rt2 rfl,bD (by omega),aZ,aZ,cW (o:=0+12+3) (v:= .list (O 3) (lK s.next) s.next.length) rt2 rfl,aZ,aZ,cW (o:=0+12+4) (v:= .list (O 4) (aD s.asked) s.asked.length) rt2 rfl];refine⟨rfl,cG rfl,rfl,cG rfl,rfl,cG rfl,rfl,cG rfl,?_⟩;show(aS 12 (.ptr bt 0) fun v73=>mB 5 v73 (.agg [ni (s.ep+1),.list (O 3) (lK s.next) s.next.length,.list t (dO (FO e.eV)) (FO e.eV).length,.nil,.list (O 4) (aD s.asked) s.asked.length]) S2 fun S=>jX y (.ptr r 0) (.ptr bt 0) S K);rw [aZ];unfold mB;simp only [rt2];refine⟨rfl,rfl,cG rfl,?_⟩;exact aR7 hym (w1 aAO) aB (by rw [aC hrt];exact rr2) FG hv rfl rfl h4b
theorem aRi (QV:140737488355328<M) (hx:Deep PP bI gM M (n+14) x) (LJ:UI s) (WG:aCg s) (hsz:Ly e) (hK:∀O,K (.tuple [.agg (gR O (FD s e).1),ni (FD s e).2]) S):x.call CF [.agg (pv two),.agg (gR O s),.agg (ND O' e)] S K:=by
 have hM:1000000<M:=by omega
 refine hx.call rfl fun y hy=>?_;rw [aEN];unfold Sy gP gL gQ;refine bX kC fun bp Qu=>?_;have dH:bP S (aJ S bp (.row (pv two) 29)):= .aI Qu;have rp:aJ S bp (.row (pv two) 29) bp=some (.row (pv two) 29):=aB;generalize aJ S bp (.row (pv two) 29)=S1 at dH rp;refine bX IC fun bv hbv=>?_;have fF:bP S1 (aJ S1 bv (.row (gR O s) 36)):= .aI hbv;have rv:aJ S1 bv (.row (gR O s) 36) bv=some (.row (gR O s) 36):=aB;generalize aJ S1 bv (.row (gR O s) 36)=S2 at fF rv;refine bX Gm fun be hbe=>?_;have pK:bP S2 (aJ S2 be (.row (ND O' e) 42)):= .aI hbe;have re:aJ S2 be (.row (ND O' e) 42) be=some (.row (ND O' e) 42):=aB;generalize aJ S2 be (.row (ND O' e) 42)=S3 at pK re;refine cB (l:=[ni 0,.nil,.nil,.nil,.nil]) rfl fun r hr=>?_;have HI:bP S3 (aJ S3 r (.row [ni 0,.nil,.nil,.nil,.nil] 36)):= .aI hr;have rr:aJ S3 r (.row [ni 0,.nil,.nil,.nil,.nil] 36) r=some (.row [ni 0,.nil,.nil,.nil,.nil] 36):=aB;have FG:S r=none:=dH.none (fF.none (pK.none hr));generalize aJ S3 r (.row [ni 0,.nil,.nil,.nil,.nil] 36)=S4 at HI rr;have DC:bP S S4:=((dH.trans fF).trans pK).trans HI;have rp4:=HI _ _ (pK _ _ (fF _ _ rp));have rv4:=HI _ _ (pK _ _ rv);have re4:=HI _ _ re;have lp:∀{K:KV},bJ 12 (.ptr bp 0) S4 K=K (.agg (pv two)) S4:=lT rp4;have lv:∀{K:KV},bJ 5 (.ptr bv 0) S4 K=K (.agg (gR O s)) S4:=fun {K}=>by rw [qB rv4,dG (cG rfl)];rfl
 have le_:∀{K:KV},bJ 7 (.ptr be 0) S4 K=K (.agg (ND O' e)) S4:=fun {K}=>by rw [qB re4,dG (cG rfl)];rfl
 obtain⟨zl,If,Tf⟩:=aQg;rw [lp,lv,le_,le_,Np,lv,IG,lp,TD];refine⟨cB If fun _ _=>trivial,?_⟩;refine aNm (n:=n+10) hM hy WG fun O2z=>?_;rw [le_,Np,lp,TD];refine aH3 (s:=s) (e:=e) (two:=two) ?_;rw [le_,Np,lp,TD];refine⟨cB If fun _ _=>trivial,?_⟩;refine cB If fun bt hbt=>?_;refine gO (n:=24) (i:=bt) aB HP rfl Tf ?_;rw [eS];have FK:bP S4 (aJ S4 bt (.row (VO two O2z O' s e) 86)):= .aI hbt;have rt:aJ S4 bt (.row (VO two O2z O' s e) 86) bt=some (.row (VO two O2z O' s e) 86):=aB;have ht0:S bt=none:=DC.none hbt;generalize aJ S4 bt (.row (VO two O2z O' s e) 86)=S5 at FK rt;have rp5:=FK _ _ rp4;have re5:=FK _ _ re4;have rr5:=FK _ _ rr;have hrt:r≠bt:=fun c=>by rw [c,hbt]at rr;cases rr
 have leB:=DC.trans FK;have lk:∀{K:KV},aU (.ptr be 0) S5 K=K (n8 e.kind) S5:=cW re5 rfl;rw [lT rp5];refine aFK (two:=two) hy ?_;rw [lR,eQ,aF,aM,aV];dsimp only;rw [aF,aM,lk];dsimp only;rw [aF,aM];dsimp only;show aH PP .lss 5 (n8 e.kind) (n8 1) _;rw [aQe]
 have bad:(e.kind<1\/4<e.kind)->FD s e=(s,4):=fun h=>by
  unfold FD;rw [aG (by omega),aG (by omega),aG (by omega),aG (by omega)]
 by_cases c1:e.kind<1
 ·rw [bF c1]
  simp only [aF,dW,dS,wR,bR];rw [bad (.inl c1)]at hK;rw [aZ];exact aA1 (w:=4) leB rt rr5 FG rfl rfl rfl hK
 rw [bN c1,aF,dS,aF,aM,aV];dsimp only;rw [aF,aM,lk];dsimp only;rw [aF,aM];dsimp only;show aH PP .gtr 5 (n8 e.kind) (n8 4) _;rw [aQf];by_cases c2:4<e.kind
 ·rw [bF c2]
  simp only [aF,dS,bR];rw [bad (.inr c2)]at hK;rw [aZ];exact aA1 (w:=4) leB rt rr5 FG rfl rfl rfl hK
 rw [bN c2,aF,dS,bC,aV,lk];refine aNc (n:=n+12) hy (by omega) (by omega) fun j S6 VP rq=>?_;have rp6:=VP _ _ rp5;have re6:=VP _ _ re5;have rr6:=VP _ _ rr5;have rt6:=VP _ _ rt;have leC:=leB.trans VP;show lX y y.most (.ptr bp 0) (.ptr be 0) (.ptr r 0) (.ptr bt 0) (.own j 0 (qN e.kind) (qN e.kind)) (ni (qN e.kind)) (ni 0) S6 K;obtain⟨M',DH⟩:∃q,M=q+1+1+1+1:=⟨M-4,by omega⟩;rw [hy.most,DH];rw [DH]at hy hM QV;have h12:(VO two O2z O' s e)[12]? =some (ni s.ep):=rfl;have h15:(VO two O2z O' s e)[15]? =some (.list (O2z 3) (lK s.next) s.next.length):=rfl;have h19:(VO two O2z O' s e)[19]? =some (.int .i64 e.ep):=rfl;have h21:(VO two O2z O' s e)[21]? =some (.list (O' 4) (dO e.cD) e.cD.length):=rfl;rcases(show e.kind=1\/e.kind=2\/e.kind=3\/e.kind=4 by omega)with k1 | k1 | k1 | k1
 ·rw [k1]at rq ⊢
  have hd:FD s e=if s.ep≠0 then(s,7)else if qK e.cD=false then(s,4)else({s with ep:=1,cD:=e.cD},0):=by unfold FD;rw [aK k1]
  refine Ho (k:=1) (p:=decide (s.ep=0)) (q:=2) rq rt6 rr6 rfl leC FG (by decide) (cG rfl) rfl (by decide) (fun S2 K _ hk=>aPP (n:=n+12) hy HP h12 hk) (.refl _) (fun hp=>?_) fun hp S7 hs7=>?_
  ·rw [hd,aK (by simpa using hp)]at hK;exact hK
  have e0:¬s.ep≠0:=by simpa using hp
  refine Ho (k:=1) (p:=qK e.cD) (q:=2) rq rt6 rr6 rfl leC FG (by decide) (cG rfl) rfl (by decide) (fun S2 K _ hk=>aPS (n:=n+1) (two:=two) (S0:=S2) hM hy HP aAZ h21 .val (fun c hc=>(hsz.cD.2 c hc).1) hk) hs7 (fun hp=>?_) fun Kt S8 hs8=>?_
  ·rw [hd,aG e0,aK hp]at hK;exact hK
  rw [hd,aG e0,aG (by rw [Kt];decide)]at hK;exact aNA (n:=n+1) QV hy (q:=2) rp6 re6 rt6 rr6 rfl leC FG ht0 hrt hsz WG LJ hs8 (by omega) (fun _=>hK) (fun h=>by omega) (fun h=>by omega) (fun h=>by omega)
 ·rw [k1]at rq ⊢
  have hd:FD s e=if s.ep=0 then(s,7)else if GU s.asked e.id e.x=0 then({s with asked:=s.asked++[(e.id,e.x)]},0)else(s,GU s.asked e.id e.x):=by unfold FD;rw [aG (by omega),aK k1]
  refine Ho (k:=2) (p:=decide (0<s.ep)) (q:=1) rq rt6 rr6 rfl leC FG (by decide) (cG rfl) rfl (by decide) (fun S2 K _ hk=>aLc (n:=n+12) hy HP h12 hk) (.refl _) (fun hp=>?_) fun hp S7 hs7=>?_
  ·rw [hd,aK (by simpa using hp)]at hK;exact hK
  have e0:¬s.ep=0:=by have:=of_decide_eq_true hp;omega
  rw [hd,aG e0]at hK;refine aNA (n:=n+1) QV hy (q:=1) rp6 re6 rt6 rr6 rfl leC FG ht0 hrt hsz WG LJ hs7 (by omega) (fun h=>by omega) (fun _=>⟨fun ha=>?_,fun ha=>?_⟩) (fun h=>by omega) (fun h=>by omega)
  ·rw [aG ha]at hK;exact hK
  ·rw [aK ha]at hK;exact hK
 ·rw [k1]at rq ⊢
  have hd:FD s e=if s.ep=0 then(s,7)else if ¬(s.next.length=0/\e.ep=s.ep)then(s,7)else if FN e.next=false then(s,4)else({s with next:=e.next},0):=by unfold FD;rw [aG (by omega),aG (by omega),aK k1]
  refine Ho (k:=3) (p:=decide (0<s.ep)) (q:=3) rq rt6 rr6 rfl leC FG (by decide) (cG rfl) rfl (by decide) (fun S2 K _ hk=>aLc (n:=n+12) hy HP h12 hk) (.refl _) (fun hp=>?_) fun hp S7 hs7=>?_
  ·rw [hd,aK (by simpa using hp)]at hK;exact hK
  have e0:¬s.ep=0:=by have:=of_decide_eq_true hp;omega
  refine Ho (k:=3) (p:=decide (s.next.length=0)&&decide (e.ep=s.ep)) (q:=3) rq rt6 rr6 rfl leC FG (by decide) (cG rfl) rfl (by decide) (fun S2 K _ hk=>aPQ (n:=n+12) hy HP h12 h15 (fun k=>eU) h19 hk) hs7 (fun Kt=>?_) fun Kt S8 hs8=>?_
  ·rw [hd,aG e0,aK (by simpa using Kt)]at hK;exact hK
  have e1:¬¬(s.next.length=0/\e.ep=s.ep):=not_not_intro (by simpa using Kt);refine Ho (k:=3) (p:=FN e.next) (q:=3) rq rt6 rr6 rfl leC FG (by decide) (cG rfl) rfl (by decide) (fun S2 K _ hk=>aPY (n:=n+8) hM hy hsz.next hk) hs8 (fun hp3=>?_) fun hp3 S9 hs9=>?_
  ·rw [hd,aG e0,aG e1,aK hp3]at hK;exact hK
  rw [hd,aG e0,aG e1,aG (by rw [hp3];decide)]at hK;exact aNA (n:=n+1) QV hy (q:=3) rp6 re6 rt6 rr6 rfl leC FG ht0 hrt hsz WG LJ hs9 (by omega) (fun h=>by omega) (fun h=>by omega) (fun _=>hK) (fun h=>by omega)
 ·rw [k1]at rq ⊢
  have hd:FD s e=if ¬(0<s.next.length/\e.ep=s.ep)then(s,7)else if iO e.eV=false then(s,4)else if nM s.cD e.eV=false then(s,21)else(⟨s.ep+1,s.next,FO e.eV,[],s.asked⟩,0):=by unfold FD;rw [aG (by omega),aG (by omega),aG (by omega),aK k1]
  refine Ho (k:=4) (p:=decide (0<s.next.length)&&decide (e.ep=s.ep)) (q:=3) rq rt6 rr6 rfl leC FG (by decide) (cG rfl) rfl (by decide) (fun S2 K _ hk=>aPR (n:=n+12) hy HP h12 h15 (fun k=>eU) h19 hk) (.refl _) (fun hp=>?_) fun hp S7 hs7=>?_
  ·rw [hd,aK (by simpa using hp)]at hK;exact hK
  have e0:¬¬(0<s.next.length/\e.ep=s.ep):=not_not_intro (by simpa using hp);refine Ho (k:=4) (p:=iO e.eV) (q:=3) rq rt6 rr6 rfl leC FG (by decide) (cG rfl) rfl (by decide) (fun S2 K _ hk=>aHW (n:=n) hM hy hsz hk) hs7 (fun Kt=>?_) fun Kt S8 hs8=>?_
  ·rw [hd,aG e0,aK Kt]at hK;exact hK
  refine Ho (k:=4) (p:=nM s.cD e.eV) (q:=3) rq rt6 rr6 rfl leC FG (by decide) (cG rfl) rfl (by decide) (fun S2 K _ hk=>aLv (n:=n+7) hM hy WG Kt hsz hk) hs8 (fun hp3=>?_) fun hp3 S9 hs9=>?_
  ·rw [hd,aG e0,aG (by rw [Kt];decide),aK hp3]at hK;exact hK
  rw [hd,aG e0,aG (by rw [Kt];decide),aG (by rw [hp3];decide)]at hK;exact aNA (n:=n+1) QV hy (q:=3) rp6 re6 rt6 rr6 rfl leC FG ht0 hrt hsz WG LJ hs9 (by omega) (fun h=>by omega) (fun h=>by omega) (fun h=>by omega) (fun _=>⟨Kt,hK⟩)
end
end Go.Am
namespace Go.Am
open Go.Proofs.JJ Go.Mq
def iW (S:Hp) (t:Nat) (s:BitVec 64) (ah:List Nat) (d:Nat):Prop:=∃w,S t=some (.row [vb s,w,ni d] 140)/\Ah (fun _=>none) w ah
section
variable{M n t d:Nat}{x:VE}{K:KV}{s:BitVec 64}{ah:List Nat}
theorem iW.mI{S S':Hp} (h:iW S t s ah d) (hs:∀j o,S j=some o->(∀vs m,o≠ .gD vs 51 m)->S' j=some o):iW S' t s ah d:=by
 obtain⟨w,h1,h2⟩:=h;exact⟨w,hs _ _ h1 (fun vs m c=>by cases c),h2⟩
theorem iW.aGi{S S':Hp}{el:TypeId} (he:el≠22) (h:iW S t s ah d) (hs:∀j o,S j=some o->(∀vs m,o≠ .gD vs el m)->S' j=some o):iW S' t s ah d:=by
 obtain⟨w,h1,h2⟩:=h;exact⟨w,hs _ _ h1 (fun vs m c=>by cases c),h2⟩
theorem iW.at{S S':Hp} (h:iW S t s ah d) (hs:S' t=S t):iW S' t s ah d:=by
 obtain⟨w,h1,h2⟩:=h;exact⟨w,by rw [hs];exact h1,h2⟩
theorem aEF{t:Nat}:del (fun _=>none) t=(fun _=>none):=by funext i;unfold del;split<;>rfl
theorem aK7{S:Hp} (hM:2<M) (hx:Deep PP bI gM M (n+2) x) (h:iW S t s ah d) (hd:d<1000000) (hK:∀S' a s' PQ,Db S S' t->iW S' t s' PQ (d+1)->(∀k,drawn (k+1) ah s=a::drawn k PQ s')->K (nu a) S'):x.call dU [.ptr t 0,nu 11] S K:=by
 have h':aJB (fun _=>none) S t s ah d:=by
  obtain⟨w,h1,h2⟩:=h;exact⟨w,h1,by rw [aEF];exact h2⟩
 refine aQ6 hM hx h' (fun i o e=>by rw [aEF]at e;cases e) hd fun S' a s' PQ b _ tp h1 _=>hK S' a s' PQ b ?_ h1;obtain⟨w,h1,h2⟩:=tp;exact⟨w,h1,by rw [aEF]at h2;exact h2⟩
theorem aHQ (hM:100000<M) (hx:Deep PP bI gM M (n+3) x){S0:Hp}{N X:Nat}{sd:BitVec 64}{AH:List Nat} (hN:N<1000) (hd:d+N<1000000)
 (hK:∀S v s' PQ,bP (del S0 t) S->iW S t s' PQ (d+N)->MN (del S0 t) S v (X%11::drawn N AH sd)->(∀k,drawn (N+k) AH sd=drawn N AH sd++drawn k PQ s')->bE v S K):
 ∀(r i m:Nat) (S:Hp) (v:V) (s:BitVec 64) (ah l:List Nat),i+r=N->r<m->bP (del S0 t) S->iW S t s ah (d+i)->MN (del S0 t) S v (X%11::l)->l.length=i->(∀k,drawn (i+k) AH sd=l++drawn k ah s)->
  pC x m (nu 11) (.func dU [.ptr t 0] []) v (ni N) (ni i) S K:=by
 intro r;induction r with
 | zero=>
  intro i m S v s ah l hi hm hle htp hm0 hl he;obtain⟨m,rfl⟩:=bG (show m≠0 by omega);rw [IH];unfold yJ;refine aE ?_;rw [aO,jO (by omega),bC];have e:i=N:=by omega
  subst e;have e0:l=drawn i AH sd:=by have:=he 0;simp [drawn]at this;exact this.symm
  subst e0;exact hK S v s ah hle htp hm0 he
 | succ r ih=>
  intro i m S v s ah l hi hm hle htp hm0 hl he;obtain⟨m,rfl⟩:=bG (show m≠0 by omega);rw [IH];unfold yJ;refine aE ?_;rw [aO,yQ (by omega),bR];show x.call dU [.ptr t 0,nu 11] S _;refine aK7 (by omega) hx htp (by omega) fun S1 a s1 ah1 b1 tp1 h1=>?_
  have dH:bP (del S0 t) S1:=fun j o e=>by
   have hj:j≠t:=fun c=>by rw [c,LT]at e;cases e
   rw [b1 j hj];exact hle j o e
  obtain⟨w,q1,q2⟩:=htp;have m1:MN (del S0 t) S1 v (X%11::l):=hm0.but (fun j o hj e=>by rw [b1 j hj];exact e) q1 (fun vs m e=>by cases e) (fun vs e=>by cases e);refine m1.app dH (by simp;omega) fun v2 S2 fF p2 m2=>?_;rw [bD (by omega)];obtain⟨w1,q3,q4⟩:=tp1;refine ih (i+1) m S2 v2 s1 ah1 (l++[a]) (by omega) (by omega) fF ⟨w1,p2 _ _ q3 (fun vs m e=>by cases e),q4⟩ m2 (by simp [hl]) fun k=>?_;have e1:=he (k+1);rw [h1 k]at e1;rw [show i+1+k=i+(k+1)by omega,e1];simp
theorem Sg (hM:100000<M) (hx:Deep PP bI gM M (n+4) x){S:Hp}{N X:Nat} (hX:FC X) (hN:N<1000) (hd:d+N<1000000) (h:iW S t s ah d)
 (hK:∀S' s' PQ,Db S S' t->iW S' t s' PQ (d+N)->(∀k,drawn (N+k) ah s=drawn N ah s++drawn k PQ s')->∀O,K (.list O (iV (X%11::drawn N ah s)) (X%11::drawn N ah s).length) S'):x.call wK [nu X,ni N,nu 11,.func dU [.ptr t 0] []] S K:=by
 refine hx.call rfl fun y hy=>?_;rw [Uy];unfold Bh;rw [Av (by decide)];refine⟨rfl,by simp,fun j hj=>?_⟩;obtain⟨w0,Cu,_⟩:=id h;have hjt:j≠t:=gF hj Cu;show pC y y.most (nu 11) _ (.own j 0 1 1) (ni N) (ni 0) (aJ S j (.row [nu (X%11)] 22)) K;rw [hy.most];have le0:bP (del S t) (aJ S j (.row [nu (X%11)] 22)):=(aAg).trans (.aI hj);obtain⟨w,q1,q2⟩:=h;refine aHQ (AH:=ah) (sd:=s) hM hy hN hd (fun S2 v s2 ah2 fF tp2 m2 h2=>?_) N 0 M _ _ s ah [] (by omega) (by omega) le0 ⟨w,by rw [aC (aN hjt)];exact q1,q2⟩ (.own (l:=[X%11]) (by rw [SW hjt];exact hj) aB) rfl (fun k=>by simp);obtain⟨w2,q3,q4⟩:=tp2;have leT:=Jc fF;have mT:=m2.qD q3 (fun vs m e=>by cases e) (fun vs e=>by cases e);refine gX leT mT.Cy (hK _ s2 ah2 (fun i hi=>AP hi) ⟨w2,by rw [XT];exact q3,q4⟩ h2)
end
theorem aHR{S S3:Hp}{t i el:Nat}{vs us:List V}{m q:Nat} (l:bP (qD S S3 t) S3) (h:S3 i=some (.gD vs el m)) (q8:S3 t=some (.row us q)) (h0:del S t i=none):qD S S3 t i=none:=by
 have hi:i≠t:=fun c=>by rw [c,q8]at h;cases h
 rw [AP hi];rw [SW hi]at h0;exact h0
section
variable{M n:Nat}{x:VE}{S S0:Hp}{K:KV}{two:Bool}{t d:Nat}{s:BitVec 64}{ah:List Nat}
theorem aN7 (hM:100000<M) (hx:Deep PP bI gM M (n+5) x){X:Nat} (hX:FC X) (hd:d+1000<1000000) (h:iW S t s ah d)
 (hK:∀S' s' PQ,Db S S' t->iW S' t s' PQ (d+tQ two)->(∀k,drawn (tQ two+k) ah s=drawn (tQ two) ah s++drawn k PQ s')->∀O,K (.list O (dO (pA (tT two+1) (X%11::drawn (tQ two) ah s))) (tT two+1)) S'):
 x.call MI [.agg (pv two),nu X,.func dU [.ptr t 0] []] S K:=by
 have hT:tT two<=2:=by cases two<;>decide
 have hT1:1<=tT two:=by cases two<;>decide
 have hQ:tQ two<9:=by cases two<;>decide
 refine hx.call rfl fun y hy=>?_;rw [aEG];unfold Sh;obtain⟨w0,Cu,_⟩:=id h;refine bX kC fun p hp=>?_;have Vz:p≠t:=gF hp Cu;have dH:bP S (aJ S p (.row (pv two) 29)):= .aI hp;have rp:aJ S p (.row (pv two) 29) p=some (.row (pv two) 29):=aB;have oth:∀j,j≠p->aJ S p (.row (pv two) 29) j=S j:=fun j hj=>aC hj;have h1:iW (aJ S p (.row (pv two) 29)) t s ah d:=h.mI fun j o e _=>dH _ _ e;generalize aJ S p (.row (pv two) 29)=S1 at dH rp oth h1;have e6:(pv two)[6]? =some (ni (tT two)):=rfl;have e1:(pv two)[1]? =some (nu 11):=rfl;have hmul:(tT two+1)*(tT two+1)<=9:=by cases two<;>decide
 have aRH:1<=(tT two+1)*(tT two+1):=by cases two<;>decide
 rw [aV,cW rp e6,bD (by omega),Cz (by omega),aAh aRH (by omega),aV,cW rp e1];refine Sg (n:=n) hM hy hX (show tQ two<1000 by omega) (by omega) h1 fun S2 s2 ah2 aCK tp2 dr2 O=>?_;generalize hl:X%11::drawn ((tT two+1)*(tT two+1)-1) ah s=l;have Tg:X%11::drawn (tQ two) ah s=l:=hl;have hll:l.length=(tT two+1)*(tT two+1):=by rw [<-hl,oN,wJ];omega
 have FF:(X%11::drawn (tQ two) ah s).length=l.length:=by rw [Tg]
 show vMk 51 24 cU (ni (tT two+1)) (ni (tT two+1)) S2 _;refine⟨bO _,by omega,by omega,fun r hr=>?_⟩;have hz:(List.replicate (tT two+1) [V.nil]).flatten=List.replicate (tT two+1) V.nil:=by cases two<;>rfl
 show bK (.own r 0 (tT two+1) (tT two+1)) fun v10=>nC y y.most (ni (tT two+1)) _ (.own r 0 (tT two+1) (tT two+1)) v10 (ni 0) (aJ S2 r (.row (List.replicate (tT two+1) [V.nil]).flatten 51)) K;rw [hz,hy.most];show nC y M (ni (tT two+1)) (.list O (iV l) l.length) (.own r 0 (tT two+1) (tT two+1)) (ni (tT two+1)) (ni 0) (aJ S2 r (.row (List.replicate (tT two+1) V.nil) 51)) K;have fF:bP S2 (aJ S2 r (.row (List.replicate (tT two+1) V.nil) 51)):= .aI hr
 have go:∀(k i m:Nat) (S3:Hp) (vs:List V),i+k=tT two+1->k<m->bP S2 S3->S3 r=some (.row vs 51)->vs.length=tT two+1->(∀j,j<i->∃t,vs[j]? =some (.list t (iV ((l.drop (j*(tT two+1))).take (tT two+1))) (tT two+1)))->
  nC y m (ni (tT two+1)) (.list O (iV l) l.length) (.own r 0 (tT two+1) (tT two+1)) (ni (tT two+1)) (ni i) S3 K:=by
  intro k;induction k with
  | zero=>
   intro i m S3 vs hi hm pK r3 JG hv;obtain⟨m,rfl⟩:=bG (show m≠0 by omega);rw [JS];unfold AD;refine aE ?_;rw [aO,bN (by omega),bC];obtain⟨w2,q3,q4⟩:=tp2
   have hrS:S r=none:=by
    cases e:S r with
    | none=>rfl
    | some o=>
     have hrt:r≠t:=gF hr q3;have:=aCK r hrt;rw [hr,dH _ _ e]at this;cases this
   have leT:bP (qD S S3 t) S3:=fun i o e=>by
    unfold qD at e;by_cases hi:i=t
    ·subst hi;rw [aK rfl]at e;exact e
    ·rw [aG hi]at e
     exact pK _ _ (by rw [aCK i hi];exact dH _ _ e)
   have ht3:S3 t=some (.row [vb s2,w2,ni (d+((tT two+1)*(tT two+1)-1))] 140):=pK _ _ q3
   refine gX leT (cs:=dO (pA (tT two+1) l)) (.own r3 (by rw [AP (gF hr q3)];exact hrS) (bO _) (by rw [JG];unfold dO;rw [mH,Jd];omega) fun j v dd x1 x2=>?_) (by
    have hk:=hK (qD S S3 t) s2 ah2 (fun i hi=>AP hi) ⟨w2,by rw [XT];exact ht3,q4⟩ dr2;rw [Tg]at hk;exact hk)
   rw [dX]at x1;have hj:j<tT two+1:=by have:=(dK.1 x1).1;omega
   obtain⟨t3,e3⟩:=hv j (by omega);rw [x1]at e3;injection e3 with e3;subst e3
   have hd2:(dO (pA (tT two+1) l))[j]? =some (.list (iV ((l.drop (j*(tT two+1))).take (tT two+1))) (tT two+1)):=by
    unfold dO pA;rw [dJ,dJ,VW hj]
    have hlen:((l.drop (j*(tT two+1))).take (tT two+1)).length=tT two+1:=by
     rw [mG,BL,hll];have:(j+1)*(tT two+1)<=(tT two+1)*(tT two+1):=RP _ hj;rw [Cc]at this;omega
    simp only [DK,hlen]
   rw [hd2]at x2;injection x2 with x2;subst x2;exact .list
  | succ k ih=>
   intro i m S3 vs hi hm pK r3 JG hv;obtain⟨m,rfl⟩:=bG (show m≠0 by omega);rw [JS];unfold AD;refine aE ?_;have Th:i<tT two+1:=by omega
   have Dv:(i+1)*(tT two+1)<=(tT two+1)*(tT two+1):=RP _ Th;have NN:i*(tT two+1)<(i+1)*(tT two+1):=by rw [Cc];omega
   have hb3:(i+1)*(tT two+1)-i*(tT two+1)=tT two+1:=by rw [Cc];omega
   rw [aO,bF Th,bR,Cz (by omega),bD (by omega),Cz (by omega),bD (by omega),Cz (by omega)];refine⟨Nat.le_of_lt NN,bO _,by rw [hll];exact Dv,NN,by rw [jQ,HH,hll];exact Dv,?_⟩;rw [hb3,jQ,jQ,aJC,aJD];refine⟨Th,?_⟩;refine NX r3 rfl (by omega) ?_;rw [bD (by omega),GM (by omega)];refine ih (i+1) m _ _ (by omega) (by omega) (fun j o e=>by rw [aC (fun c=>by rw [c,hr]at e;cases e)];exact pK _ _ e) aB (by rw [Bw];exact JG) fun j hj=>?_;rw [show 0+i*1=i by omega];by_cases hji:j=i
   ·subst hji
    exact⟨_,by rw [VQ (by omega)]⟩
   ·obtain⟨t3,e3⟩:=hv j (by omega)
    exact⟨t3,by rw [IP (aN hji)];exact e3⟩
 exact go (tT two+1) 0 M _ _ (by omega) (by omega) fF aB (by rw [OQ]) (fun j hj=>by omega)
theorem aK9 (hM:1000000<M) (hx:Deep PP bI gM M (n+21) x){bp bd N:Nat}{SB:Hp}{O:Tag}{L:List (Nat×Nat)} (hL:L.length<1000) (aPM:∀p∈L,FC p.1/\FC p.2){AH:List Nat}{sd:BitVec 64}
 {DE:Nat} (hK:∀S v w,bP SB S->(∃s' PQ,iW S t s' PQ DE)->S bp=some (.row (pv two) 29)->S bd=some (.row [.nil,.nil,.nil] 79)->GL 33 SB S v (mD (fM (tT two+1) (tQ two) L (drawn ((tQ two+tQ two)*L.length) AH sd)))->GL 33 SB S w (mD (bM (tT two+1) (tQ two) L (drawn ((tQ two+tQ two)*L.length) AH sd)))->
  (bJ 12 (.ptr bp 0) S fun wF S=>x.call bQ [wF,v,w] S fun yR S=>cF MJ [(0,1,yR)] fun wU=>cN MJ 79 S fun v20 S=>mB 3 v20 wU S fun S=>gG x x.most (ni N) (.ptr bp 0) (.ptr bd 0) v w v20 (.int .u64 (.ofNat 1)) S K)):
 ∀(r i m:Nat) (S:Hp) (v w:V) (s:BitVec 64) (ah:List Nat) (F B:List (List (List Nat))),i+r=L.length->r<m->bP SB S->S bp=some (.row (pv two) 29)->S bd=some (.row [.nil,.nil,.nil] 79)->SB t=none->d+100*L.length<500000->DE=d+(tQ two+tQ two)*L.length->iW S t s ah (d+(tQ two+tQ two)*i)->GL 33 SB S v (mD F)->GL 33 SB S w (mD B)->(∀j m m',v= .acc j m->w≠ .acc j m')->F.length=i->B.length=i->
  F++fM (tT two+1) (tQ two) (L.drop i) (drawn ((tQ two+tQ two)*r) ah s)=fM (tT two+1) (tQ two) L (drawn ((tQ two+tQ two)*L.length) AH sd)->B++bM (tT two+1) (tQ two) (L.drop i) (drawn ((tQ two+tQ two)*r) ah s)=bM (tT two+1) (tQ two) L (drawn ((tQ two+tQ two)*L.length) AH sd)->
  vT x m (ni N) (.ptr t 0) (.ptr bp 0) (.ptr bd 0) v w (.list O (pds L) L.length) (ni L.length) (ni i) S K:=by
 have hQ:tQ two<9:=by cases two<;>decide
 intro r;induction r with
 | zero=>
  intro i m S v w s ah F B hi hm le rp rd nt hd hDE tp gv gw ap hF hB eF eB;obtain⟨m,rfl⟩:=bG (show m≠0 by omega);rw [JT];unfold AE;refine aE ?_;rw [aO,jO (by omega),bC];rw [Xl (by omega)]at eF eB;have eF:F++[]=_:=eF;have eB:B++[]=_:=eB;rw [OW]at eF eB;rw [eF]at gv;rw [eB]at gw;exact hK S v w le ⟨s,ah,by rw [hDE,<-show i=L.length by omega];exact tp⟩ rp rd gv gw
 | succ r ih=>
  intro i m S v w s ah F B hi hm le rp rd nt hd hDE tp gv gw ap hF hB eF eB;obtain⟨m,rfl⟩:=bG (show m≠0 by omega);rw [JT];unfold AE;refine aE ?_;have JI:i<L.length:=by omega
  obtain⟨g1,g2⟩:=aPb (l:=L) (i:=i) (a:=L[i].1) (b:=L[i].2) (aQ JI);obtain⟨t1,t2⟩:=aPc g1 g2;obtain⟨aS8,aS9⟩:=aPM _ (cJ JI);rw [aO,yQ JI,bR,gW JI,TC,dG t1,t2];show cN GK 145 S fun v3 S=>mB 2 v3 (.agg [nu L[i].1,nu L[i].2]) S _;refine cB (l:=[nu 0,nu 0]) rfl fun k hk=>?_;refine gO (n:=2) (i:=k) aB rfl rfl rfl ?_;rw [eS];have rk:aJ S k (.row [nu L[i].1,nu L[i].2] 145) k=some (.row [nu L[i].1,nu L[i].2] 145):=aB;have dH:bP S (aJ S k (.row [nu L[i].1,nu L[i].2] 145)):= .aI hk;generalize aJ S k (.row [nu L[i].1,nu L[i].2] 145)=S1 at rk dH;have tp1:iW S1 t s ah (d+(tQ two+tQ two)*i):=tp.aGi (el:=33) (by decide) fun j o e _=>dH _ _ e;obtain⟨w0,Cu,_⟩:=id tp1;have hkt:k≠t:=fun c=>by rw [c,Cu]at rk;injection rk with rk;injection rk with _ rk;cases rk
  have Vz:bp≠t:=fun c=>by have:=dH _ _ rp;rw [c,Cu]at this;injection this with this;injection this with _ this;cases this
  have hdt:bd≠t:=fun c=>by have:=dH _ _ rd;rw [c,Cu]at this;injection this with this;injection this with _ this;cases this
  have aTr:(tQ two+tQ two)*i<=20*L.length:=by
   have:(tQ two+tQ two)*i<=20*i:=RP _ (by omega);omega
  rw [lT (dH _ _ rp),aV,cW rk rfl];refine aN7 (n:=n+16) (by omega) hx aS8 (by omega) tp1 fun S2 s2 ah2 aCK tp2 dr2 Oa=>?_;have lB1:bP SB S1:=le.trans dH
  have aRI:∀{v:V} {ds:List Dt},GL 33 SB S v ds->GL 33 SB S2 v ds:=fun {v ds} g=>(g.up dH).but fun j vs m e=>by
   rw [aCK j (fun c=>by rw [c,Cu]at e;injection e with e;cases e)];exact e
  have lB2:bP SB S2:=fun j o e=>by rw [aCK j (fun c=>by rw [c,nt]at e;cases e)];exact lB1 _ _ e
  have gv2:=aRI gv;have gw2:=aRI gw;have rp2:S2 bp=some (.row (pv two) 29):=by rw [aCK _ Vz];exact dH _ _ rp
  have rd2:S2 bd=some (.row [.nil,.nil,.nil] 79):=by rw [aCK _ hdt];exact dH _ _ rd
  have rk2:S2 k=some (.row [nu L[i].1,nu L[i].2] 145):=by rw [aCK _ hkt];exact rk
  have hmF:(mD F).length<=1000000:=by rw [SZ];omega
  have hmB:(mD B).length<=1000000:=by rw [SZ];omega
  refine gv2.app (t:=Oa) (d:= .list (dO (pA (tT two+1) (L[i].1%11::drawn (tQ two) ah s))) (tT two+1)) (z:= .slice none 0 0) (zv:= .nil) lB2 hmF rfl (by decide) fun v3 S3 pK p3 o3 gv3=>?_
  have q3:∀{j:Nat} {o:Ob},S2 j=some o->(∀vs m,o≠ .gD vs 33 m)->S3 j=some o:=fun {j o} e xP=>p3 _ _ e fun m c=>by
   obtain⟨vs,n,e2⟩:=gv2.there c;rw [e]at e2;injection e2 with e2;exact xP _ _ e2
  have Lt:=q3 rp2 (fun vs m e=>by cases e);have rd3:=q3 rd2 (fun vs m e=>by cases e);have rk3:=q3 rk2 (fun vs m e=>by cases e);have tp3:=tp2.aGi (el:=33) (by decide) (S':=S3) fun j o e xP=>q3 e xP;have gw3:GL 33 SB S3 w (mD B):=gw2.mI p3 fun j m m' e c=>ap j m' m c e
  have ap3:∀j m m',v3= .acc j m->w≠ .acc j m':=fun j m m' e c=>by
   rcases o3 j m e with ⟨m2,e2⟩ | e2
   ·exact ap j m2 m' e2 c
   ·obtain⟨vs,n,e4⟩:=gw2.there c
    rw [e2]at e4;cases e4
  rw [lT Lt,aV,cW rk3 rfl];obtain⟨w1,hw1,_⟩:=id tp3;refine aN7 (n:=n+16) (by omega) hx aS9 (by omega) tp3 fun S4 s4 ah4 aM7 tp4 dr4 Obz=>?_
  have aRJ:∀{v:V} {ds:List Dt},GL 33 SB S3 v ds->GL 33 SB S4 v ds:=fun {v ds} g=>g.but fun j vs m e=>by
   rw [aM7 j (fun c=>by rw [c,hw1]at e;injection e with e;cases e)];exact e
  have lB4:bP SB S4:=fun j o e=>by rw [aM7 j (fun c=>by rw [c,nt]at e;cases e)];exact pK _ _ e
  have gv4:=aRJ gv3;have gw4:=aRJ gw3;have rp4:S4 bp=some (.row (pv two) 29):=by rw [aM7 _ Vz];exact Lt
  have rd4:S4 bd=some (.row [.nil,.nil,.nil] 79):=by rw [aM7 _ hdt];exact rd3
  refine gw4.app (t:=Obz) (d:= .list (dO (pA (tT two+1) (L[i].2%11::drawn (tQ two) ah2 s2))) (tT two+1)) (z:= .slice none 0 0) (zv:= .nil) lB4 hmB rfl (by decide) fun w5 S5 FK p5 o5 gw5=>?_
  have q5:∀{j:Nat} {o:Ob},S4 j=some o->(∀vs m,o≠ .gD vs 33 m)->S5 j=some o:=fun {j o} e xP=>p5 _ _ e fun m c=>by
   obtain⟨vs,n,e2⟩:=gw4.there c;rw [e]at e2;injection e2 with e2;exact xP _ _ e2
  have gv5:=gv4.mI p5 fun j m m' e c=>ap3 j m m' e c
  have ap5:∀j m m',v3= .acc j m->w5≠ .acc j m':=fun j m m' e c=>by
   rcases o5 j m' c with ⟨m2,e2⟩ | e2
   ·exact ap3 j m m2 e e2
   ·obtain⟨vs,n,e4⟩:=gv4.there e
    rw [e2]at e4;cases e4
  rw [bD (by omega)];have hd2:L.drop i=L[i]::L.drop (i+1):=mE JI
  have edr:drawn ((tQ two+tQ two)*(r+1)) ah s=drawn (tQ two) ah s++(drawn (tQ two) ah2 s2++drawn ((tQ two+tQ two)*r) ah4 s4):=by
   rw [show(tQ two+tQ two)*(r+1)=tQ two+(tQ two+(tQ two+tQ two)*r)by rw [Cd];omega,dr2,dr4]
  have Vt:(drawn (tQ two) ah s).length=tQ two:=wJ _ _ _;have FF:(drawn (tQ two) ah2 s2).length=tQ two:=wJ _ _ _;rw [edr,hd2]at eF eB
  have c1:(drawn (tQ two) ah s++(drawn (tQ two) ah2 s2++drawn ((tQ two+tQ two)*r) ah4 s4)).take (tQ two)=drawn (tQ two) ah s:=by
   rw [List.take_append_of_le_length (by omega),mF (by omega)]
  have c2:(drawn (tQ two) ah s++(drawn (tQ two) ah2 s2++drawn ((tQ two+tQ two)*r) ah4 s4)).drop (tQ two)=drawn (tQ two) ah2 s2++drawn ((tQ two+tQ two)*r) ah4 s4:=by
   rw [List.drop_append_of_le_length (by omega),pH (by omega),Bx]
  have c3:(drawn (tQ two) ah2 s2++drawn ((tQ two+tQ two)*r) ah4 s4).take (tQ two)=drawn (tQ two) ah2 s2:=by
   rw [List.take_append_of_le_length (by omega),mF (by omega)]
  have c4:(drawn (tQ two) ah s++(drawn (tQ two) ah2 s2++drawn ((tQ two+tQ two)*r) ah4 s4)).drop (tQ two+tQ two)=drawn ((tQ two+tQ two)*r) ah4 s4:=by
   rw [<-By,c2,List.drop_append_of_le_length (by omega),pH (by omega),Bx]
  rw [aFQ,c1,c4]at eF;rw [aFR,c2,c3,c4]at eB;have rl1:∀l,(pA (tT two+1) l).length=tT two+1:=fun l=>Jd _ _;refine ih (i+1) m S5 v3 w5 s4 ah4 (F++[pA (tT two+1) (L[i].1%11::drawn (tQ two) ah s)]) (B++[pA (tT two+1) (L[i].2%11::drawn (tQ two) ah2 s2)]) (by omega) (by omega) FK (q5 rp4 fun vs m e=>by cases e) (q5 rd4 fun vs m e=>by cases e) nt hd hDE ?_ ?_ ?_ ap5 (by simp [hF]) (by simp [hB]) ?_ ?_
  ·have:=tp4.aGi (el:=33) (by decide) (S':=S5) fun j o e xP=>q5 e xP
   rw [vG,vG]at this;rw [Cd];exact this
  ·have:mD (F++[pA (tT two+1) (L[i].1%11::drawn (tQ two) ah s)])=mD F++[.list (dO (pA (tT two+1) (L[i].1%11::drawn (tQ two) ah s))) (tT two+1)]:=by rw [aAm];show _++[Dt.list _ _]=_;rw [rl1]
   rw [this];exact gv5
  ·have:mD (B++[pA (tT two+1) (L[i].2%11::drawn (tQ two) ah2 s2)])=mD B++[.list (dO (pA (tT two+1) (L[i].2%11::drawn (tQ two) ah2 s2))) (tT two+1)]:=by rw [aAm];show _++[Dt.list _ _]=_;rw [rl1]
   rw [this];exact gw5
  ·rw [BK];exact eF
  ·rw [BK];exact eB
theorem aPs (hM:1000000<M) (hx:Deep PP bI gM M (n+22) x){O:Tag}{L:List (Nat×Nat)} (hL:L.length=2) (aPM:∀p∈L,FC p.1/\FC p.2){dd:Nat} (hdd:dd<400000) (h:iW S t s ah dd)
 (hK:∀D Sb S' vr vc t1,Db S Sb t->(∃s' PQ,iW Sb t s' PQ (dd+(tQ two+tQ two)*L.length))->D=drawn ((tQ two+tQ two)*L.length) ah s->bP Sb S'->GG Sb S' vr (RS (tT two+1) (tN two) (fT two L D) (bT two L D))->GG Sb S' vc (CS (tT two+1) (tN two) (fT two L D) (bT two L D))->
  K (.tuple [.agg [.list t1 (mD (tL (fT two L D) (bT two L D))) (tL (fT two L D) (bT two L D)).length,vr,vc],ni 0]) S'):
 x.call vC [.agg (pv two),.list O (pds L) L.length,ni (tN two),.ptr t 0] S K:=by
 have hQ:tQ two<9:=by cases two<;>decide
 have hT:tT two<=2:=by cases two<;>decide
 have hN:tN two<=7:=by cases two<;>decide
 have hN1:1<=tN two:=by cases two<;>decide
 have hQQ:tQ two+1=(tT two+1)*(tT two+1):=by cases two<;>rfl
 refine hx.call rfl fun y hy=>?_;rw [aCL];unfold Lg gP gL gK gQ;obtain⟨w0,Cu,_⟩:=id h;refine bX kC fun p hp=>?_;have Vz:p≠t:=gF hp Cu;have dH:bP S (aJ S p (.row (pv two) 29)):= .aI hp;have rp:aJ S p (.row (pv two) 29) p=some (.row (pv two) 29):=aB;generalize aJ S p (.row (pv two) 29)=S1 at dH rp;refine cB (l:=[.nil,.nil,.nil]) rfl fun bd hbd=>?_;have hdt:bd≠t:=gF hbd (dH _ _ Cu);have fF:bP S1 (aJ S1 bd (.row [.nil,.nil,.nil] 79)):= .aI hbd;have rd:aJ S1 bd (.row [.nil,.nil,.nil] 79) bd=some (.row [.nil,.nil,.nil] 79):=aB;generalize aJ S1 bd (.row [.nil,.nil,.nil] 79)=S2 at fF rd;have rp2:=fF _ _ rp;have aRK:=dH.trans fF;rw [lT rp2];refine aFK (two:=two) hy ?_;rw [lR,eQ,aF,aM];dsimp only;rw [aF,aM];dsimp only;rw [eU,aF,aM,lT rp2];dsimp only;rw [aF,aM];dsimp only;refine Wp (n:=n+20) (two:=two) hy ?_;rw [aF,aM];dsimp only;rw [tZ,bF hL,eQ,aF,dS,aF,aM];dsimp only;rw [aF,aM];dsimp only;rw [aO,bN (by omega),aF,dS,aF,aM];dsimp only;rw [aF,aM];dsimp only;rw [SX,bN (by omega),aF,dS,bC,eU,hy.most];have aTa:del S t t=none:=by unfold del;rw [aK rfl]
 have leB:bP (del S t) S2:=aAg.trans aRK;have hp0:del S t p=none:=by rw [SW Vz];exact hp
 have aRL:del S t bd=none:=by rw [SW hdt];exact dH.none hbd
 have tp2:iW S2 t s ah (dd+(tQ two+tQ two)*0):=h.aGi (el:=33) (by decide) fun j o e _=>aRK _ _ e;refine aK9 (n:=n) (t:=t) (d:=dd) (DE:=dd+(tQ two+tQ two)*L.length) (N:=tN two) (SB:=del S t) (L:=L) (AH:=ah) (sd:=s) hM hy (by rw [hL];decide) aPM (fun S3 v w pK htE Lt rd3 gv gw=>?_) L.length 0 M S2 .nil .nil s ah [] [] (by omega) (by rw [hL];omega) leB rp2 rd aTa (by rw [hL];omega) rfl tp2 .nil .nil (fun j m m' e=>by cases e) rfl rfl rfl rfl;obtain⟨s8,ah8,w8,q8,u8⟩:=htE;have leT:bP (qD S S3 t) S3:=Jc pK
 have gT:∀{v:V} {ds:List Dt},GL 33 (del S t) S3 v ds->GL 33 (qD S S3 t) S3 v ds:=fun {v ds} g=>by
  cases g with
  | nil=>exact .nil
  | acc h0 h hl hv=>exact .acc (aHR leT h q8 h0) h hl hv
 replace gv:=gT gv
 replace gw:=gT gw
 have hp0:qD S S3 t p=none:=by rw [AP Vz];exact hp
 have aRL:qD S S3 t bd=none:=by rw [AP hdt];exact dH.none hbd
 have pK:=leT;generalize hD:drawn ((tQ two+tQ two)*L.length) ah s=D at gv gw hK;have hDl:D.length=(tQ two+tQ two)*L.length:=by rw [<-hD];exact wJ _ _ _
 have hDc:∀c∈D,c<11:=by rw [<-hD];exact QN _ _ _
 obtain⟨sqf,sqb⟩:=aJS (n:=tT two+1) (Q:=tQ two) hQQ L D (by omega) hDc;have lF:(fM (tT two+1) (tQ two) L D).length=2:=by rw [aJO,hL]
 have lB:(bM (tT two+1) (tQ two) L D).length=2:=by rw [aJP,hL]
 rw [lT Lt];refine aJG (n:=n+1) hM hy (by rw [lF];decide) (by rw [lF,lB]) (fun i a b=>(sqf _ (cJ a)).sq (by omega) (sqb _ (cJ b))) gv gw fun t1=>?_
 have hbl:∀{k:V->Prop} {u:V},fV u=true->wN u=(fun p=>p [u])->k (.agg [u,.nil,.nil])->cF MJ [(0,1,u)] k:=fun {k u} h1 hc hk=>by
  have hz:LR MJ=some [.nil,.nil,.nil]:=rfl;unfold cF sC;rw [hz];show iN [(0,1,u)] [.nil,.nil,.nil] _;unfold iN;rw [hc];exact⟨rfl,by simp,hk⟩
 refine hbl rfl rfl ?_;refine cB (l:=[.nil,.nil,.nil]) rfl fun bS hbS=>?_;refine gO (n:=3) (i:=bS) aB rfl rfl rfl ?_;rw [eS,hy.most];have HI:bP S3 (aJ S3 bS (.row [.list t1 (mD (tL (fM (tT two+1) (tQ two) L D) (bM (tT two+1) (tQ two) L D))) (tL (fM (tT two+1) (tQ two) L D) (bM (tT two+1) (tQ two) L D)).length,.nil,.nil] 79)):= .aI hbS;refine aJR (n:=n+12) (two:=two) (i:=0) (k:=tT two+1) (SB:=qD S S3 t) hM hy (by omega) (by omega) (by omega) (by rw [lF,lB]) (by rw [lF];decide) sqf sqb rfl (pK.none hbS) aRL (aN (gF hbS rd3)) (fun S' vr vc a b c=>hK D (qD S S3 t) S' vr vc t1 (fun i hi=>AP hi) ⟨s8,ah8,w8,by rw [XT];exact q8,u8⟩ rfl a b c) (tN two) M _ .nil .nil (by omega) (by omega) (pK.trans HI) (HI _ _ Lt) (HI _ _ rd3) aB (gv.up HI) (gw.up HI) .nil .nil (fun j m m' e=>by cases e)
end
section
variable{M n t:Nat}{x:VE}{K:KV}{two:Bool}
theorem aK8 (hM:1000000<M) (hx:Deep PP bI gM M (n+4) x){S0:Hp}{va:V}{l:List Nat} (ha:NV (del S0 t) va l) (VI:LS l) (hl:l.length<1000){bp:Nat}{v29:V}{FS RS:List (List Nat)}{DE:Nat}
 (hK:∀S vf vr,bP (del S0 t) S->(∃s' PQ,iW S t s' PQ DE)->S bp=some (.row (pv two) 29)->ML (del S0 t) S vf FS->ML (del S0 t) S vr RS->(aS 5 (.ptr bp 0) fun v24=>aU v24 S fun RA S=>vMk 82 24 cU RA RA S fun Bi S=>bK Bi fun ZZ=>gN x x.most (.ptr bp 0) vf vr Bi ZZ (.int .i64 (.ofNat 0)) S K)):
 ∀(r i m:Nat) (S:Hp) (vf vr:V) (s:BitVec 64) (ah:List Nat) (fs rs:List (List Nat)) (d:Nat),i+r=l.length->r<m->d+(2*tT two+1)*r=DE->DE<900000->fs.length=i->rs.length=i->bP (del S0 t) S->iW S t s ah d->S bp=some (.row (pv two) 29)->ML (del S0 t) S vf fs->ML (del S0 t) S vr rs->(∀j m m',vf= .acc j m->vr≠ .acc j m')->
  fs++fsR (tT two) (l.drop i) (drawn ((tT two+(1+tT two))*r) ah s)=FS->rs++rsR (tT two) r (drawn ((tT two+(1+tT two))*r) ah s)=RS->
  sG x m (.ptr bp 0) (.func dU [.ptr t 0] []) vf vr va (ni l.length) (ni i) S K:=by
 intro r;have hT:tT two<=2:=by cases two<;>decide
 induction r with
 | zero=>
  intro i m S vf vr s ah fs rs d hi hm hd hDE hf hr hle htp Qu mf mr aGP eF eR;obtain⟨m,rfl⟩:=bG (show m≠0 by omega);rw [FQ];unfold wT;refine aE ?_;rw [aO,jO (by omega),bC];have e:l.drop i=[]:=Xl (by omega);rw [e]at eF;simp only [fsR,rsR,OW]at eF eR;subst eF eR;exact hK S vf vr hle ⟨s,ah,by rw [<-hd,Nat.mul_zero,VZ];exact htp⟩ Qu mf mr
 | succ r ih=>
  intro i m S vf vr s ah fs rs d hi hm hd hDE hf hr hle htp Qu mf mr aGP eF eR;obtain⟨m,rfl⟩:=bG (show m≠0 by omega);rw [FQ];unfold wT;refine aE ?_;have hlt:i<l.length:=by omega
  obtain⟨p,hp,RK⟩:=ha.at (i:=i) (aQ hlt);have hX:=VI _ (cJ hlt);have e6:(pv two)[6]? =some (ni (tT two)):=rfl;have e1:(pv two)[1]? =some (nu 11):=rfl;rw [Cd]at hd;rw [aO,yQ (by omega),bR,hp,RK S hle,aV,cW Qu e6,aV,cW Qu e1];refine Sg (d:=d) (n:=n) (by omega) hx hX (by omega) (by omega) htp fun S1 s1 ah1 b1 tp1 h1 O=>?_
  have dH:bP (del S0 t) S1:=fun j o e=>by
   have hj:j≠t:=fun c=>by rw [c,LT]at e;cases e
   rw [b1 j hj];exact hle j o e
  have btp:bp≠t:=fun c=>by
   obtain⟨w,q,_⟩:=htp;rw [c,q]at Qu;injection Qu with e;injection e with _ e;cases e
  obtain⟨wt,aRC,_⟩:=id htp;have Za:∀j o,j≠t->S j=some o->S1 j=some o:=fun j o hj e=>by rw [b1 j hj];exact e
  have mf1:=mf.but Za aRC (by decide);have mr1:=mr.but Za aRC (by decide);have bp1:=Za _ _ btp Qu;refine mf1.aQX dH (by omega) .val fun vf2 S2 fF k2 mf2 d2=>?_;have hmo:=mf1.ob
  have k2':∀j o,S1 j=some o->(∀vs m,o≠ .gD vs 51 m)->S2 j=some o:=fun j o e xP=>k2 j o e fun m c=>by
   obtain⟨_,vs,q,e2⟩:=hmo _ _ c;rw [e]at e2;injection e2 with e2;exact xP _ _ e2
  have tp2:=tp1.mI k2';have bp2:=k2' _ _ bp1 (fun vs m c=>by cases c)
  have mr2:ML (del S0 t) S2 vr rs:=mr1.mI (u:= .nil) (t:=0) (fun m c=>by cases c) k2 (fun j m m' c c2=>aGP j m' m c2 c) (fun j vs m c=>by
   obtain⟨_,vs,q,e2⟩:=hmo _ _ c;constructor<;>(rw [e2];intro c;cases c)) (fun j m c=>(hmo j m c).2)
  have aN6:∀j m m',vf2= .acc j m->vr≠ .acc j m':=fun j m m' c c2=>by
   rcases d2 j m c with q | ⟨m2,q⟩
   ·obtain⟨_,vs,n,e⟩:=mr1.ob j m' c2
    rw [q]at e;cases e
   ·exact aGP j m2 m' q c2
  rw [aV,cW bp2 e1,aV,cW bp2 e6,aV,cW bp2 e1];show x.call dU [.ptr t 0,nu 11] S2 _;refine aK7 (n:=n+2) (by omega) hx tp2 (by omega) fun S3 a s3 ah3 b3 tp3 h3=>?_;obtain⟨wt2,aRD,_⟩:=id tp2;have hk3:∀j o,j≠t->S2 j=some o->S3 j=some o:=fun j o hj e=>by rw [b3 j hj];exact e
  have mf3:=mf2.but hk3 aRD (by decide);have mr3:=mr2.but hk3 aRD (by decide);have bp3:=hk3 _ _ btp bp2
  have pK:bP (del S0 t) S3:=fun j o e=>by
   have hj:j≠t:=fun c=>by rw [c,LT]at e;cases e
   exact hk3 j o hj (fF j o e)
  have aTx:a<11:=by
   have:=h3 0;exact QN 1 ah1 s1 a (by rw [this];exact .head _)
  rw [cW bp3 e1,cM,cW bp3 e6,cM];refine Sg (d:=d+tT two+1) (n:=n) (by omega) hx (X:=a) (show a<18446744073709551616 by omega) (by omega) (by omega) tp3 fun S4 s4 ah4 b4 tp4 h4 O4=>?_;obtain⟨wt3,aRE,_⟩:=id tp3;have hk4:∀j o,j≠t->S3 j=some o->S4 j=some o:=fun j o hj e=>by rw [b4 j hj];exact e
  have mf4:=mf3.but hk4 aRE (by decide);have mr4:=mr3.but hk4 aRE (by decide);have bp4:=hk4 _ _ btp bp3
  have HI:bP (del S0 t) S4:=fun j o e=>by
   have hj:j≠t:=fun c=>by rw [c,LT]at e;cases e
   exact hk4 j o hj (pK j o e)
  refine⟨aMt rfl,?_⟩;refine mr4.aQX HI (by omega) .val fun vr5 S5 FK k5 mr5 d5=>?_;have aPL:=mr4.ob
  have k5':∀j o,S4 j=some o->(∀vs m,o≠ .gD vs 51 m)->S5 j=some o:=fun j o e xP=>k5 j o e fun m c=>by
   obtain⟨_,vs,q,e2⟩:=aPL _ _ c;rw [e]at e2;injection e2 with e2;exact xP _ _ e2
  have tp5:=tp4.mI k5';have bp5:=k5' _ _ bp4 (fun vs m c=>by cases c)
  have mf5:ML (del S0 t) S5 vf2 _:=mf4.mI (u:= .nil) (t:=0) (fun m c=>by cases c) k5 (fun j m m' c c2=>aN6 j m m' c c2) (fun j vs m c=>by
   obtain⟨_,vs,q,e2⟩:=aPL _ _ c;constructor<;>(rw [e2];intro c;cases c)) (fun j m c=>(aPL j m c).2)
  have aRF:∀j m m',vf2= .acc j m->vr5≠ .acc j m':=fun j m m' c c2=>by
   rcases d5 j m' c2 with q | ⟨m2,q⟩
   ·obtain⟨_,vs,n,e⟩:=mf4.ob j m c
    rw [q]at e;cases e
   ·exact aN6 j m m2 c q
  have eD:drawn ((tT two+(1+tT two))*(r+1)) ah s=drawn (tT two) ah s++a::(drawn (tT two) ah3 s3++drawn ((tT two+(1+tT two))*r) ah4 s4):=by
   have e:(tT two+(1+tT two))*(r+1)=tT two+(tT two+(tT two+(1+tT two))*r+1):=by rw [Cd];omega
   rw [e,h1,h3,h4]
  obtain⟨c1,c2,c3,c4⟩:=aSR (a:=a) (C:=drawn ((tT two+(1+tT two))*r) ah4 s4) (wJ (tT two) ah s) (wJ (tT two) ah3 s3);have ed:l.drop i=l[i]::l.drop (i+1):=mE hlt;rw [eD]at eF eR;rw [ed]at eF;unfold fsR at eF;unfold rsR at eR;rw [c1,c4]at eF;rw [c2,c3,c4]at eR;rw [bD (by omega)];refine ih (i+1) m S5 vf2 vr5 s4 ah4 _ _ (d+tT two+1+tT two) (by omega) (by omega) (by omega) hDE (by simp [hf]) (by simp [hr]) FK tp5 bp5 mf5 mr5 aRF ?_ ?_
  ·rw [<-eF];simp
  ·rw [<-eR];simp
theorem aML (hM:1000000<M) (hx:Deep PP bI gM M (n+16) x){S0:Hp}{t:Nat}{s:BitVec 64}{ah:List Nat}{va:V}{l:List Nat} (ha:NV (del S0 t) va l) (VI:LS l) (hl:l.length=2){dd:Nat} (hdd:dd<500000) (h:iW S0 t s ah dd)
 (hK:∀S' fs rs,Db S0 S' t->(∃s' PQ,iW S' t s' PQ (dd+(2*tT two+1)*l.length))->fs=fsR (tT two) l (drawn ((tT two+(1+tT two))*l.length) ah s)->rs=rsR (tT two) l.length (drawn ((tT two+(1+tT two))*l.length) ah s)->∀O1 O2z,K (.tuple [.list O1 (shD fs rs (tN two)) (tN two),.list O2z (dO (dY fs rs)) (dY fs rs).length,ni 0]) S'):x.call zA [.agg (pv two),va,.ptr t 0] S0 K:=by
 refine hx.call rfl fun y hy=>?_;rw [aAN];unfold Ha gP gL gK gQ;refine bX kC fun bp Qu=>?_;have rp:aJ S0 bp (.row (pv two) 29) bp=some (.row (pv two) 29):=aB;have dH:bP S0 (aJ S0 bp (.row (pv two) 29)):= .aI Qu;have hbt:bp≠t:=by obtain⟨w,q,_⟩:=h;exact gF Qu q
 have aRG:∀{K:KV},bJ 12 (.ptr bp 0) (aJ S0 bp (.row (pv two) 29)) K=K (.agg (pv two)) (aJ S0 bp (.row (pv two) 29)):=fun {K}=>by
  rw [qB rp,dG (by rw [BZ];omega),xS,mF (by rw [BZ];omega)]
 rw [aRG];refine aFK hy ?_;simp only [aF,lR,eQ,aM,ha.len,aRG];refine Wp (n:=n+14) hy ?_;rw [tZ,bF hl,dS];simp only [eQ];rw [bC,hy.most];have tp1:iW (aJ S0 bp (.row (pv two) 29)) t s ah dd:=h.mI fun j o e _=>dH j o e;have ha1:∀c∈drawn ((tT two+(1+tT two))*l.length) ah s,c<11:=QN _ _ _;have hT:tT two<=2:=by cases two<;>decide
 have hd0:dd+(2*tT two+1)*l.length<900000:=by rw [hl];omega
 refine aK8 (n:=n+11) (two:=two) (S0:=S0) (t:=t) (bp:=bp) (v29:= .nil) (FS:=fsR (tT two) l (drawn ((tT two+(1+tT two))*l.length) ah s)) (RS:=rsR (tT two) l.length (drawn ((tT two+(1+tT two))*l.length) ah s)) hM hy ha VI (by omega) (DE:=dd+(2*tT two+1)*l.length) ?_ l.length 0 M _ .nil .nil s ah [] [] dd (by omega) (by omega) rfl hd0 rfl rfl ((aAg).trans dH) tp1 rp .nil .nil (fun j m m' c=>by cases c) (by simp) (by simp);intro S vf vr hle htE hb mf mr;obtain⟨s8,ah8,w8,q8,u8⟩:=htE;have hK:=hK (qD S0 S t) _ _ (fun i hi=>AP hi) ⟨s8,ah8,w8,by rw [XT];exact q8,u8⟩ rfl rfl;have f1:=aFG (T:=tT two) l (drawn ((tT two+(1+tT two))*l.length) ah s) (by rw [wJ];exact Ce (by congr 1<;>omega)) ha1;have r1:=aFH (T:=tT two) l.length (drawn ((tT two+(1+tT two))*l.length) ah s) (by rw [wJ];exact Ce (by congr 1<;>omega)) ha1;have f2:=aFE (tT two) l (drawn ((tT two+(1+tT two))*l.length) ah s);have r2:=aFF (tT two) l.length (drawn ((tT two+(1+tT two))*l.length) ah s);generalize fsR (tT two) l (drawn ((tT two+(1+tT two))*l.length) ah s)=fs at hK f1 f2 mf;generalize rsR (tT two) l.length (drawn ((tT two+(1+tT two))*l.length) ah s)=rs at hK r1 r2 mr;have hN:tN two<=7:=by cases two<;>decide
 have e5:(pv two)[5]? =some (ni (tN two)):=rfl;rw [aV,cW hb e5];refine⟨bO _,by omega,by omega,?_⟩;have hz:LR cU=some [.nil]:=rfl;unfold sC;rw [hz];intro o ho
 have e:(List.replicate (tN two) [V.nil]).flatten=List.replicate (tN two) .nil:=by
  generalize tN two=k;induction k with
  | zero=>rfl
  | succ k ih=>rw [IQ,OT,ih,IQ];rfl
 rw [e];show gN y y.most _ _ _ (.own o 0 (tN two) (tN two)) (ni (tN two)) (ni 0) _ K;rw [hy.most];refine aHj (n:=n) (SLz:=S) hM hy mf mr (fun q hq c h=>?_) (fun q hq c h=>?_) (fun q hq=>?_) (fun q hq=>?_) (by omega) (by omega) (fun i h1 h2=>?_) (by omega) hb ho ?_ (tN two) 0 M _ (List.replicate (tN two) .nil) (by omega) (by omega) ⟨.aI ho,aB,by simp,fun j hj=>aX hj (by omega),fun j _ hj=>by rw [List.getElem?_replicate,aK hj]⟩
 ·exact Nat.lt_trans ((f1 q hq).2 c h) (by decide)
 ·exact Nat.lt_trans ((r1 q hq).2 c h) (by decide)
 ·rw [(f1 q hq).1];omega
 ·rw [(r1 q hq).1];omega
 ·rw [(f1 _ (cJ h1)).1,(r1 _ (cJ h2)).1]
 ·intro S2 ws u inv m2
  have hot:o≠t:=gF ho q8;have leT:bP (qD S0 S t) S:=Jc hle;have aAO:bP (qD S0 S t) S2:=leT.trans inv.le;have m3:=m2.base leT
  have hfz:Dx (qD S0 S t) S2 (.own o 0 (tN two) (tN two)) (.list (shD fs rs (tN two)) (tN two)):=by
   refine .own inv.row (leT.none ho) (bO _) (by unfold shD;rw [inv.len];simp) fun j v d a b=>?_;rw [dX]at a;unfold shD at b;rw [dJ]at b;cases hq:(List.range (tN two))[j]? with
   | none=>rw [hq]at b;cases b
   | some k=>
    rw [hq]at b;injection b with b;subst b;obtain⟨hj,hk⟩:=dK.1 hq;rw [List.getElem_range]at hk;subst hk;obtain⟨w,a2,pn⟩:=inv.done j (by simpa using hj);rw [a]at a2;injection a2 with a2;subst a2;exact(pn.base leT).Cy
  refine⟨qD S0 S t,fun O=> .tuple [.list (O 0) (shD fs rs (tN two)) (tN two),.list (O 1) (dO (dY fs rs)) (dY fs rs).length,ni 0],aAO,fun O=> .tup ⟨rfl,fun j v u e1 e2=>?_⟩,fun O=>hK _ _⟩
  match j with
  | 0=>injection e1 with e1;injection e2 with e2;subst e1 e2;exact .ZE hfz
  | 1=>injection e1 with e1;injection e2 with e2;subst e1 e2;exact .ZE m3.Cy
  | 2=>injection e1 with e1;injection e2 with e2;subst e1 e2;exact .mI _
  | j+3=>simp at e1
end
end Go.Am
namespace Go.Am
def fR (x:VE) (m:Nat) (t0 t1 t5 t7 t8 t9:V) (S:Hp) (K:KV):Prop:=dQ PP bI qM x [.r,.r,.r,.r,.l,.r,.d] m [] [t0,t1,t5,t7,t8,t9] S K
def dD (x:VE) (m:Nat) (t7 t8 t83 t84 t85:V) (S:Hp) (K:KV):Prop:=dQ PP bI qM x [.r,.r,.r,.r,.r,.r,.l,.r,.d] m [] [t7,t8,t83,t84,t85] S K
def MB (x:VE) (a0 a1 a2:V) (S:Hp) (K:KV):Prop:=
 iE 45 a2 S fun v0 S=>
 x.call EL [a1] S fun v1 S=>
 gL x false v1 (x.call AO [] S) S fun v3 S=>gP x false v1 (VJ .not v3) S fun v5 S=>gQ x v1 (.bool true) v5 fun v6=>iQ v6 (x.call AO [] S fun v7 S=>bE v7 S K) (x.call HJ [a0] S fun v8 S=>fR x x.most a0 a1 v0 v8 (.func dC [] []) (.int .i64 (.ofNat 0)) S K)
theorem De (x:VE) (a0 a1 a2:V) (S:Hp) (K:KV):jU PP bI qM x [a0,a1,a2] S K=MB x a0 a1 a2 S K:=by kernel_rfl
def pL (x:VE) (m0:Nat) (t0 t1 t5 t7 t8 t9:V) (S:Hp) (K:KV):Prop:=
 cS S fun S=>
 bK t1 fun v0=>
 aH PP .lss 3 t9 v0 fun v1=>
 iQ v1 (nB PP t7 fun v2=>aS 14 v2 fun v3=>bJ 5 v3 S fun v4 S=>cI 9 t1 t9 fun v5=>bJ 9 v5 S fun v6 S=>bJ 9 v5 S fun v7 _=>aW v7 v6 (bJ 5 v3 S fun v8 _=>aW v8 v4 ((cN uF 36 S fun v9 S=>True)/\((cN vR 42 S fun v10 S=>True)/\(x.call cZ [t7,v6] S fun v11 S=>bJ 5 v3 S fun v12 _=>aW v12 v4 (bJ 5 v3 S fun sN _=>aW sN v4 ((cN uF 36 S fun tO S=>True)/\((cN vR 42 S fun zE S=>True)/\(cN uF 36 S fun AM S=>cN vR 42 S fun wF S=>mB 5 AM v4 S fun S=>mB 7 wF v11 S fun S=>nB PP t7 fun yR=>aS 0 yR fun wU=>bJ 12 wU S fun v20 S=>bJ 5 AM S fun v21 S=>bJ 7 wF S fun NF S=>bJ 7 wF S fun EW _=>aW EW NF (bJ 5 AM S fun v24 _=>aW v24 v21 (bJ 12 wU S fun RA _=>aW RA v20 ((cN uF 36 S fun Bi S=>True)/\(x.call CF [v20,v21,NF] S fun ZZ S=>uG 0 ZZ fun v28=>uG 1 ZZ fun v29=>(cN uF 36 S fun v30 S=>True)/\(cN uF 36 S fun v31 S=>mB 5 v31 v28 S fun S=>bJ 5 v31 S fun v32 S=>nB PP t7 fun Nx=>aS 14 Nx fun Vb=>mB 5 Vb v32 S fun S=>aH PP .eql 46 v29 (.int .i64 (.ofNat 0)) fun Hr=>gP x true Hr (aS 0 wF) S fun v37 S=>gL x true Hr (aU v37 S) S fun Lh S=>gP x true Hr (aH PP .eql 5 Lh (.int .u8 (.ofNat 4))) S fun v41 S=>gQ x Hr v41 (.bool false) fun He=>gK x true He t8 S fun v43 S=>gL x true He (bJ 5 AM S) S fun v45 S=>gL x true He (bJ 5 v31 S) S fun Dq S=>gL x true He (lJ x v43 [v45,Dq] S) S fun v49 S=>gP x true He (VJ .not v49) S fun v51 S=>gQ x He v51 (.bool false) fun v52=>iQ v52 (bE (.bool false) S K) (aH PP .add 3 t9 (.int .i64 (.ofNat 1)) fun v53=>fR x m0 t0 t1 t5 t7 t8 v53 S K))))))))))))))) (x.call HJ [t0] S fun v54 S=>cF vR [(0,1,(.int .u8 (.ofNat 1))),(1,1,(.int .i64 (.ofNat 5)))] fun v55=>cF TE [(0,7,v55),(7,1,(.int .u8 (.ofNat 1)))] fun v56=>aP 3 4 EN [(0,1,(.int .i64 (.ofNat 1))),(1,1,(.int .i64 (.ofNat 2))),(2,1,(.int .i64 (.ofNat 3))),(3,1,(.int .i64 (.ofNat 5)))] S fun v57 S=>cF vR [(0,1,(.int .u8 (.ofNat 3))),(5,1,v57)] fun v58=>cF TE [(0,7,v58),(7,1,(.int .u8 (.ofNat 1)))] fun v59=>cF vR [(0,1,(.int .u8 (.ofNat 4)))] fun v60=>aS 8 t5 fun v61=>aU v61 S fun v62 S=>cF TE [(0,7,v60),(7,1,(.int .u8 (.ofNat 1))),(8,1,v62)] fun v63=>aP 45 3 TE [(0,9,v56),(9,9,v59),(18,9,v63)] S fun v64 S=>bK v64 fun v65=>dD x x.most v54 t8 v64 v65 (.int .i64 (.ofNat 0)) S K)
theorem xG (x:VE) (m0:Nat) (t0 t1 t5 t7 t8 t9:V) (S:Hp) (K:KV):fR x (m0+1) t0 t1 t5 t7 t8 t9 S K=pL x m0 t0 t1 t5 t7 t8 t9 S K:=by kernel_rfl
def oA (x:VE) (m0:Nat) (t7 t8 t83 t84 t85:V) (S:Hp) (K:KV):Prop:=
 cS S fun S=>
 aH PP .lss 3 t85 t84 fun v0=>
 iQ v0 (cI 9 t83 t85 fun v1=>bJ 9 v1 S fun v2 S=>cN TE 45 S fun v3 S=>mB 9 v3 v2 S fun S=>nB PP t7 fun v4=>aS 14 v4 fun v5=>bJ 5 v5 S fun v6 S=>cN uF 36 S fun v7 S=>mB 5 v7 v6 S fun S=>nB PP t7 fun v8=>aS 0 v8 fun v9=>bJ 12 v9 S fun v10 S=>bJ 5 v7 S fun v11 S=>bJ 9 v3 S fun v12 S=>bJ 9 v3 S fun sN _=>aW sN v12 (bJ 5 v7 S fun tO _=>aW tO v11 (bJ 12 v9 S fun zE _=>aW zE v10 ((cN uF 36 S fun AM S=>True)/\(x.call cZ [t7,v12] S fun wF S=>bJ 5 v7 S fun yR _=>aW yR v11 (bJ 12 v9 S fun wU _=>aW wU v10 (bJ 5 v7 S fun v20 _=>aW v20 v11 (bJ 12 v9 S fun v21 _=>aW v21 v10 ((cN uF 36 S fun NF S=>True)/\(x.call CF [v10,v11,wF] S fun EW S=>uG 0 EW fun v24=>uG 1 EW fun RA=>(cN uF 36 S fun Bi S=>True)/\(cN uF 36 S fun ZZ S=>mB 5 ZZ v24 S fun S=>aH PP .neq 46 RA (.int .i64 (.ofNat 0)) fun v28=>gK x false v28 t8 S fun v29 S=>gL x false v28 (bJ 5 v7 S) S fun v31 S=>gL x false v28 (bJ 5 ZZ S) S fun Nx S=>gL x false v28 (lJ x v29 [v31,Nx] S) S fun Hr S=>gP x false v28 (VJ .not Hr) S fun v37 S=>gQ x v28 (.bool true) v37 fun Js=>iQ Js (bE (.bool false) S K) (bJ 5 ZZ S fun Lh S=>nB PP t7 fun v40=>aS 14 v40 fun v41=>mB 5 v41 Lh S fun S=>aH PP .add 3 t85 (.int .i64 (.ofNat 1)) fun He=>dD x m0 t7 t8 t83 t84 He S K)))))))))))) (nB PP t7 fun v43=>aS 14 v43 fun v44=>aS 0 v44 fun v45=>aU v45 S fun v46 S=>aH PP .eql 3 v46 (.int .i64 (.ofNat 2)) fun Dq=>gK x true Dq t7 S fun v48 S=>gP x true Dq (nB PP v48) S fun v50 S=>gP x true Dq (aS 0 v50) S fun v52 S=>gL x true Dq (bJ 12 v52 S) S fun v54 S=>gK x true Dq t7 S fun v55 S=>gP x true Dq (nB PP v55) S fun v57 S=>gP x true Dq (aS 14 v57) S fun v59 S=>gP x true Dq (aS 2 v59) S fun v61 S=>gL x true Dq (aU v61 S) S fun v63 S=>gP x true Dq (cI 1 v63 (.int .i64 (.ofNat 0))) S fun v65 S=>gL x true Dq (aU v65 S) S fun v67 S=>gP x true Dq (cI 1 v67 (.int .i64 (.ofNat 0))) S fun v69 S=>gL x true Dq (aU v69 S) S fun v71 S=>gL x true Dq (x.call TN [v54,v71] S) S fun v73 S=>gC x true Dq v67 v65 S (gC x true Dq v63 v61 S (aU v45 S fun v76 _=>aW v76 v46 (gQ x Dq v73 (.bool false) fun v77=>gK x true v77 t7 S fun v78 S=>gP x true v77 (nB PP v78) S fun v80 S=>gP x true v77 (aS 14 v80) S fun v82 S=>gP x true v77 (aS 2 v82) S fun v84 S=>gL x true v77 (aU v84 S) S fun v86 S=>gL x true v77 (x.call PL [v86,.nil] S) S fun v88 S=>gC x true Dq v67 v65 S (gC x true Dq v63 v61 S (aU v45 S fun v91 _=>aW v91 v46 (gP x true v77 (VJ .not v88) S fun v93 S=>gQ x v77 v93 (.bool false) fun v94=>bE v94 S K)))))))
theorem vB (x:VE) (m0:Nat) (t7 t8 t83 t84 t85:V) (S:Hp) (K:KV):dD x (m0+1) t7 t8 t83 t84 t85 S K=oA x m0 t7 t8 t83 t84 t85 S K:=by kernel_rfl
def mR (x:VE) (m:Nat) (t2 t3 t5:V) (S:Hp) (K:KV):Prop:=dQ PP bI dC x [.r,.l,.r,.d] m [] [t2,t3,t5] S K
def IE (x:VE) (a0 a1:V) (S:Hp) (K:KV):Prop:=
 iE 36 a0 S fun v0 S=>
 iE 36 a1 S fun v1 S=>
 mR x x.most v0 v1 (.int .i64 (.ofNat 0)) S K
theorem XZ (x:VE) (a0 a1:V) (S:Hp) (K:KV):jU PP bI dC x [a0,a1] S K=IE x a0 a1 S K:=by kernel_rfl
def qL (x:VE) (m0:Nat) (t2 t3 t5:V) (S:Hp) (K:KV):Prop:=
 cS S fun S=>
 aS 2 t2 fun v0=>
 aU v0 S fun v1 S=>
 bK v1 fun v2=>
 aH PP .lss 3 t5 v2 fun v3=>
 iQ v3 (aS 2 t3 fun v4=>aU v4 S fun v5 S=>bK v5 fun v6=>aS 2 t2 fun v7=>aU v7 S fun v8 S=>bK v8 fun v9=>aH PP .neq 3 v6 v9 fun v10=>gP x false v10 (aS 2 t3) S fun v12 S=>gL x false v10 (aU v12 S) S fun tO S=>gK x false v10 t5 S fun zE S=>gP x false v10 (cI 1 tO zE) S fun wF S=>gL x false v10 (aU wF S) S fun wU S=>gP x false v10 (cI 1 wU (.int .i64 (.ofNat 0))) S fun v21 S=>gL x false v10 (aU v21 S) S fun EW S=>gP x false v10 (aS 2 t2) S fun RA S=>gL x false v10 (aU RA S) S fun ZZ S=>gK x false v10 t5 S fun v28 S=>gP x false v10 (cI 1 ZZ v28) S fun v30 S=>gL x false v10 (aU v30 S) S fun v32 S=>gP x false v10 (cI 1 v32 (.int .i64 (.ofNat 0))) S fun Vb S=>gL x false v10 (aU Vb S) S fun Ss S=>gP x false v10 (aH PP .neq 22 EW Ss) S fun Js S=>gQ x v10 (.bool true) Js fun Lh=>iQ Lh (bE (.bool false) S K) (aH PP .add 3 t5 (.int .i64 (.ofNat 1)) fun v40=>mR x m0 t2 t3 v40 S K)) (bE (.bool true) S K)
theorem yH (x:VE) (m0:Nat) (t2 t3 t5:V) (S:Hp) (K:KV):mR x (m0+1) t2 t3 t5 S K=qL x m0 t2 t3 t5 S K:=by kernel_rfl
def qG (x:VE) (m:Nat) (t0 t3 t4:V) (S:Hp) (K:KV):Prop:=dQ PP bI EL x [.r,.r,.l,.r,.d] m [] [t0,t3,t4] S K
def mQ (x:VE) (m:Nat) (m0:Nat) (t0 t3 t4 t5:V) (S:Hp) (K:KV):Prop:=dQ PP bI EL x [.r,.r,.l,.r,.d,.d,.r,.l,.d,.r,.r,.d] m [m0] [t0,t3,t4,t5] S K
def Gk (x:VE) (a0:V) (S:Hp) (K:KV):Prop:=
 qG x x.most a0 (.int .i64 (.ofNat 0)) (.int .i64 (.ofNat 0)) S K
theorem aAr (x:VE) (a0:V) (S:Hp) (K:KV):jU PP bI EL x [a0] S K=Gk x a0 S K:=by kernel_rfl
def AA (x:VE) (m0:Nat) (t0 t3 t4:V) (S:Hp) (K:KV):Prop:=
 cS S fun S=>
 bK t0 fun v0=>
 aH PP .lss 3 t4 v0 fun v1=>
 gK x true v1 t3 S fun v2 S=>gP x true v1 (aH PP .lss 3 v2 (.int .i64 (.ofNat 3000))) S fun v4 S=>gQ x v1 v4 (.bool false) fun v5=>iQ v5 (aH PP .add 3 t3 (.int .i64 (.ofNat 20)) fun v6=>cI 9 t0 t4 fun v7=>aS 0 v7 fun v8=>aS 3 v8 fun v9=>aU v9 S fun v10 S=>bK v10 fun v11=>aH PP .add 3 v6 v11 fun v12=>cI 9 t0 t4 fun sN=>aS 0 sN fun tO=>aS 5 tO fun zE=>aU zE S fun AM S=>bK AM fun wF=>aH PP .add 3 v12 wF fun yR=>cI 9 t0 t4 fun wU=>aS 0 wU fun v20=>aS 4 v20 fun v21=>aU v21 S fun NF S=>x.call EK [NF] S fun EW S=>aU zE S fun v24 _=>aW v24 AM (aU v9 S fun RA _=>aW RA v10 (aH PP .add 3 yR EW fun Bi=>mQ x x.most m0 t0 Bi t4 (.int .i64 (.ofNat 0)) S K))) (aH PP .geq 3 t3 (.int .i64 (.ofNat 3000)) fun ZZ=>bE ZZ S K)
theorem JN (x:VE) (m0:Nat) (t0 t3 t4:V) (S:Hp) (K:KV):qG x (m0+1) t0 t3 t4 S K=AA x m0 t0 t3 t4 S K:=by kernel_rfl
def qH (x:VE) (m1:Nat) (m0:Nat) (t0 t3 t4 t5:V) (S:Hp) (K:KV):Prop:=
 cS S fun S=>
 cI 9 t0 t4 fun v0=>
 aS 0 v0 fun v1=>
 aS 6 v1 fun v2=>
 aU v2 S fun v3 S=>
 bK v3 fun v4=>
 aH PP .lss 3 t5 v4 fun v5=>
 gK x true v5 t3 S fun v6 S=>gP x true v5 (aH PP .lss 3 v6 (.int .i64 (.ofNat 3000))) S fun v8 S=>gQ x v5 v8 (.bool false) fun v9=>iQ v9 (aH PP .add 3 t3 (.int .i64 (.ofNat 1)) fun v10=>cI 9 t0 t4 fun v11=>aS 0 v11 fun v12=>aS 6 v12 fun sN=>aU sN S fun tO S=>cI 2 tO t5 fun zE=>aS 1 zE fun AM=>aU AM S fun wF S=>x.call EK [wF] S fun yR S=>aH PP .add 3 v10 yR fun wU=>aH PP .add 3 t5 (.int .i64 (.ofNat 1)) fun v20=>mQ x m1 m0 t0 wU t4 v20 S K) (aH PP .add 3 t4 (.int .i64 (.ofNat 1)) fun v21=>qG x m0 t0 t3 v21 S K)
theorem yG (x:VE) (m1:Nat) (m0:Nat) (t0 t3 t4 t5:V) (S:Hp) (K:KV):mQ x (m1+1) m0 t0 t3 t4 t5 S K=qH x m1 m0 t0 t3 t4 t5 S K:=by kernel_rfl
def vP (x:VE) (m:Nat) (t0 t3 t4:V) (S:Hp) (K:KV):Prop:=dQ PP bI EK x [.r,.r,.l,.r,.d] m [] [t0,t3,t4] S K
def Gj (x:VE) (a0:V) (S:Hp) (K:KV):Prop:=
 vP x x.most a0 (.int .i64 (.ofNat 0)) (.int .i64 (.ofNat 0)) S K
theorem aAq (x:VE) (a0:V) (S:Hp) (K:KV):jU PP bI EK x [a0] S K=Gj x a0 S K:=by kernel_rfl
def zZ (x:VE) (m0:Nat) (t0 t3 t4:V) (S:Hp) (K:KV):Prop:=
 cS S fun S=>
 bK t0 fun v0=>
 aH PP .lss 3 t4 v0 fun v1=>
 gK x true v1 t3 S fun v2 S=>gP x true v1 (aH PP .lss 3 v2 (.int .i64 (.ofNat 500))) S fun v4 S=>gQ x v1 v4 (.bool false) fun v5=>iQ v5 (aH PP .add 3 t3 (.int .i64 (.ofNat 1)) fun v6=>cI 1 t0 t4 fun v7=>aU v7 S fun v8 S=>bK v8 fun v9=>aH PP .add 3 v6 v9 fun v10=>aH PP .add 3 t4 (.int .i64 (.ofNat 1)) fun v11=>vP x m0 t0 v10 v11 S K) (bE t3 S K)
theorem JM (x:VE) (m0:Nat) (t0 t3 t4:V) (S:Hp) (K:KV):vP x (m0+1) t0 t3 t4 S K=zZ x m0 t0 t3 t4 S K:=by kernel_rfl
def Ba (x:VE) (a0:V) (S:Hp) (K:KV):Prop:=
 x.call PE [] S fun v0 S=>
 cN aEL 29 S fun v1 S=>
 mB 12 v1 v0 S fun S=>
 bJ 12 v1 S fun v2 S=>
 bJ 12 v1 S fun v3 S=>
 x.call Dd [a0] S fun v4 S=>
 bJ 12 v1 S fun v5 _=>
 aW v5 v3 (bJ 12 v1 S fun v6 _=>aW v6 v2 (x.call OB [v3] S fun v7 S=>bJ 12 v1 S fun v8 _=>aW v8 v2 (cF aJX [(0,12,v2),(12,1,v4),(14,5,v7)] fun v9=>bJ 12 v1 S fun v10 _=>aW v10 v2 ((iE 38 v9 S fun v11 S=>True)/\(iE 38 v9 S fun v12 S=>bE v12 S K)))))
theorem Us (x:VE) (a0:V) (S:Hp) (K:KV):jU PP bI HJ x [a0] S K=Ba x a0 S K:=by kernel_rfl
def kP (x:VE) (t4 t6:V) (S:Hp) (K:KV):Prop:=Wx PP bI cZ x [.r,.r,.l,.r,.d,.r,.l,.r,.r] [] [t4,t6] S K
def fW (x:VE) (m:Nat) (t0 t4 t8 t9 t10:V) (S:Hp) (K:KV):Prop:=dQ PP bI cZ x [.r,.r,.l,.r,.d,.r,.r,.r,.r,.r,.l,.r,.r,.l,.r,.d] m [] [t0,t4,t8,t9,t10] S K
def iZ (x:VE) (m0:Nat) (t0 t4 t8 t9 t10:V) (S:Hp) (K:KV):Prop:=Wx PP bI cZ x [.r,.r,.l,.r,.d,.r,.r,.r,.r,.r,.l,.r,.r,.l,.r,.d,.d,.r,.r] [m0] [t0,t4,t8,t9,t10] S K
def qJ (x:VE) (a0 a1:V) (S:Hp) (K:KV):Prop:=
 iE 45 a1 S fun v0 S=>
 cN vR 42 S fun v1 S=>
 aS 7 v0 fun v2=>
 aU v2 S fun v3 S=>
 aH PP .neq 5 v3 (.int .u8 (.ofNat 1)) fun v4=>
 iQ v4 (aS 0 v0 fun v5=>bJ 7 v5 S fun v6 S=>mB 7 v1 v6 S fun S=>bJ 7 v1 S fun v7 _=>bE v7 S K) (aS 0 v0 fun v8=>aS 0 v8 fun v9=>aU v9 S fun v10 S=>aH PP .eql 5 v10 (.int .u8 (.ofNat 1)) fun v11=>iQ v11 (nB PP a0 fun v12=>aS 0 v12 fun sN=>bJ 12 sN S fun tO S=>aS 0 v0 fun zE=>aS 1 zE fun AM=>aU AM S fun wF S=>LU .u64 wF fun yR=>nB PP a0 fun wU=>aS 0 wU fun v20=>aS 1 v20 fun v21=>aU v21 S fun NF S=>aH PP .rem 22 yR NF fun EW=>nB PP a0 fun v24=>aS 12 v24 fun RA=>aU RA S fun Bi S=>aU RA S fun ZZ _=>aW ZZ Bi (aU v21 S fun v28 _=>aW v28 NF (aU AM S fun v29 _=>aW v29 wF (bJ 12 sN S fun v30 _=>aW v30 tO ((aP 22 2 iK [(0,1,EW),(1,1,(.int .u64 (.ofNat 3)))] S fun v31 S=>True)/\(aP 22 2 iK [(0,1,EW),(1,1,(.int .u64 (.ofNat 3)))] S fun v32 S=>x.call zA [tO,v32,Bi] S fun Nx S=>aU v21 S fun Vb _=>aW Vb NF (aU AM S fun Hr _=>aW Hr wF (uG 0 Nx fun Ss=>uG 1 Nx fun v37=>uG 2 Nx fun Js=>aH PP .eql 46 Js (.int .i64 (.ofNat 0)) fun Lh=>gK x true Lh a0 S fun v40 S=>gP x true Lh (nB PP v40) S fun He S=>gP x true Lh (aS 14 He) S fun v44 S=>gP x true Lh (aS 0 v44) S fun v46 S=>gL x true Lh (aU v46 S) S fun v48 S=>gP x true Lh (aH PP .eql 3 v48 (.int .i64 (.ofNat 0))) S fun v50 S=>gQ x Lh v50 (.bool false) fun v51=>iQ v51 (nB PP a0 fun v52=>aS 13 v52 fun v53=>mB 1 v53 Ss S fun S=>kP x v1 v37 S K) (kP x v1 v37 S K))))))))) (aH PP .eql 5 v10 (.int .u8 (.ofNat 3)) fun v54=>iQ v54 (nB PP a0 fun v55=>aS 14 v55 fun v56=>aS 0 v56 fun v57=>aU v57 S fun v58 S=>aS 0 v0 fun v59=>aS 5 v59 fun v60=>aU v60 S fun v61 S=>cF vR [(0,1,(.int .u8 (.ofNat 3))),(2,1,v58),(5,1,v61)] fun v62=>mB 7 v1 v62 S fun S=>bJ 7 v1 S fun v63 _=>bE v63 S K) (aH PP .eql 5 v10 (.int .u8 (.ofNat 4)) fun v64=>iQ v64 (nB PP a0 fun v65=>aS 14 v65 fun v66=>aS 0 v66 fun v67=>aU v67 S fun v68 S=>cF vR [(0,1,(.int .u8 (.ofNat 4))),(2,1,v68)] fun v69=>cN vR 42 S fun v70 S=>mB 7 v70 v69 S fun S=>aS 8 v0 fun v71=>aU v71 S fun v72 S=>LU .u64 v72 fun v73=>nB PP a0 fun v74=>aS 0 v74 fun v75=>aS 5 v75 fun v76=>aU v76 S fun v77 S=>nB PP a0 fun v78=>aS 0 v78 fun v79=>aS 6 v79 fun v80=>aU v80 S fun v81 S=>aH PP .sub 3 v77 v81 fun v82=>LU .u64 v82 fun v83=>aH PP .rem 75 v73 v83 fun v84=>LU .i64 v84 fun v85=>fW x x.most a0 v1 v70 v85 v85 S K) (aS 0 v0 fun v86=>bJ 7 v86 S fun v87 S=>mB 7 v1 v87 S fun S=>bJ 7 v1 S fun v88 _=>bE v88 S K))))
theorem vQ (x:VE) (a0 a1:V) (S:Hp) (K:KV):jU PP bI cZ x [a0,a1] S K=qJ x a0 a1 S K:=by kernel_rfl
def nZ (x:VE) (t4 t6:V) (S:Hp) (K:KV):Prop:=
 cS S fun S=>
 cF vR [(0,1,(.int .u8 (.ofNat 1))),(4,1,t6)] fun v0=>
 mB 7 t4 v0 S fun S=>
 bJ 7 t4 S fun v1 _=>
 bE v1 S K
theorem GX (x:VE) (t4 t6:V) (S:Hp) (K:KV):Wy PP bI cZ x [.r,.r,.l,.r,.d,.r,.l,.r,.r] [] [t4,t6] S K=nZ x t4 t6 S K:=by kernel_rfl
theorem ID (x:VE) (hm:x.most≠0) (t4 t6:V) (S:Hp) (K:KV):kP x t4 t6 S K=nZ x t4 t6 S K:=(Gu (hm:=hm) ..).trans (GX x t4 t6 S K)
def jR (x:VE) (m0:Nat) (t0 t4 t8 t9 t10:V) (S:Hp) (K:KV):Prop:=
 cS S fun S=>
 nB PP t0 fun v0=>
 aS 0 v0 fun v1=>
 aS 6 v1 fun v2=>
 aU v2 S fun v3 S=>
 aH PP .add 3 t9 v3 fun v4=>
 aH PP .leq 3 t10 v4 fun v5=>
 gK x true v5 t10 S fun v6 S=>gK x true v5 t0 S fun v7 S=>gP x true v5 (nB PP v7) S fun v9 S=>gP x true v5 (aS 13 v9) S fun v11 S=>gL x true v5 (aU v11 S) S fun sN S=>gP x true v5 (bK sN) S fun zE S=>gP x true v5 (aH PP .lss 3 v6 zE) S fun wF S=>gQ x v5 wF (.bool false) fun yR=>iQ yR (nB PP t0 fun wU=>aS 0 wU fun v20=>bJ 12 v20 S fun v21 S=>nB PP t0 fun NF=>aS 13 NF fun EW=>aU EW S fun v24 S=>cI 1 v24 t10 fun RA=>aU RA S fun Bi S=>nB PP t0 fun ZZ=>aS 0 ZZ fun v28=>aS 5 v28 fun v29=>aU v29 S fun v30 S=>nB PP t0 fun v31=>aS 12 v31 fun v32=>aU v32 S fun Nx S=>aU v32 S fun Vb _=>aW Vb Nx (aU v29 S fun Hr _=>aW Hr v30 (aU RA S fun Ss _=>aW Ss Bi (aU EW S fun v37 _=>aW v37 v24 (bJ 12 v20 S fun Js _=>aW Js v21 ((cN MJ 79 S fun Lh S=>True)/\(x.call vC [v21,Bi,v30,Nx] S fun v40 S=>aU EW S fun v41 _=>aW v41 v24 (uG 0 v40 fun He=>uG 1 v40 fun v43=>aU EW S fun v44 _=>aW v44 v24 ((cN MJ 79 S fun v45 S=>True)/\(cN MJ 79 S fun v46 S=>mB 3 v46 He S fun S=>aH PP .eql 46 v43 (.int .i64 (.ofNat 0)) fun Dq=>iQ Dq (aS 6 t8 fun v48=>aU v48 S fun v49 S=>aH PP .add 3 t10 (.int .i64 (.ofNat 1)) fun v50=>nB PP t0 fun v51=>aS 0 v51 fun v52=>bJ 12 v52 S fun v53 S=>aS 0 v46 fun v54=>aU v54 S fun v55 S=>x.call vU [v53,v55,(.int .u64 (.ofNat 0))] S fun v56 S=>aU v48 S fun v57 _=>aW v57 v49 (cF vS [(0,1,v50),(1,1,v56)] fun v58=>aU v48 S fun v59 _=>aW v59 v49 ((aP 68 1 vS [(0,2,v58)] S fun v60 S=>True)/\(aP 68 1 vS [(0,2,v58)] S fun v61 S=>jY 68 2 32 v49 v61 S fun v62 S=>aS 6 t8 fun v63=>mB 1 v63 v62 S fun S=>iZ x m0 t0 t4 t8 t9 t10 S K)))) (iZ x m0 t0 t4 t8 t9 t10 S K))))))))))) (bJ 7 t8 S fun v64 S=>mB 7 t4 v64 S fun S=>bJ 7 t4 S fun v65 _=>bE v65 S K)
theorem pB (x:VE) (m0:Nat) (t0 t4 t8 t9 t10:V) (S:Hp) (K:KV):fW x (m0+1) t0 t4 t8 t9 t10 S K=jR x m0 t0 t4 t8 t9 t10 S K:=by kernel_rfl
def iS (x:VE) (m0:Nat) (t0 t4 t8 t9 t10:V) (S:Hp) (K:KV):Prop:=
 cS S fun S=>
 aH PP .add 3 t10 (.int .i64 (.ofNat 1)) fun v0=>
 fW x m0 t0 t4 t8 t9 v0 S K
theorem wW (x:VE) (m0:Nat) (t0 t4 t8 t9 t10:V) (S:Hp) (K:KV):Wy PP bI cZ x [.r,.r,.l,.r,.d,.r,.r,.r,.r,.r,.l,.r,.r,.l,.r,.d,.d,.r,.r] [m0] [t0,t4,t8,t9,t10] S K=iS x m0 t0 t4 t8 t9 t10 S K:=by kernel_rfl
theorem xM (x:VE) (hm:x.most≠0) (m0:Nat) (t0 t4 t8 t9 t10:V) (S:Hp) (K:KV):iZ x m0 t0 t4 t8 t9 t10 S K=iS x m0 t0 t4 t8 t9 t10 S K:=(Gu (hm:=hm) ..).trans (wW x m0 t0 t4 t8 t9 t10 S K)
def Az (x:VE) (S:Hp) (K:KV):Prop:=
 cN aEL 29 S fun v0 S=>
 cF aEL [(0,1,(.int .u64 (.ofNat 23))),(1,1,(.int .u64 (.ofNat 11))),(2,1,(.int .u64 (.ofNat 4))),(3,1,(.int .u64 (.ofNat 9))),(4,1,(.int .i64 (.ofNat 5))),(5,1,(.int .i64 (.ofNat 4))),(6,1,(.int .i64 (.ofNat 1))),(7,1,(.int .i64 (.ofNat 1))),(8,1,(.int .i64 (.ofNat 1))),(9,1,(.int .i64 (.ofNat 1))),(10,1,(.int .i64 (.ofNat 1))),(11,1,(.int .i64 (.ofNat 1)))] fun v1=>
 mB 12 v0 v1 S fun S=>
 bJ 12 v0 S fun v2 _=>
 bE v2 S K
theorem Ur (x:VE) (S:Hp) (K:KV):jU PP bI PE x [] S K=Az x S K:=by kernel_rfl
end Go.Am
namespace Go.Am
open Go.Proofs.JJ
structure Tu where
 e:En
 of:Nat
 fr:Int
def tuC (t:Tu):List Dt:=[.int .u8 (.ofNat t.e.kind),.int .i64 t.e.id,.int .i64 t.e.ep,.list (lK t.e.x) t.e.x.length,.list (dO t.e.cD) t.e.cD.length,.list (lK t.e.next) t.e.next.length,.list (MZ t.e.eV) t.e.eV.length,.int .u8 (.ofNat t.of),.int .i64 t.fr]
def Gh:List Tu->List Dt
 | []=>[]
 | t::l=>tuC t++Gh l
theorem aAp (t:Tu):(tuC t).length=9:=rfl
theorem aFS (l:List Tu):(Gh l).length=l.length*9:=by induction l with | nil=>rfl | cons a l ih=>unfold Gh;rw [jZ,ih,aAp,oN];omega
theorem aJV{l:List Tu}:∀{i:Nat} {t:Tu},l[i]? =some t->i*9+9<=(Gh l).length/\((Gh l).drop (i*9)).take 9=tuC t:=by
 induction l with
 | nil=>intro i t h;cases h
 | cons a l ih=>
  intro i t h
  match i,h with
  | 0,h=>
   injection h with h;subst h;refine⟨by rw [aFS,oN];omega,?_⟩;unfold Gh;rw [VY,xS];exact List.take_left' (aAp a)
  | i+1,h=>
   obtain⟨h1,h2⟩:=ih (i:=i) h;refine⟨by rw [aFS]at h1 ⊢;rw [oN];omega,?_⟩;unfold Gh;rw [show(i+1)*9=9+i*9 by omega,<-By,List.drop_left' (aAp a)];exact h2
theorem Nn{l:List Tu}{i k:Nat}{t:Tu}{d:Dt} (h:l[i]? =some t) (hk:(tuC t)[k]? =some d):(Gh l)[i*9+k]? =some d:=by
 obtain⟨h1,h2⟩:=aJV h;have hk9:k<9:=(dK.1 hk).1;rw [<-h2,sR,aK hk9,rH]at hk;exact hk
structure Gi (t:Tu):Prop where
 kind:t.e.kind<256
 of:t.of<256
 id: -9223372036854775808<=t.e.id/\t.e.id<9223372036854775808
 fr: -9223372036854775808<=t.fr/\t.fr<9223372036854775808
 x:t.e.x.length<=140737488355328
 next:t.e.next.length<=140737488355328
 cD:Lx t.e.cD
 eV:t.e.eV.length<=140737488355328
 Rb:∀d∈t.e.eV,Lx d.2
def aHn (t:Tu):Prop:=t.e.x.length<3000/\t.e.next.length<3000/\t.e.eV.length<3000
theorem Gi.sz{t:Tu} (h:Gi t) (s:aHn t):Ly t.e:=⟨h.kind,by have:=s.1;omega,h.cD,by have:=s.2.1;omega,by have:=s.2.2;omega,h.Rb⟩
section
variable{M n:Nat}{x:VE}{S:Hp}{K:KV}{two:Bool}
theorem aJW (hM:1000000<M) (hx:Deep PP bI gM M (n+1) x){O:Tag}{ls:List (List Nat)} (h:Lx ls) (hK:∀N,N<=200000000000000->K (ni N) S):x.call EK [.list O (dO ls) ls.length] S K:=by
 refine hx.call rfl fun y hy=>?_;rw [aAq];unfold Gj;rw [hy.most];have hl:=h.1
 have go:∀(r N i m:Nat) (S1:Hp),500<=N+r->r<m->N<=200000000000000->bP S S1->vP y m (.list O (dO ls) ls.length) (ni N) (ni i) S1 K:=by
  intro r;induction r with
  | zero=>
   intro N i m S1 hr hm hN hs;obtain⟨m,rfl⟩:=bG (show m≠0 by omega);rw [JM];unfold zZ gP gK gQ;refine uE S hs ?_;rw [eU,aO];by_cases c:i<ls.length
   ·rw [bF c,aF,aM];try dsimp only
    rw [aF,aM];try dsimp only
    show aH PP .lss 3 (ni N) (ni 500) _;rw [aO,jO (by omega)];try dsimp only
    rw [aF,dW,bC];exact aL (hK N hN)
   ·rw [bN c,aF,kD];try dsimp only
    rw [aF,kD];try dsimp only
    rw [aF,dS,bC];exact aL (hK N hN)
  | succ r ih=>
   intro N i m S1 hr hm hN hs;obtain⟨m,rfl⟩:=bG (show m≠0 by omega);rw [JM];unfold zZ gP gK gQ;refine uE S hs ?_;rw [eU,aO];by_cases c:i<ls.length
   ·rw [bF c,aF,aM];try dsimp only
    rw [aF,aM];try dsimp only
    show aH PP .lss 3 (ni N) (ni 500) _;rw [aO];try dsimp only
    rw [aF,dW];by_cases c2:N<500
    ·have RM:(dO ls)[i*1]? =some (.list (iV ls[i]) ls[i].length):=by rw [jQ];unfold dO;rw [dJ,aQ c];rfl
     have hc:=(h.2 _ (cJ c)).2;rw [bF c2,bR,bD (by omega),gW c,tX,cP RM];show bK (.list (.sub O (i*1)) (iV ls[i]) ls[i].length) _;rw [eU,bD (by omega),bD (by omega)];exact ih _ (i+1) m S (by omega) (by omega) (by omega) (.refl _)
    ·rw [bN c2,bC]
     exact aL (hK N hN)
   ·rw [bN c,aF,kD];try dsimp only
    rw [aF,kD];try dsimp only
    rw [aF,dS,bC];exact aL (hK N hN)
 exact go 500 0 0 M S (by omega) (by omega) (by omega) (.refl _)
theorem aPi{l:List (Int×List (List Nat))}:∀{i:Nat} {a:Int×List (List Nat)},l[i]? =some a->(MZ l)[i*2+1]? =some (.list (dO a.2) a.2.length):=by
 induction l with
 | nil=>intro i a h;cases h
 | cons b l ih=>
  intro i a h
  match i,h with
  | 0,h=>injection h with h;subst h;rfl
  | i+1,h=>
   rw [show(i+1)*2+1=i*2+1+2 by omega];exact ih (i:=i) h
theorem aPj (hM:1000000<M) (hx:Deep PP bI gM M (n+2) x){O:Tag}{ts:List Tu} (hr:∀t∈ts,Gi t) (hl:ts.length<=140737488355328) (hK:∀b,(b=false->(∀t∈ts,aHn t)/\ts.length<=150)->K (.bool b) S):x.call EL [.list O (Gh ts) ts.length] S K:=by
 refine hx.call rfl fun y hy=>?_;rw [aAr];unfold Gk;rw [hy.most]
 have fin:∀(N i:Nat) (S1:Hp),bP S S1->N<=4000000000000000->20*i<=N->(N<3000->∀j t,j<i->ts[j]? =some t->aHn t)->(ts.length<=i\/3000<=N)->aH PP .geq 3 (ni N) (.int .i64 (.ofNat 3000)) fun ZZ=>bE ZZ S1 K:=by
  intro N i S1 hs hN h20 Ws hex;show aH PP .geq 3 (ni N) (ni 3000) _;rw [zW];refine bL hs (hK _ fun hb=>?_);have hb:¬3000<=N:=of_decide_eq_false hb;rcases hex with hex | hex
  ·refine⟨fun t ht=>?_,by omega⟩
   obtain⟨j,hj,rfl⟩:=Bv ht;exact Ws (by omega) j _ (by omega) (aQ hj)
  ·exact aX hex hb
 have go:∀(r N i m:Nat) (S1:Hp),150<=i+r->r<m->N<=4000000000000000->20*i<=N->(N<3000->∀j t,j<i->ts[j]? =some t->aHn t)->i<=ts.length->bP S S1->qG y m (.list O (Gh ts) ts.length) (ni N) (ni i) S1 K:=by
  intro r;induction r with
  | zero=>
   intro N i m S1 hr1 hm hN h20 Ws hil hs;obtain⟨m,rfl⟩:=bG (show m≠0 by omega);rw [JN];unfold AA gP gK gQ;refine aE ?_;rw [eU,aO];by_cases c:i<ts.length
   ·rw [bF c,aF,aM];try dsimp only
    rw [aF,aM];try dsimp only
    show aH PP .lss 3 (ni N) (ni 3000) _;rw [aO,jO (by omega)];try dsimp only
    rw [aF,dW,bC];exact fin N i S1 hs hN h20 Ws (.inr (by omega))
   ·rw [bN c,aF,kD];try dsimp only
    rw [aF,kD];try dsimp only
    rw [aF,dS,bC];exact fin N i S1 hs hN h20 Ws (.inl (by omega))
  | succ r ih=>
   intro N i m S1 hr1 hm hN h20 Ws hil hs;obtain⟨m,rfl⟩:=bG (show m≠0 by omega);rw [JN];unfold AA gP gK gQ;refine aE ?_;rw [eU,aO];by_cases c:i<ts.length
   ·rw [bF c,aF,aM];try dsimp only
    rw [aF,aM];try dsimp only
    show aH PP .lss 3 (ni N) (ni 3000) _;rw [aO];try dsimp only
    rw [aF,dW];by_cases c2:N<3000
    ·have ht:ts[i]? =some ts[i]:=aQ c
     have Rc:=hr _ (cJ c);generalize ts[i]=t at ht Rc;have h3:(Gh ts)[i*9+0+3]? =some (.list (lK t.e.x) t.e.x.length):=Nn ht rfl;have h5:(Gh ts)[i*9+0+5]? =some (.list (lK t.e.next) t.e.next.length):=Nn ht rfl;have h4:(Gh ts)[i*9+0+4]? =some (.list (dO t.e.cD) t.e.cD.length):=Nn ht rfl;have h6:(Gh ts)[i*9+0+6]? =some (.list (MZ t.e.eV) t.e.eV.length):=Nn ht rfl;have lx:=Rc.x;have ln:=Rc.next;have ld:=Rc.eV;have sm:∀{t:Tag} {cs:List Dt} {n:Nat} {p:Prop},aW (.list t cs n) (.list t cs n) p=p:=fun {t cs n p}=>cK rfl;have e3:∀{S:Hp} {K:KV},aU (.nU O (Gh ts) (i*9+0+3)) S K=K (.list (.sub O (i*9+0+3)) (lK t.e.x) t.e.x.length) S:=fun {S K}=>by rw [tX,cP h3];rfl
     have e5:∀{S:Hp} {K:KV},aU (.nU O (Gh ts) (i*9+0+5)) S K=K (.list (.sub O (i*9+0+5)) (lK t.e.next) t.e.next.length) S:=fun {S K}=>by rw [tX,cP h5];rfl
     have e4:∀{S:Hp} {K:KV},aU (.nU O (Gh ts) (i*9+0+4)) S K=K (.list (.sub O (i*9+0+4)) (dO t.e.cD) t.e.cD.length) S:=fun {S K}=>by rw [tX,cP h4];rfl
     have e6:∀{S:Hp} {K:KV},aU (.nU O (Gh ts) (i*9+0+6)) S K=K (.list (.sub O (i*9+0+6)) (MZ t.e.eV) t.e.eV.length) S:=fun {S K}=>by rw [tX,cP h6];rfl
     rw [bF c2,bR,bD (by omega),gW c,GQ,GQ,e3,eU,bD (by omega),gW c,GQ,GQ,e5,eU,bD (by omega),gW c,GQ,GQ,e4];refine aJW hM hy Rc.cD fun N1 hN1=>?_;rw [e5,sm,e3,sm,bD (by omega),hy.most]
     have inner:∀(q N2 k m2:Nat) (S2:Hp),3000<=N2+q->q<m2->N2<=4000000000000000->20*(i+1)<=N2->t.e.x.length<=N2->t.e.next.length<=N2->k<=N2->k<=t.e.eV.length->(N2<3000->∀j t,j<i->ts[j]? =some t->aHn t)->bP S S2->mQ y m2 m (.list O (Gh ts) ts.length) (ni N2) (ni i) (ni k) S2 K:=by
      intro q;induction q with
      | zero=>
       intro N2 k m2 S2 hq ZD hN2 aMI hx2 hn2 vZ hkd aPk uR;obtain⟨m2,rfl⟩:=bG (show m2≠0 by omega);rw [yG];unfold qH gP gK gQ;refine aE ?_;have go2:qG y m (.list O (Gh ts) ts.length) (ni N2) (ni (i+1)) S2 K:=ih N2 (i+1) m S2 (by omega) (by omega) hN2 aMI (fun h=>by omega) (by omega) uR;rw [gW c,GQ,GQ,e6,eU,aO];by_cases d:k<t.e.eV.length
       ·rw [bF d,aF,aM];try dsimp only
        rw [aF,aM];try dsimp only
        show aH PP .lss 3 (ni N2) (ni 3000) _;rw [aO,jO (by omega)];try dsimp only
        rw [aF,dW,bC,bD (by omega)];exact go2
       ·rw [bN d,aF,kD];try dsimp only
        rw [aF,kD];try dsimp only
        rw [aF,dS,bC,bD (by omega)];exact go2
      | succ q ih2=>
       intro N2 k m2 S2 hq ZD hN2 aMI hx2 hn2 vZ hkd aPk uR;obtain⟨m2,rfl⟩:=bG (show m2≠0 by omega);rw [yG];unfold qH gP gK gQ;refine aE ?_;rw [gW c,GQ,GQ,e6,eU,aO];by_cases d:k<t.e.eV.length
       ·rw [bF d,aF,aM];try dsimp only
        rw [aF,aM];try dsimp only
        show aH PP .lss 3 (ni N2) (ni 3000) _;rw [aO];try dsimp only
        rw [aF,dW];by_cases d2:N2<3000
        ·have hdk:=aPi (aQ d)
         have hdl:=Rc.Rb _ (cJ d);rw [bF d2,bR,bD (by omega),gW c,GQ,GQ,e6,gW d,GQ,tX,cP hdk];refine aJW hM hy hdl fun N3 hN3=>?_;rw [bD (by omega),bD (by omega)];exact ih2 _ (k+1) m2 S2 (by omega) (by omega) (by omega) (by omega) (by omega) (by omega) (by omega) (by omega) (fun h=>aPk (by omega)) uR
        ·rw [bN d2,bC,bD (by omega)]
         exact ih N2 (i+1) m S2 (by omega) (by omega) hN2 aMI (fun h=>aX h d2) (by omega) uR
       ·rw [bN d,aF,kD];try dsimp only
        rw [aF,kD];try dsimp only
        rw [aF,dS,bC,bD (by omega)];refine ih N2 (i+1) m S2 (by omega) (by omega) hN2 aMI (fun h j t' hj ht'=>?_) (by omega) uR;rcases BO j i with hji | hji
        ·exact aPk h j t' hji ht'
        ·obtain rfl:j=i:=by omega
         rw [ht]at ht';injection ht' with ht';subst ht';exact⟨by omega,by omega,by omega⟩
     exact inner 3000 _ 0 M S1 (by omega) (by omega) (by omega) (by omega) (by omega) (by omega) (by omega) (by omega) (fun h=>Ws (by omega)) hs
    ·rw [bN c2,bC]
     exact fin N i S1 hs hN h20 Ws (.inr (by omega))
   ·rw [bN c,aF,kD];try dsimp only
    rw [aF,kD];try dsimp only
    rw [aF,dS,bC];exact fin N i S1 hs hN h20 Ws (.inl (by omega))
 exact go 150 0 0 M S (by omega) (by omega) (by omega) (by omega) (fun _ j t h=>aX h (by omega)) (by omega) (.refl _)
end
end Go.Am
namespace Go.Am
open Go.RowKit Go.MapKept Go.Proofs
section
variable{S:St}{C:Nat->Prop}
theorem aHK{α:Type}{f:α->List Dt}{w:Nat} (hf:∀a,(f a).length=w) (l:List α):(l.flatMap f).length=l.length*w:=by
 induction l with
 | nil=>simp
 | cons a l ih=>rw [Og,jZ,ih,hf,oN,Cc];omega
theorem aHL{α:Type}{f:α->List Dt}{w:Nat} (hf:∀a,(f a).length=w):∀(l:List α) (j:Nat) (d:Dt),(l.flatMap f)[j]? =some d->0<w->∃k i a,j=k*w+i/\i<w/\l[k]? =some a/\(f a)[i]? =some d:=by
 intro l;induction l with
 | nil=>intro j d h;simp at h
 | cons a l ih=>
  intro j d h hw;rw [Og]at h;by_cases c:j<w
  ·rw [gV (by rw [hf];exact c)]at h
   exact⟨0,j,a,by omega,c,rfl,h⟩
  ·rw [kQ (by rw [hf];omega),hf]at h
   obtain⟨k,i,a',h1,h2,h3,h4⟩:=ih _ _ h hw;exact⟨k+1,i,a',by rw [Cc];omega,h2,h3,h4⟩
theorem Sf{its:List It}{v:Value}{d:D} (h:Rd S C (.list its) v d){α:Type} (f:α->List Dt) (g:α->Prop) (hp:0<its.length) (hlen:∀a,(f a).length=its.length)
 (hf:∀(vs:List Value) (ds:List D),RdA S C its vs ds->∃a,(∀(j:Nat) (d:Dt) (v:Value),(f a)[j]? =some d->vs[j]? =some v->ZI S C d v)/\g a):
 ∃l:List α,ZI S C (.list (l.flatMap f) l.length) v/\(∀a∈l,g a)/\l.length<=140737488355328/\l.length*aDB its<=140737488355328:=by
 cases h with
 | empty=>exact⟨[],.nil,(fun a h=>by cases h),BP _,by simp⟩
 | Zi=>exact⟨[],.emp,(fun a h=>by cases h),BP _,by simp⟩
 | @row _ b o n c sp vs e ck es AW hb hC ho hw hn hl hd hN hnc hr=>
  have each:∀k:Nat,k<n->∃a:α,(∀(j:Nat) (d:Dt) (v:Value),(f a)[j]? =some d->vs[o+k*its.length+j]? =some v->ZI S C d v)/\g a:=by
   intro k hk;have Za:k<es.length:=by omega
   have hds:=hd es[k] (cJ Za)
   have hle:k*its.length+its.length<=n*its.length:=by
    have:(k+1)*its.length<=n*its.length:=RP _ hk
    rwa [KU,Nat.one_mul]at this
   obtain⟨a,h1,h2⟩:=hf ((vs.drop (o+k*its.length)).take its.length) es[k] ⟨by rw [mG,BL];omega,hds,fun j it v d a1 a2 a3=>by
    rw [sR]at a2;split at a2
    ·rw [rH]at a2
     exact hr k es[k] j it v d (aQ Za) a1 a2 a3
    ·cases a2⟩
   refine⟨a,fun j d v e1 e2=>h1 j d v e1 ?_,h2⟩;have:j<its.length:=by rw [<-hlen a];exact(dK.1 e1).1
   rw [sR,aK this,rH];exact e2
  rcases OS n with h0 | h0
  ·subst h0
   exact⟨[],.row AW hb hC ho (by simp;omega) hnc (fun j d v e=>by simp at e),(fun a h=>by cases h),BP _,by simp⟩
  ·obtain⟨a0,_⟩:=each 0 h0
   let F:Nat->α:=fun k=>if h:k<n then(each k h).choose else a0
   have hF:∀k,k<n->(∀(j:Nat) (d:Dt) (v:Value),(f (F k))[j]? =some d->vs[o+k*its.length+j]? =some v->ZI S C d v)/\g (F k):=fun k h=>by
    show(∀(j:Nat) (d:Dt) (v:Value),(f (if h:k<n then(each k h).choose else a0))[j]? =some d->vs[o+k*its.length+j]? =some v->ZI S C d v)/\g (if h:k<n then(each k h).choose else a0);rw [dif_pos h];exact(each k h).choose_spec
   refine⟨(List.range n).map F,?_,fun a ha=>?_,by simpa using hN.1,by simpa using hN.2⟩
   ·have:ZI S C (.list (((List.range n).map F).flatMap f) n) (.slice (some ⟨b,o,sp⟩) n c):=by
     refine .row AW hb hC ho (by rw [aHK hlen];simpa using hl) hnc fun j d v e1 e2=>?_;obtain⟨k,i,a,q1,q2,q3,q4⟩:=aHL hlen _ _ _ e1 hp;rw [dJ]at q3;cases hj:(List.range n)[k]? with
     | none=>rw [hj]at q3;cases q3
     | some q=>
      rw [hj]at q3;injection q3 with q3;have hjn:k<n:=by have:=(dK.1 hj).1;simpa using this
      rw [VW hjn]at hj;injection hj with hj;subst hj q3 q1;exact(hF k hjn).1 i d v q4 (by rw [vG];exact e2)
    simpa using this
   ·obtain⟨k,hk,rfl⟩:=kS.1 ha
    exact(hF k (by simpa using hk)).2
theorem aKZ{α:Type} (f:α->Dt) (l:List α):l.flatMap (fun a=>[f a])=l.map f:=by
 induction l with
 | nil=>rfl
 | cons a l ih=>rw [Og,ih];rfl
theorem RdA.at{its:List It}{vs:List Value}{ds:List D} (h:RdA S C its vs ds){j:Nat}{it:It}{v:Value} (h1:its[j]? =some it) (h2:vs[j]? =some v):∃d,Rd S C it v d:=by
 have:j<ds.length:=by rw [h.Zh];exact(dK.1 h1).1
 exact⟨_,h.rd j it v _ h1 h2 (aQ this)⟩
theorem RdA.ex{its:List It}{vs:List Value}{ds:List D} (h:RdA S C its vs ds){j:Nat}{it:It} (h1:its[j]? =some it):∃v d,vs[j]? =some v/\Rd S C it v d:=by
 have:j<vs.length:=by rw [h.len];exact(dK.1 h1).1
 obtain⟨d,hd⟩:=h.at h1 (aQ this);exact⟨_,d,aQ this,hd⟩
theorem aK0{it:It}{v:Value}{d:D} (h:Rd S C (.list [it]) v d){α:Type} (f:α->Dt) (g:α->Prop) (hf:∀(v:Value) (d:D),Rd S C it v d->∃a,ZI S C (f a) v/\g a):∃l:List α,ZI S C (.list (l.map f) l.length) v/\(∀a∈l,g a)/\l.length<=140737488355328/\l.length*wIt it<=140737488355328:=by
 obtain⟨l,h1,h2,h3,h4⟩:=Sf h (fun a=>[f a]) g (Nat.zero_lt_one) (fun _=>rfl) (fun vs ds hr=>by
  obtain⟨u,d,q1,q2⟩:=hr.ex (j:=0) rfl;obtain⟨a,q3,q4⟩:=hf u d q2;refine⟨a,fun j d v e1 e2=>?_,q4⟩
  match j,e1 with
  | 0,e1=>injection e1 with e1;rw [q1]at e2;injection e2 with e2;subst e1 e2;exact q3)
 rw [aKZ]at h1;exact⟨l,h1,h2,h3,by simpa [aDB]using h4⟩
theorem aGg{v:Value}{d:D} (h:Rd S C (.list [.int]) v d):∃l:List Int,ZI S C (.list (lK l) l.length) v/\l.length<=140737488355328:=by
 obtain⟨l,h1,_,h3,_⟩:=aK0 h (fun z:Int=>Dt.int .i64 z) (fun _=>True) fun v d q=>by cases q with | @int z h h2=>exact⟨z,.int,trivial⟩
 exact⟨l,h1,h3⟩
theorem aM5{v:Value}{d:D} (h:Rd S C .Ip v d):∃l:List Nat,ZI S C (.list (iV l) l.length) v/\LS l/\l.length*8<=140737488355328:=by
 cases h with
 | Ip h=>
  obtain⟨l,h1,h2,_,h4⟩:=aK0 h (fun z:Nat=>Dt.int .u64 (.ofNat z)) FC fun v d q=>by cases q with | @num z h=>exact⟨z,.int,h⟩
  exact⟨l,h1,h2,h4⟩
theorem aN5{v:Value}{d:D} (h:Rd S C (.list [.Ip]) v d):∃l:List (List Nat),ZI S C (.list (dO l) l.length) v/\Lx l:=by
 obtain⟨l,h1,h2,_,h4⟩:=aK0 h (fun l:List Nat=>Dt.list (iV l) l.length) (fun c=>LS c/\c.length*8<=140737488355328) fun v d q=>aM5 q;exact⟨l,h1,h4,h2⟩
def dlC (a:Int×List (List Nat)):List Dt:=[.int .i64 a.1,.list (dO a.2) a.2.length]
theorem aK1 (l:List (Int×List (List Nat))):l.flatMap dlC=MZ l:=by
 induction l with
 | nil=>rfl
 | cons a l ih=>rw [Og,ih];rfl
theorem aK2 (l:List Tu):l.flatMap tuC=Gh l:=by
 induction l with
 | nil=>rfl
 | cons a l ih=>rw [Og,ih];rfl
theorem aK3{v:Value}{d:D} (h:Rd S C (.list [.int,.list [.Ip]]) v d):∃l:List (Int×List (List Nat)),ZI S C (.list (MZ l) l.length) v/\l.length<=140737488355328/\∀a∈l,Lx a.2:=by
 obtain⟨l,h1,h2,h3,_⟩:=Sf h dlC (fun a=>Lx a.2) (by decide) (fun _=>rfl) (fun vs ds hr=>by
  obtain⟨u,d,q1,q2⟩:=hr.ex (j:=0) rfl;obtain⟨u1,d1,p1,p2⟩:=hr.ex (j:=1) rfl;obtain⟨l,p3,p4⟩:=aN5 p2;cases q2 with
  | @int z g1 g2=>
   refine⟨(z,l),fun j d v e1 e2=>?_,p4⟩
   match j,e1 with
   | 0,e1=>injection e1 with e1;rw [q1]at e2;injection e2 with e2;subst e1 e2;exact .int
   | 1,e1=>injection e1 with e1;rw [p1]at e2;injection e2 with e2;subst e1 e2;exact p3)
 rw [aK1]at h1;exact⟨l,h1,h3,h2⟩
def aHM:List It:=[.kind,.int,.int,.list [.int],.list [.Ip],.list [.int],.list [.int,.list [.Ip]],.kind,.int]
theorem aGh{vs:List Value}{ds:List D} (hr:RdA S C aHM vs ds):∃t:Tu,(∀(j:Nat) (d:Dt) (v:Value),(tuC t)[j]? =some d->vs[j]? =some v->ZI S C d v)/\Gi t:=by
 obtain⟨u0,d0,a0,b0⟩:=hr.ex (j:=0) rfl;obtain⟨u1,d1,a1,b1⟩:=hr.ex (j:=1) rfl;obtain⟨u2,d2,a2,b2⟩:=hr.ex (j:=2) rfl;obtain⟨u3,d3,a3,b3⟩:=hr.ex (j:=3) rfl;obtain⟨u4,d4,a4,b4⟩:=hr.ex (j:=4) rfl;obtain⟨u5,d5,a5,b5⟩:=hr.ex (j:=5) rfl;obtain⟨u6,d6,a6,b6⟩:=hr.ex (j:=6) rfl;obtain⟨u7,d7,a7,b7⟩:=hr.ex (j:=7) rfl;obtain⟨u8,d8,a8,b8⟩:=hr.ex (j:=8) rfl;obtain⟨kind,rfl,_,hk⟩:=b0.aBN;obtain⟨id,rfl,_,JI,Ui⟩:=b1.Zj;obtain⟨ep,rfl,_,_⟩:=b2.Zj;obtain⟨x,g3,l3⟩:=aGg b3;obtain⟨cD,g4,l4⟩:=aN5 b4;obtain⟨next,g5,l5⟩:=aGg b5;obtain⟨eV,g6,l6,l6'⟩:=aK3 b6;obtain⟨of,rfl,_,ho⟩:=b7.aBN;obtain⟨fr,rfl,_,hf1,hf2⟩:=b8.Zj;refine⟨⟨⟨kind,id,ep,x,cD,next,eV⟩,of,fr⟩,fun j d v e1 e2=>?_,⟨hk,ho,⟨JI,Ui⟩,⟨hf1,hf2⟩,l3,l5,l4,l6,l6'⟩⟩
 match j,e1 with
 | 0,e1=>injection e1 with e1;rw [a0]at e2;injection e2 with e2;subst e1 e2;exact .int
 | 1,e1=>injection e1 with e1;rw [a1]at e2;injection e2 with e2;subst e1 e2;exact .int
 | 2,e1=>injection e1 with e1;rw [a2]at e2;injection e2 with e2;subst e1 e2;exact .int
 | 3,e1=>injection e1 with e1;rw [a3]at e2;injection e2 with e2;subst e1 e2;exact g3
 | 4,e1=>injection e1 with e1;rw [a4]at e2;injection e2 with e2;subst e1 e2;exact g4
 | 5,e1=>injection e1 with e1;rw [a5]at e2;injection e2 with e2;subst e1 e2;exact g5
 | 6,e1=>injection e1 with e1;rw [a6]at e2;injection e2 with e2;subst e1 e2;exact g6
 | 7,e1=>injection e1 with e1;rw [a7]at e2;injection e2 with e2;subst e1 e2;exact .int
 | 8,e1=>injection e1 with e1;rw [a8]at e2;injection e2 with e2;subst e1 e2;exact .int
theorem aK4{v:Value}{d:D} (h:Rd S C (.list aHM) v d):∃ts:List Tu,ZI S C (.list (Gh ts) ts.length) v/\(∀t∈ts,Gi t)/\ts.length<=140737488355328:=by
 obtain⟨l,h1,h2,h3,_⟩:=Sf h tuC Gi (by decide) (fun _=>rfl) (fun vs ds hr=>aGh hr);rw [aK2]at h1;exact⟨l,h1,h2,h3⟩
end
end Go.Am
namespace Go.Am
end Go.Am
namespace Go.Am
open Go.Proofs.JJ Go.Mq
def Gl:PD:=⟨0,[1,2,3,4],[],[],[]⟩
def PR (two:Bool) (t:Nat) (sh:V) (O:Nat->Tag) (s:PD):List V:=pv two++(.ptr t 0::sh::gR O s)
section
variable{M n:Nat}{x:VE}{S:Hp}{K:KV}{two:Bool}
theorem aMJ (hx:Deep PP bI gM M (n+1) x) (hK:K (.agg (pv true)) S):x.call PE [] S K:=by
 refine hx.call rfl fun y hy=>?_;rw [Ur];unfold Az;refine cB rfl fun b hb=>?_;unfold cF sC;show iN _ [nu 0,nu 0,nu 0,nu 0,ni 0,ni 0,ni 0,ni 0,ni 0,ni 0,ni 0,ni 0] _
 iterate 12 (refine⟨rfl,cG rfl,?_⟩)
 show(mB 12 (.ptr b 0) (.agg (pv true)) (aJ S b (.row [nu 0,nu 0,nu 0,nu 0,ni 0,ni 0,ni 0,ni 0,ni 0,ni 0,ni 0,ni 0] 29)) fun S=>bJ 12 (.ptr b 0) S fun v2 _=>bE v2 S K);refine gO (n:=12) (i:=b) aB kC rfl rfl ?_;refine dZ (n:=12) (i:=b) aB rfl ?_;exact bL (fun j o q=>by rw [eS,aC (fun c=>by rw [c,hb]at q;cases q)];exact q) hK
theorem aPl (hM:1000000<M) (hx:Deep PP bI gM M (n+2) x) (hK:∀O,K (.agg (gR O Gl)) S):x.call OB [.agg (pv two)] S K:=by
 refine hx.call rfl fun y hy=>?_;rw [aCe];unfold Kz;refine bX kC fun p hp=>?_;have dH:bP S (aJ S p (.row (pv two) 29)):= .aI hp;have rp:aJ S p (.row (pv two) 29) p=some (.row (pv two) 29):=aB;generalize aJ S p (.row (pv two) 29)=S1 at dH rp;refine cB (l:=[ni 0,.nil,.nil,.nil,.nil]) rfl fun r hr=>?_;have fF:bP S1 (aJ S1 r (.row [ni 0,.nil,.nil,.nil,.nil] 36)):= .aI hr;have rr:aJ S1 r (.row [ni 0,.nil,.nil,.nil,.nil] 36) r=some (.row [ni 0,.nil,.nil,.nil,.nil] 36):=aB;have FG:S r=none:=dH.none hr;generalize aJ S1 r (.row [ni 0,.nil,.nil,.nil,.nil] 36)=S2 at fF rr;rw [lT (fF _ _ rp)];refine aFK (two:=two) hy ?_;rw [lR,eQ,bC];refine cB (l:=[ni 0,.nil,.nil,.nil,.nil]) rfl fun q hq=>?_;have pK:bP S2 (aJ S2 q (.row [ni 0,.nil,.nil,.nil,.nil] 36)):= .aI hq;have rq:aJ S2 q (.row [ni 0,.nil,.nil,.nil,.nil] 36) q=some (.row [ni 0,.nil,.nil,.nil,.nil] 36):=aB;have hq0:S q=none:=dH.none (fF.none hq);have hqr:q≠r:=fun c=>by rw [c,rr]at hq;cases hq
 have rr3:=pK _ _ rr;have DC:=(dH.trans fF).trans pK;have Lt:=pK _ _ (fF _ _ rp);generalize aJ S2 q (.row [ni 0,.nil,.nil,.nil,.nil] 36)=S3 at DC rq rr3 Lt;rw [aZ,cW (o:=0+5) Lt rfl];obtain⟨M',DH⟩:∃k,M=k+1+1+1+1+1:=⟨M-5,by omega⟩;rw [hy.most,DH]
 have step:∀(i m:Nat) (u:V) (acc:List Int) (S4:Hp),i<4->acc.length<=4->bP S S4->GL 3 S S4 u (lK acc)->S4 q=some (.row [ni 0,u,.nil,.nil,.nil] 36)->S4 r=some (.row [ni 0,.nil,.nil,.nil,.nil] 36)->
  (∀u' S',bP S S'->GL 3 S S' u' (lK (acc++[((i+1:Nat):Int)]))->S' q=some (.row [ni 0,u',.nil,.nil,.nil] 36)->S' r=some (.row [ni 0,.nil,.nil,.nil,.nil] 36)->qI y m (.ptr r 0) (.ptr q 0) (ni 4) (ni (i+1)) S' K)->
  qI y (m+1) (.ptr r 0) (.ptr q 0) (ni 4) (ni i) S4 K:=by
  intro i m u acc S4 hi hal hs hg rq4 Nm hk;rw [JO];unfold AB;refine aE ?_;rw [aO,yQ hi,bR,aZ,cW (o:=0+1) rq4 rfl,bD (by omega)];refine hg.app (t:= .root 0) (d:= .int .i64 ((i+1:Nat):Int)) hs (by rw [EM];omega) (zv:=ni 0) rfl (by decide) fun u' S5 FK k5 o5 g5=>?_
  have oX:∀{b:Nat} {o:Ob},S4 b=some o->(∀vs e m,o≠ .gD vs e m)->S5 b=some o:=fun {b o} e ho=>k5 _ _ e fun m c=>by
   obtain⟨vs,n,q2⟩:=hg.there c;rw [e]at q2;injection q2 with q2;exact ho _ _ _ q2
  have rq5:=oX rq4 (fun vs e m c=>by cases c);have rr5:=oX Nm (fun vs e m c=>by cases c);rw [aZ,EC rq5 (show 0+1<5 by decide) g5.one,bD (by omega)];have e1:lK acc++[.int .i64 ((i+1:Nat):Int)]=lK (acc++[((i+1:Nat):Int)]):=by unfold lK;rw [RQ];rfl
  rw [e1]at g5;exact hk u' _ (fun j o e=>by rw [aC (fun c=>by rw [c,hq0]at e;cases e)];exact FK _ _ e) (g5.set rq5 fun vs m c=>by cases c) aB (by rw [aC (aN hqr)];exact rr5)
 refine step 0 _ .nil [] S3 (by decide) (by decide) DC .nil rq rr3 fun u1 S4 HI g4 q4 r4=>?_;refine step 1 _ u1 [1] S4 (by decide) (by decide) HI g4 q4 r4 fun u2 S5 FK g5 q5 r5=>?_;refine step 2 _ u2 [1,2] S5 (by decide) (by decide) FK g5 q5 r5 fun u3 S6 VP g6 q6 r6=>?_;refine step 3 _ u3 [1,2,3] S6 (by decide) (by decide) VP g6 q6 r6 fun u4 S7 le7 g7 q7 r7=>?_;have g7:GL 3 S S7 u4 (lK Gl.mem):=g7;rw [JO];unfold AB;refine aE ?_;rw [aO,jO (by decide),bC];refine dZ (n:=5) (i:=q) q7 rfl ?_;refine gO (n:=5) (i:=r) r7 (by simp only [OX,WA,g7.one];rfl) rfl rfl ?_;refine dZ (n:=5) (i:=r) aB rfl ?_;have fu:=(g7.set (o:= .row [ni 0,u4,.nil,.nil,.nil] 36) r7 fun vs m c=>by cases c).Cy;rw [EM]at fu;refine⟨S,fun O=> .agg (gR O Gl),fun j o e=>by rw [aC (fun c=>by rw [c,FG]at e;cases e)];exact le7 j o e,fun O=> .agg ⟨rfl,fun j v u e1 e2=>?_⟩,fun O=>hK O⟩
 match j with
 | 0=>injection e1 with e1;injection e2 with e2;subst e1 e2;exact .mI _
 | 1=>injection e1 with e1;injection e2 with e2;subst e1 e2;exact .ZE fu
 | 2=>injection e1 with e1;injection e2 with e2;subst e1 e2;exact .ZE .nil
 | 3=>injection e1 with e1;injection e2 with e2;subst e1 e2;exact .ZE .nil
 | 4=>injection e1 with e1;injection e2 with e2;subst e1 e2;exact .ZE .nil
 | j+5=>simp at e1
theorem aPm (hx:Deep PP bI gM M (n+1) x){sd:Nat} (hS:FC sd) (hK:∀t s S',S t=none->bP S S'->iW S' t s [] 0->K (.ptr t 0) S'):x.call Dd [nu sd] S K:=by
 refine hx.call rfl fun y hy=>?_;rw [aD7];unfold Re;refine⟨rfl,by simp,⟨rfl,rfl,by simp,⟨rfl,fun t ht=>aL (hK t (BitVec.ofNat 64 sd) _ ht (.aI ht) ⟨.nil,?_,.nil⟩)⟩⟩⟩;rw [aQ4 hS];exact aB
theorem aFT (hM:1000000<M) (hx:Deep PP bI gM M (n+3) x){sd:Nat} (hS:FC sd) (hK:∀y t s O S',bP S S'->S y=none->S t=none->y≠t->S' y=some (.row (PR true t .nil O Gl) 38)->iW S' t s [] 0->K (.ptr y 0) S'):x.call HJ [nu sd] S K:=by
 refine hx.call rfl fun y hy=>?_;rw [Us];unfold Ba;refine aMJ (n:=n+1) hy ?_;refine cB rfl fun b hb=>?_;refine gO (n:=12) (i:=b) aB kC rfl rfl ?_;rw [eS];have dH:bP S (aJ S b (.row (pv true) 29)):= .aI hb;have rb:aJ S b (.row (pv true) 29) b=some (.row (pv true) 29):=aB;generalize aJ S b (.row (pv true) 29)=S1 at dH rb;have smp:∀{p:Prop},aW (.agg (pv true)) (.agg (pv true)) p=p:=fun {p}=>cK rfl;rw [lT rb,lT rb];refine aPm (n:=n+1) hy hS fun t s S2 ht fF tp=>?_;rw [lT (fF _ _ rb),smp,lT (fF _ _ rb),smp];refine aPl (n:=n) hM hy fun O=>?_;rw [lT (fF _ _ rb),smp]
 have hbl:∀{k:V->Prop},k (.agg (PR true t .nil O Gl))->cF aJX [(0,12,.agg (pv true)),(12,1,.ptr t 0),(14,5,.agg (gR O Gl))] k:=fun {k} hk=>
  ⟨kC,rfl,cG rfl,rfl,cG rfl,IC,rfl,cG rfl,hk⟩
 refine hbl ?_;rw [lT (fF _ _ rb),smp];refine⟨bX rfl fun _ _=>trivial,bX rfl fun q hq=>?_⟩;have pK:bP S2 (aJ S2 q (.row (PR true t .nil O Gl) 38)):= .aI hq
 have hqt:q≠t:=fun c=>by
  obtain⟨w,h1,_⟩:=tp;rw [c,h1]at hq;cases hq
 refine aL (hK q t s O _ ((dH.trans fF).trans pK) (dH.none (fF.none hq)) (dH.none ht) hqt aB (tp.at (by rw [aC (aN hqt)])))
end
theorem aCf (z:Int):∃N,N<18446744073709551616/\(0<=z->z<18446744073709551616->N=z.toNat)/\∀k:V->Prop,LU .u64 (.int .i64 z) k=k (nu N):=by
 have h:∃N:Nat,N<18446744073709551616/\IntKind.u64.wrap z= .ofNat N/\(0<=z->z<18446744073709551616->N=z.toNat):=by
  refine⟨(z%18446744073709551616).toNat,by omega,?_,fun h1 h2=>by omega⟩;simp [IntKind.wrap,IntKind.bits,IntKind.signed];omega
 obtain⟨N,h1,h2,h3⟩:=h;refine⟨N,h1,h3,fun k=>?_⟩;show k (.int .u64 (tC .u64 z))=_;rw [KZ,h2]
theorem aPn{N:Nat} (h:N<4611686018427387904){k:V->Prop}:LU .i64 (nu N) k=k (ni N):=by
 show k (.int .i64 (tC .i64 (.ofNat N)))=_;rw [aG7 (by omega)]
def shC (sh:List (List (Nat×Nat))):List Dt:=sh.map fun l=> .list (pds l) l.length
inductive Shs:V->List (List (Nat×Nat))->Prop
 | no:Shs .nil []
 | four {O:Tag} {sh:List (List (Nat×Nat))} (h4:sh.length=4) (h:∀l∈sh,l.length=2/\∀p∈l,FC p.1/\FC p.2):Shs (.list O (shC sh) sh.length) sh
theorem Shs.same{v:V}{sh:List (List (Nat×Nat))} (h:Shs v sh):BY v=true:=by cases h<;>rfl
theorem Shs.len{v:V}{sh:List (List (Nat×Nat))} (h:Shs v sh){k:V->Prop}:bK v k=k (ni sh.length):=by cases h<;>rfl
def XX (x:Nat) (fs rs:List (List Nat)):Prop:=∃D:List Nat,D.length=6/\(∀c∈D,c<11)/\fs=fsR 1 [x,3] D/\rs=rsR 1 2 D
def JP (fs rs:List (List Nat)):List (List (Nat×Nat)):=(List.range 4).map fun i=>shL fs rs (i+1)
def Bb (fs rs:List (List Nat)):En:=⟨1,0,0,[],dY fs rs,[],[]⟩
def Jg (s:PD) (l:List Int):En:=⟨3,0,s.ep,[],[],l,[]⟩
def JQ (s:PD) (ds:List (Int×List (List Nat))):En:=⟨4,0,s.ep,[],[],[],ds⟩
def aAs (l:List (Nat×Nat)) (c:List (List Nat)):Prop:=∃D:List Nat,D.length=12/\(∀c∈D,c<11)/\c=JE (tL (fT true l D) (bT true l D)) 0
theorem KK{α β γ:Type}{g:α->β->γ}{A:List α}{B:List β}{p:γ->Prop} (h:∀a∈A,∀b∈B,p (g a b)):∀c∈List.zipWith g A B,p c:=by
 induction A generalizing B with
 | nil=>intro c hc;simp at hc
 | cons a A ih=>
  cases B with
  | nil=>intro c hc;simp at hc
  | cons b B=>
   intro c hc;rw [List.zipWith_cons_cons]at hc;rcases cC.1 hc with rfl | hc
   ·exact h _ (.head _) _ (.head _)
   ·exact ih (fun a ha b hb=>h a (.tail _ ha) b (.tail _ hb)) c hc
theorem aPo (i:Nat):∀(l:List Nat) (x e:Nat),x<23->atF i l x e<23:=by
 intro l;induction l with
 | nil=>intro x e h;exact h
 | cons y l ih=>intro x e _;exact ih _ _ (QT _)
theorem aPp (l:List Nat) (i:Nat):atG l i<23:=aPo i l _ _ (QT _)
theorem QU{x:Nat}{fs rs:List (List Nat)} (h:XX x fs rs):fs.length=2/\rs.length=2/\(∀q∈fs,q.length=2/\∀c∈q,c<11)/\∀q∈rs,q.length=2/\∀c∈q,c<11:=by
 obtain⟨D,h1,h2,rfl,rfl⟩:=h;have a:=aFG (T:=1) [x,3] D (by rw [h1];exact bO 6) h2;have b:=aFH (T:=1) 2 D (by rw [h1];decide) h2;exact⟨aFE 1 _ _,aFF 1 _ _,a,b⟩
theorem aAt{x:Nat}{fs rs:List (List Nat)} (h:XX x fs rs):(dY fs rs).length=2/\∀c∈dY fs rs,c.length=2/\∀a∈c,a<23:=by
 obtain⟨h1,h2,h3,h4⟩:=QU h;refine⟨by unfold dY;rw [rG,h1,h2];rfl,?_⟩;refine KK fun f hf r hr=>⟨?_,?_⟩
 ·unfold sX;rw [rG,(h3 f hf).1,(h4 r hr).1];rfl
 ·exact KK fun a _ b _=>aJu a b
theorem aJY{l:List (Nat×Nat)} (hl:l.length=2){D:List Nat} (hD:D.length=12) (hc:∀c∈D,c<11):(tL (fT true l D) (bT true l D)).length=2/\∀m∈tL (fT true l D) (bT true l D),m.length=2/\∀c∈m,c.length=2/\∀a∈c,a<23:=by
 obtain⟨s1,s2⟩:=aJS (n:=2) (Q:=3) rfl l D (by rw [hD,hl];decide) hc;have e1:(fT true l D).length=2:=by unfold fT;rw [aJO,hl]
 have e2:(bT true l D).length=2:=by unfold bT;rw [aJP,hl]
 refine⟨by unfold tL;rw [rG,e1,e2];rfl,KK fun f hf b hb=>?_⟩;have q1:=s1 f hf;have q2:=s2 b hb;refine⟨by unfold dY;rw [rG,q1.1,q2.1];rfl,KK fun r hr t ht=>⟨?_,KK fun a _ b _=>aJu a b⟩⟩;unfold sX;rw [rG,(q1.2 r hr).1,(q2.2 t ht).1];rfl
theorem aMK{l:List (Nat×Nat)} (hl:l.length=2){c:List (List Nat)} (h:aAs l c):c.length=2/\∀q∈c,q.length=2/\∀a∈q,a<23:=by
 obtain⟨D,h1,h2,rfl⟩:=h;obtain⟨m1,m2⟩:=aJY hl h1 h2;refine⟨by unfold JE;rw [mH];exact m1,fun q hq=>?_⟩;unfold JE at hq;obtain⟨m,hm,rfl⟩:=kS.1 hq;refine⟨by unfold oP;rw [mH];exact(m2 m hm).1,fun a ha=>?_⟩;unfold oP at ha;obtain⟨r,_,rfl⟩:=kS.1 ha;exact aPp _ _
theorem aJZ{x:Nat}{fs rs:List (List Nat)} (h:XX x fs rs):(JP fs rs).length=4/\∀l∈JP fs rs,l.length=2/\∀p∈l,FC p.1/\FC p.2:=by
 obtain⟨h1,h2,h3,h4⟩:=QU h;refine⟨by simp [JP],fun l hl=>?_⟩;unfold JP at hl;obtain⟨i,_,rfl⟩:=kS.1 hl
 have Qv:∀(l:List Nat) (X:Nat),ev 11 l X<11:=fun l X=>by
  unfold ev;cases l with
  | nil=>show 0<11;decide
  | cons a l=>exact gI _ (by decide)
 refine⟨by unfold shL;rw [rG,h1,h2];rfl,?_⟩;unfold shL;exact KK fun a _ b _=>⟨lV (Qv a _),lV (Qv b _)⟩
def Ut (O:Nat->Tag) (t:Tu):List V:=ND O t.e++[n8 t.of,.int .i64 t.fr]
theorem aPq (O:Tag) (o:Nat) (t:Tu):Tl O o (tuC t)=Ut (fun k=> .sub O (o+k)) t:=rfl
section
variable{M n:Nat}{x:VE}{S:Hp}{K:KV}{O:Nat->Tag}
theorem Rf (hx:Deep PP bI gM M (n+1) x){y:Nat}{u:Tu} (hr:u.of≠1\/u.e.kind≠1/\u.e.kind≠3/\u.e.kind≠4) (hK:∀O,K (.agg (ND O u.e)) S):x.call cZ [.ptr y 0,.agg (Ut O u)] S K:=by
 refine hx.call rfl fun w hw=>?_;rw [vQ];unfold qJ gP gL gK gQ;refine bX rfl fun b hb=>?_;have dH:bP S (aJ S b (.row (Ut O u) 45)):= .aI hb;have rb:aJ S b (.row (Ut O u) 45) b=some (.row (Ut O u) 45):=aB;generalize aJ S b (.row (Ut O u) 45)=S1 at dH rb;refine cB (l:=[n8 0,ni 0,ni 0,.nil,.nil,.nil,.nil]) rfl fun r hr'=>?_;have fF:bP S1 (aJ S1 r (.row [n8 0,ni 0,ni 0,.nil,.nil,.nil,.nil] 42)):= .aI hr';have rr:aJ S1 r (.row [n8 0,ni 0,ni 0,.nil,.nil,.nil,.nil] 42) r=some (.row [n8 0,ni 0,ni 0,.nil,.nil,.nil,.nil] 42):=aB;have Bc:=fF _ _ rb;have DC:=dH.trans fF;have FG:S r=none:=dH.none hr';generalize aJ S1 r (.row [n8 0,ni 0,ni 0,.nil,.nil,.nil,.nil] 42)=S2 at DC rr Bc
 have fin:bJ 7 (.ptr b 0) S2 fun v6 S=>mB 7 (.ptr r 0) v6 S fun S=>bJ 7 (.ptr r 0) S fun v7 _=>bE v7 S K:=by
  rw [qB Bc,dG (cG rfl)];show mB 7 (.ptr r 0) (.agg (ND O u.e)) S2 _;refine gO (n:=7) (i:=r) rr Gm rfl rfl ?_;refine dZ (n:=7) (i:=r) aB rfl ?_;exact bL (fun j o q=>by rw [aC (fun c=>by rw [c,FG]at q;cases q)];exact DC j o q) (hK O)
 rw [aZ,cW (o:=0+7) (v:=n8 u.of) Bc rfl];show aH PP .neq 5 (n8 u.of) (n8 1) _;rw [show ∀k:V->Prop,aH PP .neq 5 (n8 u.of) (n8 1) k=k (.bool (!decide (u.of=1)))from fun k=>by rw [QK];congr 3;simp;omega];by_cases c:u.of=1
 ·have hr:=hr.resolve_left (fun h=>h c)
  rw [bF c,eQ,bC,aV,aV,cW (o:=0) (v:=n8 u.e.kind) Bc rfl];show aH PP .eql 5 (n8 u.e.kind) (n8 1) _;rw [GR,bN hr.1,bC];show aH PP .eql 5 (n8 u.e.kind) (n8 3) _;rw [GR,bN hr.2.1,bC];show aH PP .eql 5 (n8 u.e.kind) (n8 4) _;rw [GR,bN hr.2.2,bC,aV];exact fin
 ·rw [bN c,BN,bR,aV]
  exact fin
end
section
variable{M n:Nat}{x:VE}{S:Hp}{K:KV}{O:Nat->Tag}
theorem aD8{t:TypeId}{a b:Nat}{k:V->Prop}:aH PP .neq t (n8 a) (n8 b) k=k (.bool (!decide (a=b))):=by rw [QK];congr 3;simp;omega
theorem Wt{s:PD}{t:Nat}{sh:V}{k:Nat}:(PR true t sh O s)[0+14+k]? =(gR O s)[k]? :=by
 unfold PR;rw [kQ (by rw [BZ];omega),BZ,show 0+14+k-12=k+1+1 by omega];rfl
theorem La (hM:1000000<M) (hx:Deep PP bI gM M (n+17) x){y t:Nat}{cs:List V}{id fr:Int}{aNV:List V} (wL:cs.length=9) (ho:cs.all fV=true) (h0:cs[0]? =some (n8 1)) (h1:cs[1]? =some (.int .i64 id)) (h7:cs[7]? =some (n8 1)){s:PD}{OC:V}{sh:List (List (Nat×Nat))} (hsh:Shs OC sh)
 (ry:S y=some (.row (PR true t OC O s) 38)) {s0:BitVec 64} {ah:List Nat} {d:Nat} (hd:d<300000) (tp:iW S t s0 ah d)
 (hK:∀N fs rs wQ O' S',(0<=id->id<18446744073709551616->N=id.toNat)->XX (N%11) fs rs->(∀j o,j≠t->j≠y->S j=some o->S' j=some o)->S' y=some (.row (PR true t wQ O s) 38)->Shs wQ (if s.ep=0 then JP fs rs else sh)->(∃s' PQ,iW S' t s' PQ (d+6))->K (.agg (ND O' (Bb fs rs))) S'):
 x.call cZ [.ptr y 0,.agg cs] S K:=by
 refine hx.call rfl fun w hw=>?_;rw [vQ];unfold qJ gP gL gK gQ;refine bX ho fun b hb=>?_;have dH:bP S (aJ S b (.row cs 45)):= .aI hb;have rb:aJ S b (.row cs 45) b=some (.row cs 45):=aB;generalize aJ S b (.row cs 45)=S1 at dH rb;refine cB (l:=[n8 0,ni 0,ni 0,.nil,.nil,.nil,.nil]) rfl fun r hr=>?_;have fF:bP S1 (aJ S1 r (.row [n8 0,ni 0,ni 0,.nil,.nil,.nil,.nil] 42)):= .aI hr;have rr:aJ S1 r (.row [n8 0,ni 0,ni 0,.nil,.nil,.nil,.nil] 42) r=some (.row [n8 0,ni 0,ni 0,.nil,.nil,.nil,.nil] 42):=aB;have Bc:=fF _ _ rb;have DC:=dH.trans fF;have FG:S r=none:=dH.none hr;have XY:=DC _ _ ry;have hry:r≠y:=fun c=>by rw [c,ry]at FG;cases FG
 have hby:b≠y:=fun c=>by rw [c,ry]at hb;cases hb
 have tpc:=tp;obtain⟨wt,ht1,Ti⟩:=tpc;have hrt:r≠t:=fun c=>by rw [c,ht1]at FG;cases FG
 have hbt:b≠t:=fun c=>by rw [c,ht1]at hb;cases hb
 have hyt:y≠t:=fun c=>by rw [c,ht1]at ry;injection ry with ry;injection ry with _ ry;cases ry
 generalize aJ S1 r (.row [n8 0,ni 0,ni 0,.nil,.nil,.nil,.nil] 42)=S2 at DC rr Bc XY;have tp2:iW S2 t s0 ah d:=⟨wt,DC _ _ ht1,Ti⟩;obtain⟨N,hN,hN0,vN⟩:=aCf id;have lq:∀{S':Hp} {K:KV},S' y=some (.row (PR true t OC O s) 38)->aU (.ptr y (0+1)) S' K=K (nu 11) S':=fun {S' K} h=>cW h rfl;have lt:∀{S':Hp} {K:KV},S' y=some (.row (PR true t OC O s) 38)->aU (.ptr y (0+12)) S' K=K (.ptr t 0) S':=fun {S' K} h=>cW h rfl;have lp:∀{S':Hp} {K:KV},S' y=some (.row (PR true t OC O s) 38)->bJ 12 (.ptr y 0) S' K=K (.agg (pv true)) S':=fun {S' K} h=>by rw [qB h,dG (by show 0+12<=19;decide)];rfl
 have li:∀{S':Hp} {K:KV},S' b=some (.row cs 45)->aU (.ptr b (0+1)) S' K=K (.int .i64 id) S':=fun {S' K} h=>cW h (by rw [dX];exact h1);have smi:∀{z:Int} {p:Prop},aW (.int .i64 z) (.int .i64 z) p=p:=fun {z p}=>cK rfl;have smp:∀{i o:Nat} {p:Prop},aW (.ptr i o) (.ptr i o) p=p:=fun {i o p}=>cK rfl;have sma:∀{p:Prop},aW (.agg (pv true)) (.agg (pv true)) p=p:=fun {p}=>cK rfl;rw [aZ,cW (o:=0+7) Bc (by rw [dX];exact h7)];show aH PP .neq 5 (n8 1) (n8 1) _;rw [aD8,bF rfl,eQ,bC,aV,aV,cW (o:=0) Bc h0];show aH PP .eql 5 (n8 1) (n8 1) _;rw [GR,bF rfl,bR,cX,aV,lp XY,aV,aZ,li Bc,vN,cX,aV,aZ,lq XY,Av (by decide),cX,aZ,lt XY,lt XY,smp,lq XY,cM,li Bc,smi,lp XY,sma];have NN:∀{K:KV},(∀j,S2 j=none->K (.own j 0 2 2) (aJ S2 j (.row (oJ [N%11,3]) 22)))->aP 22 2 iK [(0,1,nu (N%11)),(1,1,nu 3)] S2 K:=fun {K} hk=>Jb hk;refine⟨NN fun _ _=>trivial,NN fun q hq=>?_⟩;have hqt:q≠t:=fun c=>by rw [c,DC _ _ ht1]at hq;cases hq
 have hqy:q≠y:=fun c=>by rw [c,XY]at hq;cases hq
 have hqb:q≠b:=fun c=>by rw [c,Bc]at hq;cases hq
 have hqr:q≠r:=fun c=>by rw [c,rr]at hq;cases hq
 have pK:bP S2 (aJ S2 q (.row (oJ [N%11,3]) 22)):= .aI hq;have rq:aJ S2 q (.row (oJ [N%11,3]) 22) q=some (.row (oJ [N%11,3]) 22):=aB;have tp3:iW (aJ S2 q (.row (oJ [N%11,3]) 22)) t s0 ah d:=tp2.at (by rw [aC (aN hqt)]);have ry3:=pK _ _ XY;have rb3:=pK _ _ Bc;have rr3:=pK _ _ rr;have leB:=DC.trans pK;generalize aJ S2 q (.row (oJ [N%11,3]) 22)=S3 at rq tp3 ry3 rb3 rr3 leB;have nv:NV (del S3 t) (.own q 0 2 2) [N%11,3]:= .own (l:=[N%11,3]) (by rw [SW hqt];exact rq) (fun i z h=>by rw [dX];exact IZ h) (by rw [oK];simp);refine aML (n:=n) (two:=true) (l:=[N%11,3]) hM hw nv (fun c hc=>?_) rfl (by omega) tp3 fun S4 fs rs but tp4 hfs hrs O1 O2z=>?_
 ·rcases cC.1 hc with rfl | hc
  ·exact lV (gI _ (by decide))
  ·rcases cC.1 hc with rfl | hc
   ·decide
   ·cases hc
 have aPr:XX (N%11) fs rs:=⟨_,wJ _ ah s0,QN _ ah s0,hfs,hrs⟩;have Gn:S4 y=some (.row (PR true t OC O s) 38):=by rw [but _ hyt];exact ry3
 have rb4:S4 b=some (.row cs 45):=by rw [but _ hbt];exact rb3
 have Nm:S4 r=some (.row [n8 0,ni 0,ni 0,.nil,.nil,.nil,.nil] 42):=by rw [but _ hrt];exact rr3
 have kp4:∀j o,j≠t->S j=some o->S4 j=some o:=fun j o hj e=>by rw [but _ hj];exact leB _ _ e
 obtain⟨DI,ZD⟩:=aAt aPr
 have fin:∀S5 wQ,(∀j o,j≠t->j≠y->S j=some o->S5 j=some o)->S5 y=some (.row (PR true t wQ O s) 38)->Shs wQ (if s.ep=0 then JP fs rs else sh)->(∃s' PQ,iW S5 t s' PQ (d+6))->S5 r=some (.row [n8 0,ni 0,ni 0,.nil,.nil,.nil,.nil] 42)->kP w (.ptr r 0) (.list O2z (dO (dY fs rs)) (dY fs rs).length) S5 K:=by
  intro S5 wQ kp ry5 hs5 tp5 rr5;rw [ID _ (by rw [hw.most];omega)];unfold nZ;refine aE ?_;refine⟨rfl,cG rfl,rfl,cG rfl,?_⟩;show(mB 7 (.ptr r 0) (.agg [n8 1,ni 0,ni 0,.nil,.list O2z (dO (dY fs rs)) (dY fs rs).length,.nil,.nil]) S5 fun S=>bJ 7 (.ptr r 0) S fun v1 _=>bE v1 S K);refine gO (n:=7) (i:=r) rr5 rfl rfl rfl ?_;refine dZ (n:=7) (i:=r) aB rfl ?_;have kp6:∀j o,j≠t->j≠y->S j=some o->aJ S5 r (.row [n8 1,ni 0,ni 0,.nil,.list O2z (dO (dY fs rs)) (dY fs rs).length,.nil,.nil] 42) j=some o:=fun j o h1 h2 e=>by rw [aC (fun c=>by rw [c,FG]at e;cases e)];exact kp j o h1 h2 e
  obtain⟨s9,ah9,tp9⟩:=tp5;refine⟨_,fun O'=> .agg (ND (fun k=>if k=4 then O2z else O' k) (Bb fs rs)),.refl _,fun O'=> .agg ⟨rfl,fun j v u e1 e2=>?_⟩,fun O'=>hK N fs rs wQ _ _ hN0 aPr kp6 (by rw [aC (aN hry)];exact ry5) hs5 ⟨s9,ah9,tp9.at (by rw [aC (aN hrt)])⟩⟩
  match j with
  | 0=>injection e1 with e1;injection e2 with e2;subst e1 e2;exact .mI _
  | 1=>injection e1 with e1;injection e2 with e2;subst e1 e2;exact .mI _
  | 2=>injection e1 with e1;injection e2 with e2;subst e1 e2;exact .mI _
  | 3=>injection e1 with e1;injection e2 with e2;subst e1 e2;exact .ZE .nil
  | 4=>injection e1 with e1;injection e2 with e2;subst e1 e2;exact .mI _
  | 5=>injection e1 with e1;injection e2 with e2;subst e1 e2;exact .ZE .nil
  | 6=>injection e1 with e1;injection e2 with e2;subst e1 e2;exact .ZE .nil
  | j+7=>simp at e1
 rw [lq Gn,cM,li rb4,smi];refine dB (v:= .list O1 (shD fs rs (tN true)) (tN true)) rfl ?_;refine dB (v:= .list O2z (dO (dY fs rs)) (dY fs rs).length) rfl ?_;refine dB (v:=ni 0) rfl ?_;rw [JA,bF rfl];have lep:∀{K:KV},aU (.ptr y (0+14+0)) S4 K=K (ni s.ep) S4:=fun {K}=>cW Gn (by rw [Wt];rfl);rw [aF,aM];try dsimp only
 rw [aF,aM,cX];try dsimp only
 rw [aF,aM,aZ];try dsimp only
 rw [aF,aM,aZ];try dsimp only
 rw [aF,aM,lep];try dsimp only
 rw [aF,aM];try dsimp only
 rw [JA,aF,dW];by_cases c:s.ep=0
 ·rw [bF c,bR,cX,aZ,EC Gn (show 0+13<19 by decide) rfl]
  obtain⟨s5,ah5,w5,q5,u5⟩:=tp4
  have hsd:Shs (.list O1 (shD fs rs (tN true)) (tN true)) (if s.ep=0 then JP fs rs else sh):=by
   rw [aK c];obtain⟨g1,g2⟩:=aJZ aPr;have:=Shs.four (O:=O1) g1 g2;rw [g1]at this;have e:shC (JP fs rs)=shD fs rs (tN true):=by unfold shC JP shD;rw [List.map_map];rfl
   rw [e]at this;exact this
  refine fin _ (.list O1 (shD fs rs (tN true)) (tN true)) (fun j o h1 h2 e=>by rw [aC h2];exact kp4 j o h1 e) aB hsd ⟨s5,ah5,w5,by rw [aC (aN hyt)];exact q5,u5⟩ (by rw [aC hry];exact Nm)
 ·rw [bN c,bC]
  refine fin S4 OC (fun j o h1 _ e=>kp4 j o h1 e) Gn (by rw [aG c];exact hsh) tp4 Nm
theorem Gp (hx:Deep PP bI gM M (n+1) x){y t:Nat}{cs:List V} (wL:cs.length=9) (ho:cs.all fV=true) (h0:cs[0]? =some (n8 3)) (h7:cs[7]? =some (n8 1)){s:PD}{OC:V} (ry:S y=some (.row (PR true t OC O s) 38)){Sb:Hp}{vn:V}{l:List Int} (hle:bP Sb S) (h5:cs[5]? =some vn) (hvo:fV vn=true) (hf:∀{S':Hp},bP S S'->Dx Sb S' vn (.list (lK l) l.length))
 (hK:∀O',K (.agg (ND O' (Jg s l))) Sb):x.call cZ [.ptr y 0,.agg cs] S K:=by
 refine hx.call rfl fun w hw=>?_;rw [vQ];unfold qJ gP gL gK gQ;refine bX ho fun b hb=>?_;have dH:bP S (aJ S b (.row cs 45)):= .aI hb;have rb:aJ S b (.row cs 45) b=some (.row cs 45):=aB;generalize aJ S b (.row cs 45)=S1 at dH rb;refine cB (l:=[n8 0,ni 0,ni 0,.nil,.nil,.nil,.nil]) rfl fun r hr=>?_;have fF:bP S1 (aJ S1 r (.row [n8 0,ni 0,ni 0,.nil,.nil,.nil,.nil] 42)):= .aI hr;have rr:aJ S1 r (.row [n8 0,ni 0,ni 0,.nil,.nil,.nil,.nil] 42) r=some (.row [n8 0,ni 0,ni 0,.nil,.nil,.nil,.nil] 42):=aB;have Bc:=fF _ _ rb;have DC:=dH.trans fF;have FG:S r=none:=dH.none hr;have XY:=DC _ _ ry;generalize aJ S1 r (.row [n8 0,ni 0,ni 0,.nil,.nil,.nil,.nil] 42)=S2 at DC rr Bc XY;rw [aZ,cW (o:=0+7) Bc (by rw [dX];exact h7)];show aH PP .neq 5 (n8 1) (n8 1) _;rw [aD8,bF rfl,eQ,bC,aV,aV,cW (o:=0) Bc h0];show aH PP .eql 5 (n8 3) (n8 1) _;rw [GR,bN (by decide),bC];show aH PP .eql 5 (n8 3) (n8 3) _;rw [GR,bF rfl,bR,cX,aZ,aZ,cW (o:=0+14+0) (v:=ni s.ep) XY (by rw [Wt];rfl),aV,aZ,cW (o:=0+5) Bc (by rw [dX];exact h5)]
 have hbl:∀{k:V->Prop},k (.agg [n8 3,ni 0,ni s.ep,.nil,.nil,vn,.nil])->cF vR [(0,1,n8 3),(2,1,ni s.ep),(5,1,vn)] k:=fun {k} hk=>by
  unfold cF sC;show iN [(0,1,n8 3),(2,1,ni s.ep),(5,1,vn)] [n8 0,ni 0,ni 0,.nil,.nil,.nil,.nil] _;unfold iN iN iN iN;rw [vc1 (v:=n8 3) rfl,vc1 (v:=ni s.ep) rfl,vc1 hvo];exact⟨rfl,by simp,rfl,by simp [aY],rfl,by simp [aY],hk⟩
 refine hbl ?_;refine gO (n:=7) (i:=r) rr (by simp only [OX,WA,hvo];rfl) rfl rfl ?_;refine dZ (n:=7) (i:=r) aB rfl ?_;have leX:bP Sb (aJ S2 r (.row [n8 3,ni 0,ni s.ep,.nil,.nil,vn,.nil] 42)):=fun j o q=>by rw [aC (fun c=>by rw [c]at q;have:=hle _ _ q;rw [FG]at this;cases this)];exact DC _ _ (hle _ _ q)
 have hfz:Dx Sb (aJ S2 r (.row [n8 3,ni 0,ni s.ep,.nil,.nil,vn,.nil] 42)) vn (.list (lK l) l.length):=hf fun j o q=>by rw [aC (fun c=>by rw [c,FG]at q;cases q)];exact DC _ _ q
 refine⟨Sb,fun O'=> .agg (ND O' (Jg s l)),leX,fun O'=> .agg ⟨rfl,fun j v u e1 e2=>?_⟩,fun O'=>hK _⟩
 match j with
 | 0=>injection e1 with e1;injection e2 with e2;subst e1 e2;exact .mI _
 | 1=>injection e1 with e1;injection e2 with e2;subst e1 e2;exact .mI _
 | 2=>injection e1 with e1;injection e2 with e2;subst e1 e2;exact .mI _
 | 3=>injection e1 with e1;injection e2 with e2;subst e1 e2;exact .ZE .nil
 | 4=>injection e1 with e1;injection e2 with e2;subst e1 e2;exact .ZE .nil
 | 5=>injection e1 with e1;injection e2 with e2;subst e1 e2;exact .ZE hfz
 | 6=>injection e1 with e1;injection e2 with e2;subst e1 e2;exact .ZE .nil
 | j+7=>simp at e1
end
theorem SL.aD9{el:TypeId}{S0 S1 S:Hp}{v:V}{ds:List Dt}{n:Nat} (h:SL el S0 S v ds n) (hs:∀i vs m,S i=some (.gD vs el m)->S0 i=none->S1 i=none):SL el S1 S v ds n:=by
 cases h with
 | nil=>exact .nil
 | acc h0 h hl hv=>exact .acc (hs _ _ _ h h0) h hl hv
def GS (sh:List (List (Nat×Nat))):Nat->List (Int×List (List Nat))->Prop
 | _,[]=>True
 | i,d::ds=>(∃l,sh[i]? =some l/\d.1=((i+1:Nat):Int)/\aAs l d.2)/\GS sh (i+1) ds
theorem GS.app{sh:List (List (Nat×Nat))}{e:Int×List (List Nat)}{l:List (Nat×Nat)}:∀{ds:List (Int×List (List Nat))} {i:Nat},GS sh i ds->sh[i+ds.length]? =some l->e.1=((i+ds.length+1:Nat):Int)->aAs l e.2->GS sh i (ds++[e]):=by
 intro ds;induction ds with
 | nil=>intro i _ h1 h2 h3;exact⟨⟨l,h1,h2,h3⟩,trivial⟩
 | cons d ds ih=>
  intro i h h1 h2 h3;refine⟨h.1,ih h.2 ?_ ?_ h3⟩
  ·rw [oN]at h1;rw [show i+1+ds.length=i+(ds.length+1)by omega];exact h1
  ·rw [oN]at h2;rw [h2];congr 1;omega
section
variable{M n:Nat}{x:VE}{S:Hp}{K:KV}{O:Nat->Tag}
theorem aJ0{t:TypeId}{a b:Nat}{k:V->Prop}:aH PP .leq t (ni a) (ni b) k=k (.bool (decide (a<=b))):=by rw [KQ];congr 2;simp
theorem aRd{t:TypeId}{a b:Nat} (h:b≠0){k:V->Prop}:aH PP .rem t (nu a) (nu b) k=k (nu (a%b)):=Av h
theorem Lb (hM:1000000<M) (hx:Deep PP bI gM M (n+23) x){y t:Nat}{cs:List V}{fr:Int} (wL:cs.length=9) (ho:cs.all fV=true) (h0:cs[0]? =some (n8 4)) (h7:cs[7]? =some (n8 1)) (h8:cs[8]? =some (.int .i64 fr)){s:PD}{OC:V}{sh:List (List (Nat×Nat))} (hsh:Shs OC sh)
 (ry:S y=some (.row (PR true t OC O s) 38)) {s0:BitVec 64} {ah:List Nat} {d:Nat} (hd:d<300000) (tp:iW S t s0 ah d)
 (hK:∀N ds O' S',N<3->GS sh N ds->ds.length=(if sh.length=4 then 2 else 0)->(∀j o,j≠t->j≠y->S j=some o->S' j=some o)->S' y=some (.row (PR true t OC O s) 38)->(∃s' PQ d',d'<=d+24/\iW S' t s' PQ d')->K (.agg (ND O' (JQ s ds))) S'):
 x.call cZ [.ptr y 0,.agg cs] S K:=by
 refine hx.call rfl fun w hw=>?_;rw [vQ];unfold qJ gP gL gK gQ;refine bX ho fun b hb=>?_;have dH:bP S (aJ S b (.row cs 45)):= .aI hb;have rb:aJ S b (.row cs 45) b=some (.row cs 45):=aB;generalize aJ S b (.row cs 45)=S1 at dH rb;refine cB (l:=[n8 0,ni 0,ni 0,.nil,.nil,.nil,.nil]) rfl fun r hr=>?_;have fF:bP S1 (aJ S1 r (.row [n8 0,ni 0,ni 0,.nil,.nil,.nil,.nil] 42)):= .aI hr;have rr:aJ S1 r (.row [n8 0,ni 0,ni 0,.nil,.nil,.nil,.nil] 42) r=some (.row [n8 0,ni 0,ni 0,.nil,.nil,.nil,.nil] 42):=aB;have Bc:=fF _ _ rb;have DC:=dH.trans fF;have FG:S r=none:=dH.none hr;have XY:=DC _ _ ry;have hry:r≠y:=fun c=>by rw [c,ry]at FG;cases FG
 have tpc:=tp;obtain⟨wt,ht1,Ti⟩:=tpc;have hrt:r≠t:=fun c=>by rw [c,ht1]at FG;cases FG
 have hyt:y≠t:=fun c=>by rw [c,ht1]at ry;injection ry with ry;injection ry with _ ry;cases ry
 generalize aJ S1 r (.row [n8 0,ni 0,ni 0,.nil,.nil,.nil,.nil] 42)=S2 at DC rr Bc XY;obtain⟨N,hN,hN0,vN⟩:=aCf fr;have lp:∀{S':Hp} {K:KV},S' y=some (.row (PR true t OC O s) 38)->bJ 12 (.ptr y 0) S' K=K (.agg (pv true)) S':=fun {S' K} h=>by rw [qB h,dG (by show 0+12<=19;decide)];rfl
 have l5:∀{S':Hp} {K:KV},S' y=some (.row (PR true t OC O s) 38)->aU (.ptr y (0+5)) S' K=K (ni 4) S':=fun {S' K} h=>cW h rfl;have l6:∀{S':Hp} {K:KV},S' y=some (.row (PR true t OC O s) 38)->aU (.ptr y (0+6)) S' K=K (ni 1) S':=fun {S' K} h=>cW h rfl;have lt:∀{S':Hp} {K:KV},S' y=some (.row (PR true t OC O s) 38)->aU (.ptr y (0+12)) S' K=K (.ptr t 0) S':=fun {S' K} h=>cW h rfl;have ls:∀{S':Hp} {K:KV},S' y=some (.row (PR true t OC O s) 38)->aU (.ptr y (0+13)) S' K=K OC S':=fun {S' K} h=>cW h rfl;have smp:∀{i o:Nat} {p:Prop},aW (.ptr i o) (.ptr i o) p=p:=fun {i o p}=>cK rfl;have sma:∀{p:Prop},aW (.agg (pv true)) (.agg (pv true)) p=p:=fun {p}=>cK rfl;have sms:∀{p:Prop},aW OC OC p=p:=fun {p}=>cK hsh.same;rw [aZ,cW (o:=0+7) Bc (by rw [dX];exact h7)];show aH PP .neq 5 (n8 1) (n8 1) _;rw [aD8,bF rfl,eQ,bC,aV,aV,cW (o:=0) Bc h0];show aH PP .eql 5 (n8 4) (n8 1) _;rw [GR,bN (by decide),bC];show aH PP .eql 5 (n8 4) (n8 3) _;rw [GR,bN (by decide),bC];show aH PP .eql 5 (n8 4) (n8 4) _;rw [GR,bF rfl,bR,cX,aZ,aZ,cW (o:=0+14+0) (v:=ni s.ep) XY (by rw [Wt];rfl)]
 have hbl:∀{k:V->Prop},k (.agg [n8 4,ni 0,ni s.ep,.nil,.nil,.nil,.nil])->cF vR [(0,1,n8 4),(2,1,ni s.ep)] k:=fun {k} hk=>by
  unfold cF sC;show iN [(0,1,n8 4),(2,1,ni s.ep)] [n8 0,ni 0,ni 0,.nil,.nil,.nil,.nil] _;unfold iN iN iN;rw [vc1 (v:=n8 4) rfl,vc1 (v:=ni s.ep) rfl];exact⟨rfl,by simp,rfl,by simp [aY],hk⟩
 refine hbl ?_;refine cB (l:=[n8 0,ni 0,ni 0,.nil,.nil,.nil,.nil]) rfl fun e he=>?_;refine gO (n:=7) (i:=e) aB rfl rfl rfl ?_;rw [eS];have pK:bP S2 (aJ S2 e (.row [n8 4,ni 0,ni s.ep,.nil,.nil,.nil,.nil] 42)):= .aI he;have re:aJ S2 e (.row [n8 4,ni 0,ni s.ep,.nil,.nil,.nil,.nil] 42) e=some (.row [n8 4,ni 0,ni s.ep,.nil,.nil,.nil,.nil] 42):=aB;have he0:S e=none:=DC.none he;have hey:e≠y:=fun c=>by rw [c,ry]at he0;cases he0
 have het:e≠t:=fun c=>by rw [c,ht1]at he0;cases he0
 have her:e≠r:=fun c=>by rw [c,rr]at he;cases he
 have ry3:=pK _ _ XY;have rb3:=pK _ _ Bc;have rr3:=pK _ _ rr;have leB:=DC.trans pK;generalize aJ S2 e (.row [n8 4,ni 0,ni s.ep,.nil,.nil,.nil,.nil] 42)=S3 at re ry3 rb3 rr3 leB;have tp3:iW S3 t s0 ah d:=⟨wt,leB _ _ ht1,Ti⟩;rw [aZ,cW (o:=0+8) rb3 (by rw [dX];exact h8),vN,cX,aV,aZ,l5 ry3,cX,aV,aZ,l6 ry3,aAh (by decide) (by decide)];show LU .u64 (ni 3) _;rw [Iy (by decide),aRd (by decide),aPn (by have:=gI N (show 3>0 by decide);omega)];have hF:N%3<3:=gI _ (by decide);generalize N%3=F at hF;rw [hw.most]
 have fin:∀(u:V) (acc:List (Int×List (List Nat))) (S4:Hp),acc.length=(if sh.length=4 then 2 else 0)->(∀j o,j≠t->j≠y->S j=some o->S4 j=some o)->S4 y=some (.row (PR true t OC O s) 38)->(∃s' PQ d',d'<=d+24/\iW S4 t s' PQ d')->S4 r=some (.row [n8 0,ni 0,ni 0,.nil,.nil,.nil,.nil] 42)->
  S4 e=some (.row [n8 4,ni 0,ni s.ep,.nil,.nil,.nil,u] 42)->SL 68 S S4 u (MZ acc) acc.length->GS sh F acc->bJ 7 (.ptr e 0) S4 fun v64 S=>mB 7 (.ptr r 0) v64 S fun S=>bJ 7 (.ptr r 0) S fun v65 _=>bE v65 S K:=by
  intro u acc S4 hal kp Gn tp4 Nm re4 RO LJ;refine dZ (n:=7) (i:=e) re4 rfl ?_;refine gO (n:=7) (i:=r) Nm (by simp only [OX,WA,RO.one];rfl) rfl rfl ?_;refine dZ (n:=7) (i:=r) aB rfl ?_;obtain⟨s9,ah9,d9,hd9,w9,q9,u9⟩:=tp4
  let SE:Hp:=fun j=>if j=t then S4 t else if j=y then S4 y else S j
  have eT:SE t=S4 t:=aK rfl;have eY:SE y=S4 y:=by show(if y=t then _ else if y=y then _ else _)=_;rw [aG hyt,aK rfl]
  have eO:∀j,j≠t->j≠y->SE j=S j:=fun j h1 h2=>by show(if j=t then _ else if j=y then _ else _)=_;rw [aG h1,aG h2]
  have leE:bP SE (aJ S4 r (.row [n8 4,ni 0,ni s.ep,.nil,.nil,.nil,u] 42)):=fun j o hj=>by
   by_cases c1:j=t
   ·rw [c1,eT]at hj;rw [c1,aC (aN hrt)];exact hj
   ·by_cases c2:j=y
    ·rw [c2,eY]at hj;rw [c2,aC (aN hry)];exact hj
    ·rw [eO j c1 c2]at hj
     rw [aC (fun c=>by rw [c,FG]at hj;cases hj)];exact kp j o c1 c2 hj
  have aPa:SL 68 SE (aJ S4 r (.row [n8 4,ni 0,ni s.ep,.nil,.nil,.nil,u] 42)) u (MZ acc) acc.length:=by
   have h2:=RO.set (o:= .row [n8 4,ni 0,ni s.ep,.nil,.nil,.nil,u] 42) Nm fun vs m c=>by cases c
   refine h2.aD9 fun i' vs m g1 g0=>?_;have hit:i'≠t:=fun c=>by rw [c,aC (aN hrt),q9]at g1;cases g1
   have hiy:i'≠y:=fun c=>by rw [c,aC (aN hry),Gn]at g1;cases g1
   rw [eO _ hit hiy];exact g0
  refine⟨SE,fun O'=> .agg (ND O' (JQ s acc)),leE,fun O'=> .agg ⟨rfl,fun j v u e1 e2=>?_⟩,fun O'=>hK F acc O' SE hF LJ hal (fun j o h1 h2 h3=>by rw [eO j h1 h2];exact h3) (by rw [eY];exact Gn) ⟨s9,ah9,d9,by omega,w9,by rw [eT];exact q9,u9⟩⟩
  match j with
  | 0=>injection e1 with e1;injection e2 with e2;subst e1 e2;exact .mI _
  | 1=>injection e1 with e1;injection e2 with e2;subst e1 e2;exact .mI _
  | 2=>injection e1 with e1;injection e2 with e2;subst e1 e2;exact .mI _
  | 3=>injection e1 with e1;injection e2 with e2;subst e1 e2;exact .ZE .nil
  | 4=>injection e1 with e1;injection e2 with e2;subst e1 e2;exact .ZE .nil
  | 5=>injection e1 with e1;injection e2 with e2;subst e1 e2;exact .ZE .nil
  | 6=>injection e1 with e1;injection e2 with e2;subst e1 e2;exact .ZE aPa.Cy
  | j+7=>simp at e1
 have go:∀(q i m:Nat) (u:V) (acc:List (Int×List (List Nat))) (S4:Hp),i+q=F+2->q<m->F<=i->(∀j o,j≠t->j≠y->S j=some o->S4 j=some o)->S4 y=some (.row (PR true t OC O s) 38)->(∃s' PQ d',d'<=d+12*(i-F)/\iW S4 t s' PQ d')->S4 r=some (.row [n8 0,ni 0,ni 0,.nil,.nil,.nil,.nil] 42)->
  S4 e=some (.row [n8 4,ni 0,ni s.ep,.nil,.nil,.nil,u] 42)->SL 68 S S4 u (MZ acc) acc.length->GS sh F acc->acc.length=(if sh.length=4 then i-F else 0)->fW w m (.ptr y 0) (.ptr r 0) (.ptr e 0) (ni F) (ni i) S4 K:=by
  intro q;induction q with
  | zero=>
   intro i m u acc S4 hi hm hFi kp Gn tp4 Nm re4 RO LJ hal;obtain⟨m,rfl⟩:=bG (show m≠0 by omega);rw [pB];unfold jR gP gL gK gQ;refine aE ?_;rw [cX,aV,aZ,l6 Gn,bD (by omega)];rw [aJ0];rw [bN (by omega)]
   iterate 7 (rw [aF,kD];try dsimp only)
   rw [aF,dS,bC];exact fin u acc S4 (by rw [hal];split<;>omega) kp Gn (by obtain⟨a1,a2,a3,a4,a5⟩:=tp4;exact⟨a1,a2,a3,by omega,a5⟩) Nm re4 RO LJ
  | succ q ih=>
   intro i m u acc S4 hi hm hFi kp Gn tp4 Nm re4 RO LJ hal;obtain⟨m,rfl⟩:=bG (show m≠0 by omega);rw [pB];unfold jR gP gL gK gQ;refine aE ?_;rw [cX,aV,aZ,l6 Gn,bD (by omega)];rw [aJ0];rw [bF (by omega),aF,aM];try dsimp only
   rw [aF,aM];try dsimp only
   rw [aF,aM,cX];try dsimp only
   rw [aF,aM,aZ];try dsimp only
   rw [aF,aM,ls Gn];try dsimp only
   rw [aF,aM,hsh.len];try dsimp only
   rw [aF,aM,aO];try dsimp only
   rw [aF,dW];cases hsh with
   | no=>
    rw [jO (by simp),bC];exact fin u acc S4 hal kp Gn (by obtain⟨a1,a2,a3,a4,a5⟩:=tp4;exact⟨a1,a2,a3,by omega,a5⟩) Nm re4 RO LJ
   | @four Osz sh h4 aSX=>
    have hi4:i<sh.length:=by omega
    obtain⟨FF,aRe⟩:=aSX _ (cJ hi4);have hgl:sh[i]? =some sh[i]:=aQ hi4;have RM:(shC sh)[i*1]? =some (.list (pds sh[i]) sh[i].length):=by rw [jQ];unfold shC;rw [dJ,hgl];rfl
    generalize sh[i]=L at FF aRe hgl RM;have lL:∀{S':Hp} {K:KV},aU (.nU Osz (shC sh) (i*1)) S' K=K (.list (.sub Osz (i*1)) (pds L) L.length) S':=fun {S' K}=>by rw [tX,cP RM];rfl
    have sml:∀{t:Tag} {cs:List Dt} {n:Nat} {p:Prop},aW (.list t cs n) (.list t cs n) p=p:=fun {t cs n p}=>cK rfl;obtain⟨s4,ah4,d4,hd4,tp4⟩:=tp4;rw [yQ hi4,bR,cX,aV,lp Gn,cX,aZ,ls Gn,gW hi4,lL,cX,aV,aZ,l5 Gn,cX,aZ,lt Gn,lt Gn,smp,l5 Gn,cM,lL,sml,ls Gn,sms,lp Gn,sma];refine⟨cB (l:=[.nil,.nil,.nil]) rfl fun _ _=>trivial,?_⟩;refine aPs (n:=n) (two:=true) hM hw FF aRe (by omega) tp4 fun D Sb S5 vr vc t1 but tpb hD FK gr gc=>?_;have hDl:D.length=12:=by rw [hD,wJ,FF];rfl
    have hDc:∀c∈D,c<11:=by rw [hD];exact QN _ _ _
    have up5:∀{j:Nat} {o:Ob},j≠t->S4 j=some o->S5 j=some o:=fun {j o} h e=>FK _ _ (by rw [but _ h];exact e);have ry5:=up5 hyt Gn;have rr5:=up5 hrt Nm;have re5:=up5 het re4;have kp5:∀j o,j≠t->j≠y->S j=some o->S5 j=some o:=fun j o h1 h2 h3=>up5 h1 (kp j o h1 h2 h3);obtain⟨w4,q4,u4⟩:=tp4;have aSY:SL 68 S S5 u (MZ acc) acc.length:=RO.but fun j vs m hj=>up5 (fun c=>by rw [c,q4]at hj;cases hj) hj;obtain⟨s5,ah5,w5,q5,u5⟩:=tpb;have ht5:=FK _ _ q5;rw [ls ry5,sms];refine dB (v:= .agg [.list t1 (mD (tL (fT true L D) (bT true L D))) (tL (fT true L D) (bT true L D)).length,vr,vc]) rfl ?_;refine dB (v:=ni 0) rfl ?_;rw [ls ry5,sms];refine⟨cB (l:=[.nil,.nil,.nil]) rfl fun _ _=>trivial,?_⟩;refine cB (l:=[.nil,.nil,.nil]) rfl fun g hg=>?_;refine gO (n:=3) (i:=g) aB (by simp only [OX,WA,gr.one,gc.one];rfl) rfl rfl ?_;rw [eS];have VP:bP S5 (aJ S5 g (.row [.list t1 (mD (tL (fT true L D) (bT true L D))) (tL (fT true L D) (bT true L D)).length,vr,vc] 79)):= .aI hg;have rg:aJ S5 g (.row [.list t1 (mD (tL (fT true L D) (bT true L D))) (tL (fT true L D) (bT true L D)).length,vr,vc] 79) g=some (.row [.list t1 (mD (tL (fT true L D) (bT true L D))) (tL (fT true L D) (bT true L D)).length,vr,vc] 79):=aB;generalize aJ S5 g (.row [.list t1 (mD (tL (fT true L D) (bT true L D))) (tL (fT true L D) (bT true L D)).length,vr,vc] 79)=S6 at VP rg;have ry6:=VP _ _ ry5;have rr6:=VP _ _ rr5;have re6:=VP _ _ re5;have ht6:=VP _ _ ht5;have aSZ:=aSY.up VP;have lu:∀{S':Hp} {K:KV},S' e=some (.row [n8 4,ni 0,ni s.ep,.nil,.nil,.nil,u] 42)->aU (.ptr e (0+6)) S' K=K u S':=fun {S' K} h=>cW h rfl;have smu:∀{p:Prop},aW u u p=p:=fun {p}=>cK RO.same;rw [JA,bF rfl,bR,aZ,lu re6,bD (by omega),cX,aV,lp ry6,aV,cW (o:=0) rg rfl];obtain⟨m1,m2⟩:=aJY FF hDl hDc;have b23:∀{a:Nat},a<23->FC a:=fun {a} h=>show a<18446744073709551616 by omega
    refine aPt (n:=n+16) (two:=true) hM hw (show(0:Nat)<18446744073709551616 by decide) (fun ls hls=>?_) (by omega) fun t7=>?_
    ·obtain⟨z1,z2⟩:=m2 ls hls
     refine⟨fun c hc=>?_,by omega⟩;obtain⟨z3,z4⟩:=z2 c hc;exact⟨fun a ha=>b23 (z4 a ha),by omega⟩
    rw [lu re6,smu];show cF vS [(0,1,.int .i64 ((i+1:Nat):Int)),(1,1,T t7 (.list (dO (JE (tL (fT true L D) (bT true L D)) 0)) (JE (tL (fT true L D) (bT true L D)) 0).length))] _;rw [Rg,lu re6,smu];have tso:Lz [.int .i64 ((i+1:Nat):Int),T t7 (.list (dO (JE (tL (fT true L D) (bT true L D)) 0)) (JE (tL (fT true L D) (bT true L D)) 0).length)] [.int .i64 ((i+1:Nat):Int),.list (dO (JE (tL (fT true L D) (bT true L D)) 0)) (JE (tL (fT true L D) (bT true L D)) 0).length]:= .cons t7 (.int .i64 ((i+1:Nat):Int)) (.cons t7 (.list (dO (JE (tL (fT true L D) (bT true L D)) 0)) (JE (tL (fT true L D) (bT true L D)) 0).length) .nil);refine⟨HZ (z:=[ni 0,.nil]) rfl rfl rfl tso.one fun _ _=>trivial,?_⟩;have aTw:acc.length<=2:=by rw [hal];split<;>omega
    let SE:Hp:=fun j=>if j=t then S6 t else if j=y then S6 y else S j
    have eT:SE t=S6 t:=aK rfl;have eY:SE y=S6 y:=by show(if y=t then _ else if y=y then _ else _)=_;rw [aG hyt,aK rfl]
    have eO:∀j,j≠t->j≠y->SE j=S j:=fun j h1 h2=>by show(if j=t then _ else if j=y then _ else _)=_;rw [aG h1,aG h2]
    have leE:bP SE S6:=fun j o hj=>by
     by_cases c1:j=t
     ·rw [c1,eT]at hj;rw [c1];exact hj
     ·by_cases c2:j=y
      ·rw [c2,eY]at hj;rw [c2];exact hj
      ·rw [eO j c1 c2]at hj
       exact VP _ _ (kp5 j o c1 c2 hj)
    have aRf:SL 68 SE S6 u (MZ acc) acc.length:=by
     refine aSZ.aD9 fun i' vs m g1 g0=>?_;have hit:i'≠t:=fun c=>by rw [c,ht6]at g1;cases g1
     have hiy:i'≠y:=fun c=>by rw [c,ry6]at g1;cases g1
     rw [eO _ hit hiy];exact g0
    refine aRf.app leE (by omega) (aFU acc) (zv:=[ni 0,.nil]) rfl rfl tso rfl (by decide) fun u7 S7 le7 k7 o7 sl7=>?_;have oX:∀{b:Nat} {o:Ob},S6 b=some o->(∀vs e m,o≠ .gD vs e m)->S7 b=some o:=fun {b o} h1 h2=>k7 _ _ h1 (aRf.ne h1 h2);have ry7:=oX ry6 (fun vs e m c=>by cases c);have rr7:=oX rr6 (fun vs e m c=>by cases c);have re7:=oX re6 (fun vs e m c=>by cases c);have ht7:=oX ht6 (fun vs e m c=>by cases c);rw [aZ,EC re7 (show 0+6<7 by decide) sl7.one];rw [xM _ (by rw [hw.most];omega)];unfold iS;refine aE ?_;rw [bD (by omega)];have e2:MZ acc++[.int .i64 ((i+1:Nat):Int),.list (dO (JE (tL (fT true L D) (bT true L D)) 0)) (JE (tL (fT true L D) (bT true L D)) 0).length]=MZ (acc++[(((i+1:Nat):Int),JE (tL (fT true L D) (bT true L D)) 0)]):=by rw [aFV];rfl
    rw [e2]at sl7;have sl8:=sl7.set (o:= .row [n8 4,ni 0,ni s.ep,.nil,.nil,.nil,u7] 42) re7 fun vs m c=>by cases c
    have hiF:acc.length=i-F:=by rw [hal,aK h4]
    refine ih (i+1) m u7 (acc++[(((i+1:Nat):Int),JE (tL (fT true L D) (bT true L D)) 0)]) _ (by omega) (by omega) (by omega) (fun j o h1 h2 h3=>?_) (by rw [aC (aN hey)];exact ry7) ⟨s5,ah5,_,?_,w5,by rw [aC (aN het)];exact ht7,u5⟩ (by rw [aC (aN her)];exact rr7) aB ?_ (LJ.app (l:=L) (by rw [hiF,show F+(i-F)=i by omega];exact hgl) ?_ ⟨D,hDl,hDc,rfl⟩) ?_
    ·rw [aC (fun c=>by rw [c,he0]at h3;cases h3)]
     exact le7 _ _ (by rw [eO j h1 h2];exact h3)
    ·have:(tQ true+tQ true)*L.length=12:=by rw [FF];rfl
     rw [this];omega
    ·rw [jZ]
     refine sl8.aD9 fun i' vs m g1 g0=>?_;have hit:i'≠t:=fun c=>by rw [c,aC (aN het),ht7]at g1;cases g1
     have hiy:i'≠y:=fun c=>by rw [c,aC (aN hey),ry7]at g1;cases g1
     rw [<-eO _ hit hiy];exact g0
    ·show((i+1:Nat):Int)=_;rw [hiF];congr 1;omega
    ·rw [jZ,hiF,aK h4];show i-F+1=_;omega
 refine go 2 F M .nil [] S3 (by omega) (by omega) (by omega) (fun j o _ _ e=>leB _ _ e) ry3 ⟨s0,ah,d,by omega,tp3⟩ rr3 re .nil trivial (by rw [Nat.sub_self];split<;>rfl)
end
inductive Rh (s:PD) (sh:List (List (Nat×Nat))) (u:Tu):En->List (List (Nat×Nat))->Prop
 | raw (h:u.of≠1\/u.e.kind≠1/\u.e.kind≠3/\u.e.kind≠4):Rh s sh u u.e sh
 | load (N:Nat) (fs rs:List (List Nat)) (h1:u.of=1) (h2:u.e.kind=1) (h3:0<=u.e.id->u.e.id<18446744073709551616->N=u.e.id.toNat) (h:XX (N%11) fs rs):Rh s sh u (Bb fs rs) (if s.ep=0 then JP fs rs else sh)
 | beg (h1:u.of=1) (h2:u.e.kind=3):Rh s sh u (Jg s u.e.next) sh
 | aJ1 (N:Nat) (ds:List (Int×List (List Nat))) (h1:u.of=1) (h2:u.e.kind=4) (hN:N<3) (h:GS sh N ds) (hl:ds.length=(if sh.length=4 then 2 else 0)):Rh s sh u (JQ s ds) sh
theorem aJ2{c:List Nat} (h:∀a∈c,a<23):LS c:=fun a ha=>by have:=h a ha;show a<18446744073709551616;omega
theorem aFW{ls:List (List Nat)} (h1:ls.length=2) (h2:∀c∈ls,c.length=2/\∀a∈c,a<23):Lx ls:=⟨by omega,fun c hc=>⟨aJ2 (h2 c hc).2,by have:=(h2 c hc).1;omega⟩⟩
theorem GS.sz{sh:List (List (Nat×Nat))} (hs:∀l∈sh,l.length=2):∀{ds:List (Int×List (List Nat))} {i:Nat},GS sh i ds->∀d∈ds,d.2.length=2/\∀c∈d.2,c.length=2/\∀a∈c,a<23:=by
 intro ds;induction ds with
 | nil=>intro i _ d hd;cases hd
 | cons e ds ih=>
  intro i h d hd;rcases cC.1 hd with rfl | hd
  ·obtain⟨⟨l,h1,h2,h3⟩,_⟩:=h
   exact aMK (hs l (BJ h1)) h3
  ·exact ih h.2 d hd
theorem Shs.two{v:V}{sh:List (List (Nat×Nat))} (h:Shs v sh):∀l∈sh,l.length=2:=by
 cases h with
 | no=>intro l hl;cases hl
 | four h4 h=>exact fun l hl=>(h l hl).1
theorem Rh.sz{s:PD}{v:V}{sh sh':List (List (Nat×Nat))}{u:Tu}{e:En} (h:Rh s sh u e sh') (hs:Shs v sh) (hu:Ly u.e):Ly e:=by
 cases h with
 | raw h=>exact hu
 | load N fs rs h1 h2 h3 h=>
  obtain⟨g1,g2⟩:=aAt h;exact⟨(by decide:1<256),(by decide:0<1000000),aFW g1 g2,(by decide:0<1000000),(by decide:0<1000000),fun d hd=>by cases hd⟩
 | beg h1 h2=>exact⟨(by decide:3<256),(by decide:0<1000000),⟨(by decide:0*24<=140737488355328),fun c hc=>by cases hc⟩,hu.next,(by decide:0<1000000),fun d hd=>by cases hd⟩
 | aJ1 N ds h1 h2 hN h hl=>
  have hz:=h.sz hs.two;refine⟨(by decide:4<256),(by decide:0<1000000),⟨(by decide:0*24<=140737488355328),fun c hc=>by cases hc⟩,(by decide:0<1000000),?_,fun d hd=>aFW (hz d hd).1 (hz d hd).2⟩;show ds.length<1000000;rw [hl];split<;>omega
theorem aPu (s:PD) (e:En):(FD s e).1.ep<=s.ep+1:=by
 unfold FD
 repeat' (split<;>try (first | exact RR _ | exact bO _))
 all_goals first | (show 1<=_;omega) | (show s.ep<=s.ep+1;omega) | skip
theorem UI.sz{s:PD} (h:UI s) (he:s.ep<1000000):aCg s:=by
 have hm:=Jh h.mem
 have wL:s.cD.length<=2/\∀c∈s.cD,c.length=2/\∀a∈c,a<23:=by
  rcases OS s.ep with h0 | h0
  ·rw [(h.c0 h0).1];exact⟨by decide,fun c hc=>by cases hc⟩
  ·obtain⟨g1,g2⟩:=kX.1 (h.c1 h0)
   exact⟨by omega,fun c hc=>⟨(g2 c hc).1,fun a ha=>TB ((g2 c hc).2 a ha)⟩⟩
 refine⟨he,by omega,by omega,fun c hc=>⟨aJ2 (wL.2 c hc).2,by have:=(wL.2 c hc).1;omega⟩,?_,by have:=h.few;omega,fun a ha=>?_⟩
 ·rcases h.nx with q | q
  ·rw [q];decide
  ·have:=Jh q;omega
 ·obtain⟨x,_,_,hx⟩:=h.ask
  rw [hx a ha];exact(by decide:1<1000000)
section
variable{M n:Nat}{x:VE}{S:Hp}{K:KV}{O:Nat->Tag}
theorem aMM (hM:1000000<M) (hx:Deep PP bI gM M (n+23) x){y t:Nat}{Ou:Nat->Tag}{u:Tu}{s:PD}{OC:V}{sh:List (List (Nat×Nat))} (hsh:Shs OC sh) (ry:S y=some (.row (PR true t OC O s) 38)){s0:BitVec 64}{ah:List Nat}{d:Nat} (hd:d<300000) (tp:iW S t s0 ah d)
 (hK:∀e sh' wQ O' S',Rh s sh u e sh'->(∀j o,j≠t->j≠y->S j=some o->S' j=some o)->S' y=some (.row (PR true t wQ O s) 38)->Shs wQ sh'->(∃s' PQ d',d'<=d+24/\iW S' t s' PQ d')->K (.agg (ND O' e)) S'):
 x.call cZ [.ptr y 0,.agg (Ut Ou u)] S K:=by
 by_cases h1:u.of=1
 ·have e7:(Ut Ou u)[7]? =some (n8 1):=by show some (n8 u.of)=_;rw [h1]
  by_cases k1:u.e.kind=1
  ·have e0:(Ut Ou u)[0]? =some (n8 1):=by show some (n8 u.e.kind)=_;rw [k1]
   refine La (n:=n+6) (aNV:=[]) hM hx rfl rfl e0 (id:=u.e.id) rfl e7 (fr:=0) hsh ry hd tp fun N fs rs wQ O' S' hN hm kp ry' hs' tp'=>?_;obtain⟨s9,ah9,tp9⟩:=tp';exact hK _ _ wQ O' S' (.load N fs rs h1 k1 hN hm) kp ry' hs' ⟨s9,ah9,d+6,by omega,tp9⟩
  by_cases k3:u.e.kind=3
  ·have e0:(Ut Ou u)[0]? =some (n8 3):=by show some (n8 u.e.kind)=_;rw [k3]
   refine Gp (n:=n+22) hx rfl rfl e0 e7 ry (Sb:=S) (vn:= .list (Ou 5) (lK u.e.next) u.e.next.length) (l:=u.e.next) (.refl _) rfl rfl (fun _=> .list) fun O'=>?_;exact hK _ _ OC O' S (.beg h1 k3) (fun j o _ _ e=>e) ry hsh ⟨s0,ah,d,by omega,tp⟩
  by_cases k4:u.e.kind=4
  ·have e0:(Ut Ou u)[0]? =some (n8 4):=by show some (n8 u.e.kind)=_;rw [k4]
   refine Lb (n:=n) hM hx rfl rfl e0 e7 (fr:=u.fr) rfl hsh ry hd tp fun N ds O' S' hN LJ hl kp ry' tp'=>?_;exact hK _ _ OC O' S' (.aJ1 N ds h1 k4 hN LJ hl) kp ry' hsh tp'
  ·exact Rf (n:=n+22) hx (.inr ⟨k1,k3,k4⟩) fun O'=>hK _ _ OC O' S (.raw (.inr ⟨k1,k3,k4⟩)) (fun j o _ _ e=>e) ry hsh ⟨s0,ah,d,by omega,tp⟩
 ·exact Rf (n:=n+22) hx (.inl h1) fun O'=>hK _ _ OC O' S (.raw (.inl h1)) (fun j o _ _ e=>e) ry hsh ⟨s0,ah,d,by omega,tp⟩
end
section
variable{M n:Nat}{x:VE}{S:Hp}{K:KV}{O:Nat->Tag}
theorem aFX (hx:Deep PP bI gM M (n+1) x) (hK:K (.bool true) S):x.call AO [] S K:=hx.JB (g:=aMq) rfl ⟨rfl,hK⟩
theorem aJ3{s:PD}{t:Nat}{sh:V}{y:Nat}{S1:Hp} (ry:S1 y=some (.row (PR true t sh O s) 38)):bJ 5 (.ptr y (0+14)) S1 K=K (.agg (gR O s)) S1:=by
 rw [qB ry,dG (cG rfl)];rfl
theorem aEa{s:PD}{t:Nat}{sh:V}{y:Nat}{S1:Hp} (ry:S1 y=some (.row (PR true t sh O s) 38)):bJ 12 (.ptr y 0) S1 K=K (.agg (pv true)) S1:=by
 rw [qB ry,dG (cG rfl)];rfl
theorem aRg{O':Nat->Tag}{s s':PD}{t:Nat}{sh:V}{y:Nat}{S1:Hp}{k:Hp->Prop} (ry:S1 y=some (.row (PR true t sh O s) 38)) (hk:k (aJ S1 y (.row (PR true t sh O' s') 38))):mB 5 (.ptr y (0+14)) (.agg (gR O' s')) S1 k:=by
 unfold mB;simp only [ry];exact⟨rfl,rfl,cG rfl,hk⟩
theorem tu9{O:Tag}{ts:List Tu}{i:Nat}{u:Tu} (h:ts[i]? =some u):bJ 9 (.nU O (Gh ts) (i*9)) S K=K (.agg (Ut (fun k=> .sub O (i*9+k)) u)) S:=by
 obtain⟨h1,h2⟩:=aJV h;rw [TC,dG h1,h2,aPq]
theorem aMN{p:Prop}{u:Tu}:aW (.agg (Ut O u)) (.agg (Ut O u)) p=p:=cK rfl
theorem zp5{K:KV} (hk:∀i,S i=none->K (.ptr i 0) (aJ S i (.row [ni 0,.nil,.nil,.nil,.nil] 36))):cN uF 36 S K:=cB (l:=[ni 0,.nil,.nil,.nil,.nil]) rfl hk
theorem ze7{K:KV} (hk:∀i,S i=none->K (.ptr i 0) (aJ S i (.row [n8 0,ni 0,ni 0,.nil,.nil,.nil,.nil] 42))):cN vR 42 S K:=cB (l:=[n8 0,ni 0,ni 0,.nil,.nil,.nil,.nil]) rfl hk
theorem aAu{i:Nat} (h:S i=some (.row [ni 0,.nil,.nil,.nil,.nil] 36)){s:PD}{k:Hp->Prop} (hk:k (aJ S i (.row (gR O s) 36))):mB 5 (.ptr i 0) (.agg (gR O s)) S k:=gO (n:=5) (i:=i) h rfl rfl rfl hk
theorem aRh{i:Nat} (h:S i=some (.row [n8 0,ni 0,ni 0,.nil,.nil,.nil,.nil] 42)){e:En}{k:Hp->Prop} (hk:k (aJ S i (.row (ND O e) 42))):mB 7 (.ptr i 0) (.agg (ND O e)) S k:=gO (n:=7) (i:=i) h rfl rfl rfl hk
theorem aJ4{l:List Int} (h:l.Pairwise fun a b=>a<=b):GJ l=l:=by
 unfold GJ;exact List.mergeSort_of_pairwise (h.imp fun h=>bF h)
theorem aJ5:FN [1,2,3,4]=true:=by
 unfold FN;rw [aJ4 (by decide)];decide
theorem aJ6:FN [1,2,3,5]=true:=by
 unfold FN;rw [aJ4 (by decide)];decide
theorem aAv:UI Gl:=⟨aJ5,fun _=>⟨rfl,rfl⟩,fun h=>aX h (by decide),.inl rfl,⟨0,by decide,by decide,fun a ha=>by cases ha⟩,by decide⟩
end
end Go.Am
namespace Go.Am
open Go.RowKit Go.MapKept Go.Proofs
def c0 (ws:List Value) (n:Nat):Cx:=⟨fun _=>none,fun _ _=>none,fun k=>ws[k]?,n⟩
theorem aK5 (P:Program) (S:St) (ws:List Value):VS P (fun _=>False) S (c0 ws S.n) (fun _=>none) S:=by
 refine⟨.refl S,fun b h=>h.elim,(fun i o e _=>by cases e),(fun i vs t n e=>by cases e),fun i j b l _=>?_,(fun i n w e=>by cases e),⟨0,fun i _=>⟨rfl,rfl,fun n=>rfl⟩⟩,⟨ws.length,fun k hk=>FT hk⟩,(fun i vs t n m b e=>by cases e),(fun i vs t n b w e o e1=>by cases e1)⟩;rcases l with ⟨o,e,_⟩ | ⟨vs,t,n,m,e,_⟩<;>cases e
theorem aHN{ws:List Value}{n b:Nat}:¬dN (fun _=>False) (c0 ws n) (fun _=>none) b:=by
 rintro(h | ⟨i,⟨o,e,_⟩ | ⟨vs,t,n,m,e,_⟩⟩)
 ·exact h
 ·cases e
 ·cases e
theorem aK6{ws:List Value} (S:St):FB (fun _=>False) S S (dN (fun _=>False) (c0 ws S.n) (fun _=>none)):=⟨bO _,fun _ _ _=>rfl,fun b hb=>(aHN hb).elim⟩
theorem Lay.none{P:Program}{w:World} (hsz:P.globals.size<=w.heap.size):Lay P w (Rn.globals P.globals.size) (St.none P.globals.size):=by
 refine⟨Rel.none hsz,fun i o h=>?_⟩;have:(St.none P.globals.size).obj i=Option.none:=rfl;rw [this]at h;cases h
def aM6:V->Prop
 | .bool b=>b=true
 | _=>False
theorem aHO{W:World}{U:Rn}{S:St} (hsz:PP.globals.size<=W.heap.size) (hg:Laid gs W) (hl:Lay PP W U S) (roots:List Value){f:FuncId}{va:List V}{us vs:List Value}{M m:Nat} (ra:mA (c0 roots S.n) S (dN (fun _=>False) (c0 roots S.n) (fun _=>none)) va us) (hu:lZ U us vs)
 (hv:(aAz PP bI gM M m).call f va (fun _=>none) (fun v _=>aM6 v)):Calls PP f ⟨vs⟩ W (fun e w'=>e= .returned (.bool true)/\Below W.heap.size W w'):=by
 have hk:=(aKN (P:=PP) (B:=fun _=>False) (Sb:=S) (tb:=bI) aO5 M m).aF8 f (aK5 PP S roots) ra (K:=fun v _=>isTrue v) (fun c' h' S' v w _ _ _ r hb=>by
  cases r with
  | bool=>exact hb
  | _=>cases hb) hv
 obtain⟨_,UA⟩:=(aDR (P:=PP) (w0:=W) (tb:=bI) (most:=M) (aMo (w:=W) hsz hg) Qt Qs m).1 f us S (fun v _=>isTrue v) U W vs hk hl.1 hu;refine Calls.mono (callsIn_wide.1 UA) ?_
 rintro e w' ⟨v',rfl,U3,v,S3,vZ,hv,hrel,_⟩
 cases v with
 | bool b=>
  have hb:b=true:=vZ;subst hb;rw [hv.of_flat rfl];exact⟨rfl,hrel.base⟩
 | _=>cases vZ
theorem aPJ:aDA PP 8 23=some [.list aHM]:=by kernel_rfl
theorem aHP{H:Type}{enc:TypeId×Value->H}{W:World}{v:Value}{d:DataW H}{p:List MemPlace} (hc:v.cells= #[v]) (h:DataW.Trod enc PP W 0 (fun _=>true) true 23 v d p) (hz:∀b off,MemPlace.cell b off∈p->W.frozen? ⟨b,off,none⟩=false) (hw:∀x∈d.weights PP 23,x<=reachBytes)
 {U:Rn} {S:St} (hl:Lay PP W U S):∃U' S' u ts,Ext U U'/\Lay PP W U' S'/\ST S S'/\VR U' u v/\ZI S' (fun _=>False) (.list (Gh ts) ts.length) u/\(∀t∈ts,Gi t)/\ts.length<=140737488355328:=by
 obtain⟨F,hF⟩:=h;obtain⟨U',S',vs,ds,e1,l1,x1,JG,hr⟩:=lay (P:=PP) (w:=W) (fun _=>true) (fun _=>rfl) F 8 23 v.cells.toList d p hF hz hw [.list aHM] aPJ U S hl;rw [hc]at JG;have hlen:vs.length=1:=hr.len
 match vs,hlen,JG,hr with
 | [u],_,JG,hr=>
  have hd:ds.length=1:=hr.Zh
  match ds,hd,hr with
  | [d1],_,hr=>
   obtain⟨l,h1,h2,h3⟩:=aK4 (hr.rd 0 _ _ _ rfl rfl rfl);exact⟨U',S',u,l,e1,l1,x1,JG.2 0 u v rfl rfl,h1,h2,h3⟩
end Go.Am
namespace Go.Am
def Ag (x:VE) (m:Nat) (t0 t1 t5:V) (S:Hp) (K:KV):Prop:=dQ PP bI PL x [.r,.r,.l,.r,.d] m [] [t0,t1,t5] S K
def Bd (x:VE) (a0 a1:V) (S:Hp) (K:KV):Prop:=
 bK a0 fun v0=>
 bK a1 fun v1=>
 aH PP .neq 3 v0 v1 fun v2=>
 iQ v2 (bE (.bool false) S K) (Ag x x.most a0 a1 (.int .i64 (.ofNat 0)) S K)
theorem Uu (x:VE) (a0 a1:V) (S:Hp) (K:KV):jU PP bI PL x [a0,a1] S K=Bd x a0 a1 S K:=by kernel_rfl
end Go.Am
namespace Go.Am
open Go.Proofs.JJ Go.Mq
section
variable{M n:Nat}{x:VE}{S:Hp}{K:KV}{O O':Tag}
end
theorem did{s:PD} (h:UI s){e:En} (h0:(FD s e).2=0):
 (e.kind=1/\s.ep=0/\(FD s e).1.ep=1/\s.next.length=0/\(FD s e).1.next.length=0/\(FD s e).1.asked.length=s.asked.length)\/
 (e.kind=2/\(FD s e).1.ep=s.ep/\(FD s e).1.next.length=s.next.length/\(FD s e).1.asked.length=s.asked.length+1)\/
 (e.kind=3/\(FD s e).1.ep=s.ep/\(FD s e).1.next.length=4/\(FD s e).1.asked.length=s.asked.length)\/
 (e.kind=4/\(FD s e).1.ep=s.ep+1/\(FD s e).1.next.length=0/\(FD s e).1.asked.length=s.asked.length):=by
 revert h0;unfold FD;split
 ·rename_i k
  split
  ·intro h0;cases h0
  ·split
   ·intro h0;cases h0
   ·rename_i c1 c2
    have c1:s.ep=0:=Classical.not_not.1 c1;obtain⟨q1,q2⟩:=h.c0 c1;exact fun _=> .inl ⟨k,c1,rfl,by rw [q2];rfl,by show s.next.length=0;rw [q2];rfl,rfl⟩
 ·split
  ·rename_i k
   split
   ·intro h0;cases h0
   ·split
    ·exact fun _=> .inr (.inl ⟨k,rfl,rfl,by show(s.asked++[_]).length=_;rw [jZ];rfl⟩)
    ·rename_i c;exact fun h0=>aX h0 c
  ·split
   ·rename_i k
    split
    ·intro h0;cases h0
    ·split
     ·intro h0;cases h0
     ·split
      ·intro h0;cases h0
      ·rename_i c
       exact fun _=> .inr (.inr (.inl ⟨k,rfl,Jh (by simpa using c),rfl⟩))
   ·split
    ·rename_i k
     split
     ·intro h0;cases h0
     ·split
      ·intro h0;cases h0
      ·split
       ·intro h0;cases h0
       ·exact fun _=> .inr (.inr (.inr ⟨k,rfl,rfl,rfl⟩))
    ·intro h0;cases h0
section
variable{M n:Nat}{x:VE}{S:Hp}{K:KV}{O:Nat->Tag}
theorem aMO{S1:Hp}{w g:Nat}{a b:Ob} (hw:S1 w=none) (hg:aJ S1 w a g=none) (a' b':Ob):bP S1 (aJ (aJ S1 w a') g b')/\w≠g/\S1 g=none:=by
 have hwg:w≠g:=fun c=>by rw [<-c,aB]at hg;cases hg
 have hg0:S1 g=none:=by rw [aC (aN hwg)]at hg;exact hg
 refine⟨fun j o q=>?_,hwg,hg0⟩;rw [aC (fun c=>by rw [c,hg0]at q;cases q),aC (fun c=>by rw [c,hw]at q;cases q)];exact q
end
theorem aKX:∀a<11,∀b<11,Aa (Nl a b)=true:=by decide+kernel
theorem aKY:∀a<11,∀b<11,Nl a b=Nl ((a+8*b)%11) 0:=by decide+kernel
theorem aS7:∀y<11,∀z<11,∀i<5,atG [Nl y 0,Nl z 0] i=Nl ((y+z*i)%11) 0:=by decide+kernel
theorem ev2{a b X:Nat}:ev 11 [a,b] X=(b*X+a)%11:=by
 show((((0*X%11%11+b%11)%11)*X%11%11+a%11)%11)=_;rw [VY];have:(b%11)*X%11=b*X%11:=Nat.mod_mul_mod b X 11;have e:(0%11%11+b%11)%11=b%11:=by omega
 rw [e,this];omega
theorem aAM{f r:List Nat}{i:Nat} (hf:f.length=2/\∀c∈f,c<11) (hr:r.length=2/\∀c∈r,c<11) (hi:i<5):atG (sX f r) i=Nl (ev 11 f i) (ev 11 r i):=by
 obtain⟨h1,h2⟩:=hf;obtain⟨h3,h4⟩:=hr
 match f,r,h1,h3 with
 | [a,b],[c,d],_,_=>
  have ha:=h2 a (.head _);have hb:=h2 b (.tail _ (.head _));have hc:=h4 c (.head _);have hd:=h4 d (.tail _ (.head _));show atG [Nl a c,Nl b d] i=_;rw [aKY a ha c hc,aKY b hb d hd,aS7 _ (gI _ (by decide)) _ (gI _ (by decide)) i hi,ev2,ev2,aKY ((b*i+a)%11) (gI _ (by decide)) _ (gI _ (by decide))]
  congr 1
  have hi:i=0\/i=1\/i=2\/i=3\/i=4:=by omega
  rcases hi with rfl | rfl | rfl | rfl | rfl<;>omega
theorem aHJ{fs rs:List (List Nat)} (h1:fs.length=2) (h2:rs.length=2) (h3:∀q∈fs,q.length=2/\∀c∈q,c<11) (h4:∀q∈rs,q.length=2/\∀c∈q,c<11):qK (dY fs rs)=true:=by
 refine kX.2 ⟨by unfold dY;rw [rG,h1,h2];rfl,KK fun f hf r hr=>⟨?_,KK fun a ha b hb=>aKX a ((h3 f hf).2 a ha) b ((h4 r hr).2 b hb)⟩⟩;unfold sX;rw [rG,(h3 f hf).1,(h4 r hr).1];rfl
theorem aF0{x:Nat}{fs rs:List (List Nat)} (h:XX x fs rs):qK (dY fs rs)=true:=by
 obtain⟨h1,h2,h3,h4⟩:=QU h;exact aHJ h1 h2 h3 h4
theorem aCJ{x:Nat}{fs rs:List (List Nat)} (h:XX x fs rs){i:Nat} (hi:i<5):oP (dY fs rs) i=(shL fs rs i).map fun p=>Nl p.1 p.2:=by
 obtain⟨h1,h2,h3,h4⟩:=QU h
 match fs,rs,h1,h2 with
 | [f,g],[r,s],_,_=>
  show [atG (sX f r) i,atG (sX g s) i]=[Nl (ev 11 f i) (ev 11 r i),Nl (ev 11 g i) (ev 11 s i)];rw [aAM (h3 f (.head _)) (h4 r (.head _)) hi,aAM (h3 g (.tail _ (.head _))) (h4 s (.tail _ (.head _))) hi]
theorem aN3{fs rs:List (List Nat)}{i:Nat}:∀p∈shL fs rs i,p.1<11/\p.2<11:=by
 have Qv:∀(l:List Nat) (X:Nat),ev 11 l X<11:=fun l X=>by
  unfold ev;cases l with
  | nil=>show 0<11;decide
  | cons a l=>exact gI _ (by decide)
 unfold shL;exact KK fun a _ b _=>⟨Qv a _,Qv b _⟩
theorem aGe{a b c d:Nat}{p:Nat×Nat} (hp:p.1<11/\p.2<11){D:List Nat} (hD:D.length=3) (hDc:∀c∈D,c<11){E:List Nat} (hE:E.length=3) (hEc:∀c∈E,c<11):
 (oP (dY (pA 2 (p.1%11::D)) (pA 2 (p.2%11::E))) 0).getD 0 0=Nl p.1 p.2/\(oP (dY (pA 2 (p.1%11::D)) (pA 2 (p.2%11::E))) 0).length=2/\∀a∈oP (dY (pA 2 (p.1%11::D)) (pA 2 (p.2%11::E))) 0,Aa a=true:=by
 match D,E,hD,hE with
 | [x,y,z],[u,v,w],_,_=>
  have e:oP (dY (pA 2 (p.1%11::[x,y,z])) (pA 2 (p.2%11::[u,v,w]))) 0=[atG (sX [p.1%11,x] [p.2%11,u]) 0,atG (sX [y,z] [v,w]) 0]:=rfl;have hx:=hDc x (.head _);have hy:=hDc y (.tail _ (.head _));have hz:=hDc z (.tail _ (.tail _ (.head _)));have hu:=hEc u (.head _);have hv:=hEc v (.tail _ (.head _));have hw:=hEc w (.tail _ (.tail _ (.head _)))
  have two:∀{a b:Nat},a<11->b<11->[a,b].length=2/\∀c∈[a,b],c<11:=fun {a b} ha hb=>⟨rfl,fun c hc=>by
   rcases cC.1 hc with rfl | hc
   ·exact ha
   ·rcases cC.1 hc with rfl | hc
    ·exact hb
    ·cases hc⟩
  have e1:p.1%11=p.1:=OU hp.1;have e2:p.2%11=p.2:=OU hp.2;rw [e,e1,e2,aAM (two hp.1 hx) (two hp.2 hu) (by decide),aAM (two hy hz) (two hv hw) (by decide),ev2,ev2,ev2,ev2];have z0:∀{a b:Nat},a<11->(b*0+a)%11=a:=fun {a b} h=>by omega
  rw [z0 hp.1,z0 hp.2,z0 hy,z0 hv];refine⟨rfl,rfl,fun a ha=>?_⟩;rcases cC.1 ha with rfl | ha
  ·exact aKX _ hp.1 _ hp.2
  ·rcases cC.1 ha with rfl | ha
   ·exact aKX _ hy _ hv
   ·cases ha
theorem aGf{l:List (Nat×Nat)} (hl:l.length=2) (hlt:∀p∈l,p.1<11/\p.2<11){c:List (List Nat)} (h:aAs l c):qK c=true/\MH c=l.map fun p=>Nl p.1 p.2:=by
 obtain⟨D,h1,h2,rfl⟩:=h
 match l,hl with
 | [p,q],_=>
  have hp:=hlt p (.head _);have hq:=hlt q (.tail _ (.head _));have tk:∀(E:List Nat) (k:Nat),E.length>=k+3->(∀c∈E,c<11)->((E.drop k).take 3).length=3/\∀c∈(E.drop k).take 3,c<11:=fun E k hk hE=>⟨by rw [mG,BL];omega,fun c hc=>hE c (VV (Bu hc))⟩;have t0:=tk D 0 (by omega) h2;have t3:=tk D 3 (by omega) h2;have hd6:∀c∈D.drop 6,c<11:=fun c hc=>h2 c (VV hc);have t6:=tk (D.drop 6) 0 (by rw [BL];omega) hd6;have t9:=tk (D.drop 6) 3 (by rw [BL];omega) hd6;have e:JE (tL (fT true [p,q] D) (bT true [p,q] D)) 0=[oP (dY (pA 2 (p.1%11::(D.drop 0).take 3)) (pA 2 (p.2%11::(D.drop 3).take 3))) 0,oP (dY (pA 2 (q.1%11::((D.drop 6).drop 0).take 3)) (pA 2 (q.2%11::((D.drop 6).drop 3).take 3))) 0]:=rfl;obtain⟨a1,a2,a3⟩:=aGe (a:=0) (b:=0) (c:=0) (d:=0) hp t0.1 t0.2 t3.1 t3.2;obtain⟨b1,b2,b3⟩:=aGe (a:=0) (b:=0) (c:=0) (d:=0) hq t6.1 t6.2 t9.1 t9.2;rw [e];refine⟨kX.2 ⟨rfl,fun c hc=>?_⟩,?_⟩
  ·rcases cC.1 hc with rfl | hc
   ·exact⟨a2,a3⟩
   ·rcases cC.1 hc with rfl | hc
    ·exact⟨b2,b3⟩
    ·cases hc
  ·show [List.getD _ 0 0,List.getD _ 0 0]=[Nl p.1 p.2,Nl q.1 q.2]
   rw [a1,b1]
theorem aF1{x:Nat}{fs rs:List (List Nat)} (h:XX x fs rs){N:Nat} (hN:N<3){ds:List (Int×List (List Nat))} (hs:GS (JP fs rs) N ds) (hl:ds.length=2):iO ds=true/\nM (dY fs rs) ds=true:=by
 obtain⟨h1,h2,h3,h4⟩:=QU h
 have aN4:∀{i:Nat} {l:List (Nat×Nat)},(JP fs rs)[i]? =some l->i<4/\l=shL fs rs (i+1):=fun {i l} hi=>by
  have hlt:i<4:=by have:=(dK.1 hi).1;simpa [JP]using this
  refine⟨hlt,?_⟩;unfold JP at hi;rw [dJ,VW hlt]at hi;injection hi with hi;exact hi.symm
 have aRA:∀i,(shL fs rs i).length=2:=fun i=>by unfold shL;rw [rG,h1,h2];rfl
 match ds,hl with
 | [d,e],_=>
  obtain⟨⟨l,q1,q2,q3⟩,⟨l',q4,q5,q6⟩,_⟩:=hs;obtain⟨p1,rfl⟩:=aN4 q1;obtain⟨p2,rfl⟩:=aN4 q4;obtain⟨r1,r2⟩:=aGf (aRA _) aN3 q3;obtain⟨r3,r4⟩:=aGf (aRA _) aN3 q6;have s1:=aCJ h (show N+1<5 by omega);have s2:=aCJ h (show N+1+1<5 by omega);refine⟨?_,?_⟩
  ·unfold iO dlF dlF dlF
   rw [r1,r3,q2,q5];simp only [eQ,Bool.or_false,Bool.and_true,dR,IR,aDa,decide_eq_false_iff_not,oN,Xv];refine⟨⟨⟨by omega,by omega⟩,by omega,by omega⟩,by decide⟩
  ·unfold nM
   simp only [OX,WA,Bool.and_true,dR,Hu];rw [r2,r4,q2,q5,Xq,Xq,s1,s2];exact⟨rfl,rfl⟩
def Handed (s s':PD):Prop:=∀i,i<s.cD.length->s'.cD.length=s.cD.length/\∃a l l',s.cD[i]? =some (a::l)/\s'.cD[i]? =some (a::l')
theorem ZF{l:List (List Nat)} (h:qK l=true){i:Nat} (hi:i<2):∃a t,l[i]? =some (a::t)/\(l.getD i []).getD 0 0=a:=by
 obtain⟨h1,h2⟩:=kX.1 h;have hl:i<l.length:=by omega
 have hm:=(h2 _ (cJ hl)).1;have e:l[i]? =some l[i]:=aQ hl;have e1:l.getD i []=l[i]:=by rw [sP,e];rfl
 rw [e,e1];generalize l[i]=c at hm
 match c,hm with
 | a::t,_=>exact⟨a,t,rfl,rfl⟩
theorem aCh{s s':PD} (h:qK s.cD=true) (e:s'.cD=s.cD):Handed s s':=fun i hi=>by
 have:=(kX.1 h).1;obtain⟨a,t,h1,_⟩:=ZF h (show i<2 by omega);exact⟨by rw [e],a,t,t,h1,by rw [e];exact h1⟩
theorem handed{s:PD} (LJ:UI s){e:En} (h0:(FD s e).2=0) (k:e.kind=4):Handed s (FD s e).1:=by
 have d:FD s e=if ¬(0<s.next.length/\e.ep=s.ep)then(s,7)else if iO e.eV=false then(s,4)else if nM s.cD e.eV=false then(s,21)else(⟨s.ep+1,s.next,FO e.eV,[],s.asked⟩,0):=by
  unfold FD;rw [aG (by omega),aG (by omega),aG (by omega),aK k]
 by_cases c2:0<s.next.length/\e.ep=s.ep
 ·by_cases c3:iO e.eV=false
  ·rw [d,aG (not_not_intro c2),aK c3]at h0;cases h0
  ·by_cases c4:nM s.cD e.eV=false
   ·rw [d,aG (not_not_intro c2),aG c3,aK c4]at h0;cases h0
   ·rw [d,aG (not_not_intro c2),aG c3,aG c4]
    have c3:iO e.eV=true:=by simpa using c3
    have c4:nM s.cD e.eV=true:=by simpa using c4
    have hep:0<s.ep:=by
     rcases OS s.ep with q | q
     ·have:=(LJ.c0 q).2;rw [this]at c2;exact aX c2.1 (by decide)
     ·exact q
    have hf:=LJ.c1 hep;have hl:=(kX.1 hf).1;have hf2:=Ji c3;have FF:=(kX.1 hf2).1;intro i hi;have Ui:i<2:=by omega
    obtain⟨a,t,p1,p2⟩:=ZF hf Ui;obtain⟨b,t',q1,q2⟩:=ZF hf2 Ui;have:=aEb hf c3 c4 Ui;rw [p2,q2]at this;subst this;exact⟨by show(FO e.eV).length=_;omega,b,t,t',p1,q1⟩
 ·rw [d,aK c2]at h0;cases h0
section
variable{M n:Nat}{x:VE}{S:Hp}{K:KV}
theorem aCi (hM:1000000<M) (hx:Deep PP bI gM M (n+1) x){s s':PD} (hl:s.cD.length<1000000) (h:Handed s s'){O O':Nat->Tag} (hK:K (.bool true) S):x.call dC [.agg (gR O s),.agg (gR O' s')] S K:=by
 refine hx.call rfl fun y hy=>?_;rw [XZ];unfold IE;refine bX IC fun w hw=>?_;have dH:bP S (aJ S w (.row (gR O s) 36)):= .aI hw;have rw1:aJ S w (.row (gR O s) 36) w=some (.row (gR O s) 36):=aB;generalize aJ S w (.row (gR O s) 36)=S1 at dH rw1;refine bX IC fun b hb=>?_;have fF:bP S1 (aJ S1 b (.row (gR O' s') 36)):= .aI hb;have rb:aJ S1 b (.row (gR O' s') 36) b=some (.row (gR O' s') 36):=aB;have rw1:=fF _ _ rw1;have le:=dH.trans fF;generalize aJ S1 b (.row (gR O' s') 36)=S2 at le rw1 rb;have w2:∀{K:KV},aU (.ptr w (0+2)) S2 K=K (.list (O 2) (dO s.cD) s.cD.length) S2:=cW rw1 rfl;have b2:∀{K:KV},aU (.ptr b (0+2)) S2 K=K (.list (O' 2) (dO s'.cD) s'.cD.length) S2:=cW rb rfl;have w2n:∀{K:KV},aU (.ptr w 2) S2 K=K (.list (O 2) (dO s.cD) s.cD.length) S2:=cW rw1 rfl;have b2n:∀{K:KV},aU (.ptr b 2) S2 K=K (.list (O' 2) (dO s'.cD) s'.cD.length) S2:=cW rb rfl;rw [hy.most]
 have go:∀(r i m:Nat),i+r=s.cD.length->r<m->mR y m (.ptr w 0) (.ptr b 0) (ni i) S2 K:=by
  intro r;induction r with
  | zero=>
   intro i m hi hm;obtain⟨m,rfl⟩:=bG (show m≠0 by omega);rw [yH];unfold qL gP gL gK gQ;refine aE ?_;rw [aZ,w2,eU,aO,jO (by omega),bC];exact bL le hK
  | succ r ih=>
   intro i m hi hm;obtain⟨m,rfl⟩:=bG (show m≠0 by omega);rw [yH];unfold qL gP gL gK gQ;refine aE ?_;have Ui:i<s.cD.length:=by omega
   obtain⟨hle,a,l,l',q1,q2⟩:=h i Ui;have hi3:i<s'.cD.length:=by omega
   have ix:∀{t:Tag} {k:V->Prop},cI 1 (.list t (dO s.cD) s.cD.length) (ni i) k=k (.nU t (dO s.cD) (i*1)):=fun {t k}=>gW Ui;have jx:∀{t:Tag} {k:V->Prop},cI 1 (.list t (dO s'.cD) s'.cD.length) (ni i) k=k (.nU t (dO s'.cD) (i*1)):=fun {t k}=>gW hi3;have g1:(dO s.cD)[i*1]? =some (.list (iV (a::l)) (a::l).length):=by rw [jQ];unfold dO;rw [dJ,q1];rfl
   have g2:(dO s'.cD)[i*1]? =some (.list (iV (a::l')) (a::l').length):=by rw [jQ];unfold dO;rw [dJ,q2];rfl
   have lx:∀{t:Tag} {K:KV},aU (.nU t (dO s.cD) (i*1)) S2 K=K (.list (.sub t (i*1)) (iV (a::l)) (a::l).length) S2:=fun {t K}=>by rw [tX,cP g1];rfl
   have ly:∀{t:Tag} {K:KV},aU (.nU t (dO s'.cD) (i*1)) S2 K=K (.list (.sub t (i*1)) (iV (a::l')) (a::l').length) S2:=fun {t K}=>by rw [tX,cP g2];rfl
   have Nf:∀{t:Tag} {z:List Nat} {k:V->Prop},cI 1 (.list t (iV (a::z)) (a::z).length) (.int .i64 (.ofNat 0)) k=k (.nU t (iV (a::z)) (0*1)):=fun {t z k}=>gW (by simp);have l0:∀{t:Tag} {z:List Nat} {K:KV},aU (.nU t (iV (a::z)) (0*1)) S2 K=K (nu a) S2:=fun {t z K}=>rfl;have l0n:∀{t:Tag} {z:List Nat} {K:KV},aU (.nU t (iV (a::z)) 0) S2 K=K (nu a) S2:=fun {t z K}=>rfl;have nq:∀{k:V->Prop},aH PP .neq 22 (nu a) (nu a) k=k (.bool false):=fun {k}=>by rw [aFJ,bF rfl];rfl
   have ln:∀{k:V->Prop},aH PP .neq 3 (ni s'.cD.length) (ni s.cD.length) k=k (.bool false):=fun {k}=>by rw [tZ,bF hle];rfl
   rw [aZ,w2,eU,aO,yQ Ui,bR]
   repeat (first | rw [aF] | rw [aM] | rw [kD] | rw [wR] | rw [IF] | rw [dW] | rw [dS] | rw [kY] | rw [oQ] | rw [yI] | rw [CX] | rw [aZ] | rw [w2] | rw [b2] | rw [w2n] | rw [b2n] | rw [eU] | rw [ix] | rw [jx] | rw [lx] | rw [ly] | rw [Nf] | rw [l0] | rw [l0n] | rw [nq] | rw [ln] | dsimp only)
   rw [bC,bD (by omega)];exact ih (i+1) m (by omega) (by omega)
 exact go s.cD.length 0 M (by omega) (by omega)
end
section
variable{M n:Nat}{x:VE}{S:Hp}{K:KV}
theorem Jj (QV:140737488355328<M) (hx:Deep PP bI gM M (n+23) x){y t j m i:Nat}{cells cs:List V}{s:PD}{OC:V}{O:Nat->Tag} (R:Hp->Prop) (Q:En->V->Prop)
 (hR:∀S3 S4:Hp,(∀i o,i≠y->S3 i=some o->S4 i=some o)->R S3->R S4)
 (rj:S j=some (.row cells 45)) (hi:i<3) (Du:i*9+9<=cells.length) (hc:(cells.drop (i*9)).take 9=cs) (h9:cs.length=9) (ho:cs.all fV=true) (hso:BY (.agg cs)=true)
 (ry:S y=some (.row (PR true t OC O s) 38)) (LJ:UI s) (hep:s.ep<1000000)
 (aS0:∀(S2:Hp) (K2:KV) (w:Nat),bP S S2->S2 w=some (.row (gR O s) 36)->S w=none->(∀e Oe S3 wQ,Q e wQ->R S3->Ly e->(FD s e).2=0->Handed s (FD s e).1->S3 y=some (.row (PR true t wQ O s) 38)->S3 w=some (.row (gR O s) 36)->K2 (.agg (ND Oe e)) S3)->x.call cZ [.ptr y 0,.agg cs] S2 K2)
 (next:∀e S4 wQ O',Q e wQ->R S4->(FD s e).2=0->S4 y=some (.row (PR true t wQ O' (FD s e).1) 38)->dD x m (.ptr y 0) (.func dC [] []) (.own j 0 3 3) (ni 3) (ni (i+1)) S4 K):
 dD x (m+1) (.ptr y 0) (.func dC [] []) (.own j 0 3 3) (ni 3) (ni i) S K:=by
 have hM:1000000<M:=by omega
 have hz:=LJ.sz hep;rw [vB];unfold oA gP gL gK gC gQ;refine aE ?_;rw [aO,yQ hi,bR];refine⟨hi,?_⟩;dsimp only;rw [qB rj,dX,dG Du,hc];refine cB (l:=[n8 0,ni 0,ni 0,.nil,.nil,.nil,.nil,n8 0,ni 0]) rfl fun a ha=>?_;refine gO (n:=9) (i:=a) aB ho h9 rfl ?_;rw [eS];have dH:bP S (aJ S a (.row cs 45)):= .aI ha;have ra:aJ S a (.row cs 45) a=some (.row cs 45):=aB;have ry1:=dH _ _ ry;generalize aJ S a (.row cs 45)=S1 at dH ra ry1;rw [cX,aZ,aJ3 ry1];refine zp5 fun w hw=>?_;refine aAu aB ?_;rw [eS];have Cu:=dH.none hw;have fF:bP S1 (aJ S1 w (.row (gR O s) 36)):= .aI hw;have rw2:aJ S1 w (.row (gR O s) 36) w=some (.row (gR O s) 36):=aB;have XY:=fF _ _ ry1;have ra2:=fF _ _ ra;have DC:=dH.trans fF;generalize aJ S1 w (.row (gR O s) 36)=S2 at DC rw2 XY ra2;rw [cX,aV,aEa XY];refine dZ (n:=5) (i:=w) rw2 rfl ?_;refine dZ (n:=9) (i:=a) ra2 h9 ?_;refine dZ (n:=9) (i:=a) ra2 h9 ?_;rw [cK hso];refine dZ (n:=5) (i:=w) rw2 rfl ?_;rw [IG,aEa XY,TD];refine⟨zp5 fun _ _=>trivial,?_⟩;refine aS0 S2 _ w DC rw2 Cu fun e Oe S3 wQ hq hr aPv h0 hh ry3 rw3=>?_;refine dZ (n:=5) (i:=w) rw3 rfl ?_;rw [IG,aEa ry3,TD];refine dZ (n:=5) (i:=w) rw3 rfl ?_;rw [IG,aEa ry3,TD];refine⟨zp5 fun _ _=>trivial,?_⟩;refine aRi (n:=n+9) (two:=true) QV hx LJ hz aPv fun O2z=>?_;refine dB (v:= .agg (gR O2z (FD s e).1)) rfl ?_;refine dB (v:=ni (FD s e).2) rfl ?_;refine⟨zp5 fun _ _=>trivial,?_⟩;refine zp5 fun b hb=>?_;refine aAu aB ?_;rw [eS];have HI:bP S3 (aJ S3 b (.row (gR O2z (FD s e).1) 36)):= .aI hb;have rb:aJ S3 b (.row (gR O2z (FD s e).1) 36) b=some (.row (gR O2z (FD s e).1) 36):=aB;have Gn:=HI _ _ ry3;have rw4:=HI _ _ rw3;have hr4:=hR _ _ (fun i o _ h=>HI _ _ h) hr;generalize aJ S3 b (.row (gR O2z (FD s e).1) 36)=S4 at rb Gn rw4 hr4;show aH PP .neq 46 (ni (FD s e).2) (ni 0) _;rw [h0,tZ,bF rfl,eQ];rw [aF,aM];try dsimp only
 rw [aF,aM];try dsimp only
 refine dZ (n:=5) (i:=w) rw4 rfl ?_
 try dsimp only
 rw [aF,aM];try dsimp only
 refine dZ (n:=5) (i:=b) rb rfl ?_
 try dsimp only
 rw [aF,aM];try dsimp only
 refine aCi (n:=n+22) hM hx hz.cD hh ?_
 try dsimp only
 rw [aF,aM,lR,eQ];try dsimp only
 rw [aF,dS,bC];refine dZ (n:=5) (i:=b) rb rfl ?_;rw [cX,aZ];refine aRg (O':=O2z) (s':=(FD s e).1) Gn ?_;rw [bD (by omega)];exact next e _ wQ O2z hq (hR _ _ (fun i o h1 h2=>by rw [aC h1];exact h2) hr4) h0 aB
end
def hC1:List V:=[n8 1,ni 5,ni 0,.nil,.nil,.nil,.nil,n8 1,ni 0]
def hC2 (q:Nat):List V:=[n8 3,ni 0,ni 0,.nil,.nil,.own q 0 4 4,.nil,n8 1,ni 0]
def hC3 (fr:Int):List V:=[n8 4,ni 0,ni 0,.nil,.nil,.nil,.nil,n8 1,.int .i64 fr]
def hC (q:Nat) (fr:Int):List V:=hC1++(hC2 q++hC3 fr)
section
variable{M n:Nat}{x:VE}{S:Hp}{K:KV}
theorem NE{a b:Nat} (h:Nat.ble a b=true):a<=b:=cG h
theorem aJ7 (hM:1000000<M) (hx:Deep PP bI gM M (n+23) x){y t j m:Nat}{s:PD}{OC:V}{O:Nat->Tag} (ry:S y=some (.row (PR true t OC O s) 38)) (hep:s.ep=2) (hf:qK s.cD=true) (hK:∀S',K (.bool true) S'):
 dD x (m+1) (.ptr y 0) (.func dC [] []) (.own j 0 3 3) (ni 3) (ni 3) S K:=by
 rw [vB];unfold oA gP gL gK gC gQ;refine aE ?_;have hl:=(kX.1 hf).1;obtain⟨a,l,h1,_⟩:=ZF hf (show 0<2 by decide)
 have ha:Aa a=true:=by
  have:=((kX.1 hf).2 _ (BJ h1)).2 a (.head _);exact this
 have aS1:a<18446744073709551616:=by have:=TB ha;omega
 have e0:∀{K:KV},aU (.ptr y (0+14+0)) S K=K (ni s.ep) S:=fun {K}=>cW ry (by rw [Wt];rfl);have e0n:∀{K:KV},aU (.ptr y 14) S K=K (ni s.ep) S:=fun {K}=>cW ry rfl;have e0m:∀{K:KV},aU (.ptr y (0+14)) S K=K (ni s.ep) S:=fun {K}=>cW ry rfl;have c2:∀{K:KV},aU (.ptr y (0+14+2)) S K=K (.list (O 2) (dO s.cD) s.cD.length) S:=fun {K}=>cW ry (by rw [Wt];rfl);have c2n:∀{K:KV},aU (.ptr y 16) S K=K (.list (O 2) (dO s.cD) s.cD.length) S:=fun {K}=>cW ry (by exact(Wt (k:=2)).trans rfl);have c2m:∀{K:KV},aU (.ptr y (14+2)) S K=K (.list (O 2) (dO s.cD) s.cD.length) S:=c2n;have lp:∀{K:KV},bJ 12 (.ptr y 0) S K=K (.agg (pv true)) S:=aEa ry;have ix:∀{t:Tag} {k:V->Prop},cI 1 (.list t (dO s.cD) s.cD.length) (.int .i64 (.ofNat 0)) k=k (.nU t (dO s.cD) (0*1)):=fun {t k}=>gW (by omega);have g1:(dO s.cD)[0*1]? =some (.list (iV (a::l)) (a::l).length):=by rw [jQ];unfold dO;rw [dJ,h1];rfl
 have g1n:(dO s.cD)[0]? =some (.list (iV (a::l)) (a::l).length):=g1;have lx:∀{t:Tag} {K:KV},aU (.nU t (dO s.cD) (0*1)) S K=K (.list (.sub t (0*1)) (iV (a::l)) (a::l).length) S:=fun {t K}=>by rw [tX,cP g1];rfl
 have lxn:∀{t:Tag} {K:KV},aU (.nU t (dO s.cD) 0) S K=K (.list (.sub t 0) (iV (a::l)) (a::l).length) S:=fun {t K}=>by rw [tX,cP g1n];rfl
 have Nf:∀{t:Tag} {z:List Nat} {k:V->Prop},cI 1 (.list t (iV (a::z)) (a::z).length) (.int .i64 (.ofNat 0)) k=k (.nU t (iV (a::z)) (0*1)):=fun {t z k}=>gW (by simp);have l0:∀{t:Tag} {z:List Nat} {K:KV},aU (.nU t (iV (a::z)) (0*1)) S K=K (nu a) S:=fun {t z K}=>rfl;have l0n:∀{t:Tag} {z:List Nat} {K:KV},aU (.nU t (iV (a::z)) 0) S K=K (nu a) S:=fun {t z K}=>rfl;have sm:∀{t:Tag} {cs:List Dt} {n:Nat} {p:Prop},aW (.list t cs n) (.list t cs n) p=p:=fun {t cs n p}=>cK rfl;have eq2:∀{k:V->Prop},aH PP .eql 3 (ni s.ep) (.int .i64 (.ofNat 2)) k=k (.bool true):=fun {k}=>by show aH PP .eql 3 (ni s.ep) (ni 2) k=_;rw [JA,hep];rfl
 rw [aO,jO (by decide),bC,cX,aZ]
 repeat (first | rw [aF] | rw [aM] | rw [kD] | rw [wR] | rw [IF] | rw [dW] | rw [dS] | rw [kY] | rw [oQ] | rw [yI] | rw [CX] | rw [cX] | rw [aV] | rw [aZ] | rw [lp] | rw [e0] | rw [e0n] | rw [e0m] | rw [c2] | rw [c2n] | rw [c2m] | rw [eq2] | rw [ix] | rw [lx] | rw [lxn] | rw [Nf] | rw [l0] | rw [l0n] | rw [sm] | rw [cM] | rw [(lR)] | dsimp only)
 refine aRj (n:=n+20) (two:=true) hM hx aS1 ?_;rw [ha]
 repeat (first | rw [aF] | rw [aM] | rw [kD] | rw [wR] | rw [IF] | rw [dW] | rw [dS] | rw [kY] | rw [oQ] | rw [yI] | rw [CX] | rw [cX] | rw [aV] | rw [aZ] | rw [lp] | rw [e0] | rw [e0n] | rw [e0m] | rw [c2] | rw [c2n] | rw [c2m] | rw [eq2] | rw [ix] | rw [lx] | rw [lxn] | rw [Nf] | rw [l0] | rw [l0n] | rw [sm] | rw [cM] | rw [(lR)] | dsimp only)
 refine hx.call rfl fun w hw=>?_;rw [Uu];unfold Bd;rw [eU];show aH PP .neq 3 (ni s.cD.length) (ni 0) _;rw [tZ,bN (by omega),BN,bR];refine aL ?_
 repeat (first | rw [aF] | rw [aM] | rw [kD] | rw [wR] | rw [IF] | rw [dW] | rw [dS] | rw [kY] | rw [oQ] | rw [yI] | rw [CX] | rw [cX] | rw [aV] | rw [aZ] | rw [lp] | rw [e0] | rw [e0n] | rw [e0m] | rw [c2] | rw [c2n] | rw [c2m] | rw [eq2] | rw [ix] | rw [lx] | rw [lxn] | rw [Nf] | rw [l0] | rw [l0n] | rw [sm] | rw [cM] | rw [(lR)] | dsimp only)
 exact aL (hK _)
end
def hS1 (c:List (List Nat)):PD:=⟨1,[1,2,3,4],c,[],[]⟩
def Wu (c:List (List Nat)):PD:=⟨1,[1,2,3,4],c,[1,2,3,5],[]⟩
def hS3 (ds:List (Int×List (List Nat))):PD:=⟨2,[1,2,3,5],FO ds,[],[]⟩
theorem aFY{fs rs:List (List Nat)} (h:qK (dY fs rs)=true):FD Gl (Bb fs rs)=(hS1 (dY fs rs),0):=by
 unfold FD;rw [aK (show(Bb fs rs).kind=1 from rfl),aG (show ¬Gl.ep≠0 from fun h=>h rfl),aG (show ¬qK (Bb fs rs).cD=false from fun h2=>by rw [show(Bb fs rs).cD=dY fs rs from rfl,h]at h2;cases h2)];rfl
theorem aEc{c:List (List Nat)}:FD (hS1 c) (Jg (hS1 c) [1,2,3,5])=(Wu c,0):=by
 unfold FD
 rw [aG (show ¬(Jg (hS1 c) [1,2,3,5]).kind=1 from fun h=>by cases h),aG (show ¬(Jg (hS1 c) [1,2,3,5]).kind=2 from fun h=>by cases h),aK (show(Jg (hS1 c) [1,2,3,5]).kind=3 from rfl),aG (show ¬(hS1 c).ep=0 from fun h=>by cases h),
  aG (show ¬¬((hS1 c).next.length=0/\(Jg (hS1 c) [1,2,3,5]).ep=(hS1 c).ep)from fun h=>h ⟨rfl,rfl⟩),aG (show ¬FN (Jg (hS1 c) [1,2,3,5]).next=false from fun h=>by rw [show(Jg (hS1 c) [1,2,3,5]).next=[1,2,3,5]from rfl,aJ6]at h;cases h)]
 rfl
theorem aFZ{c:List (List Nat)}{ds:List (Int×List (List Nat))} (h1:iO ds=true) (h2:nM c ds=true):FD (Wu c) (JQ (Wu c) ds)=(hS3 ds,0):=by
 unfold FD
 rw [aG (show ¬(JQ (Wu c) ds).kind=1 from fun h=>by cases h),aG (show ¬(JQ (Wu c) ds).kind=2 from fun h=>by cases h),aG (show ¬(JQ (Wu c) ds).kind=3 from fun h=>by cases h),aK (show(JQ (Wu c) ds).kind=4 from rfl),
  aG (show ¬¬(0<(Wu c).next.length/\(JQ (Wu c) ds).ep=(Wu c).ep)from fun h=>h ⟨cG rfl,rfl⟩),aG (show ¬iO (JQ (Wu c) ds).eV=false from fun h=>by rw [show(JQ (Wu c) ds).eV=ds from rfl,h1]at h;cases h),
  aG (show ¬nM (Wu c).cD (JQ (Wu c) ds).eV=false from fun h=>by rw [show nM (Wu c).cD (JQ (Wu c) ds).eV=nM c ds from rfl,h2]at h;cases h)]
 rfl
theorem aMP{x:Nat}{fs rs:List (List Nat)} (h:XX x fs rs):Ly (Bb fs rs):=by
 obtain⟨g1,g2⟩:=aAt h;exact⟨(by decide:1<256),(by decide:0<1000000),aFW g1 g2,(by decide:0<1000000),(by decide:0<1000000),fun d hd=>by cases hd⟩
theorem aPw{s:PD}:Ly (Jg s [1,2,3,5]):=⟨(by decide:3<256),(by decide:0<1000000),⟨(by decide:0*24<=140737488355328),fun c hc=>by cases hc⟩,(by decide:4<1000000),(by decide:0<1000000),fun d hd=>by cases hd⟩
theorem aMQ{s:PD}{sh:List (List (Nat×Nat))} (hs:∀l∈sh,l.length=2){N:Nat}{ds:List (Int×List (List Nat))} (h:GS sh N ds) (hl:ds.length=2):Ly (JQ s ds):=by
 have hz:=h.sz hs;refine⟨(by decide:4<256),(by decide:0<1000000),⟨(by decide:0*24<=140737488355328),fun c hc=>by cases hc⟩,(by decide:0<1000000),?_,fun d hd=>aFW (hz d hd).1 (hz d hd).2⟩;show ds.length<1000000;omega
theorem aMR{Sb S':Hp}{q:Nat} (h:S' q=some (.row [ni 1,ni 2,ni 3,ni 5] 3)) (h0:Sb q=none):Dx Sb S' (.own q 0 4 4) (.list (lK [1,2,3,5]) 4):=by
 refine .own h h0 (bO 4) (bO 4) fun j v d e1 e2=>?_;rw [dX]at e1
 match j with
 | 0=>injection e1 with e1;injection e2 with e2;subst e1 e2;exact .int
 | 1=>injection e1 with e1;injection e2 with e2;subst e1 e2;exact .int
 | 2=>injection e1 with e1;injection e2 with e2;subst e1 e2;exact .int
 | 3=>injection e1 with e1;injection e2 with e2;subst e1 e2;exact .int
 | j+4=>simp at e1
section
variable{M n:Nat}{x:VE}{S:Hp}{K:KV}
theorem aCj (QV:140737488355328<M) (hx:Deep PP bI gM M (n+23) x){y t j q m:Nat}{fr:Int}{O:Nat->Tag}{s0:BitVec 64} (hyt:y≠t) (hjy:j≠y) (hjt:j≠t) (hqy:q≠y) (hqt:q≠t) (hqj:q≠j) (ry:S y=some (.row (PR true t .nil O Gl) 38)) (tp:iW S t s0 [] 0) (rj:S j=some (.row (hC q fr) 45)) (rq:S q=some (.row [ni 1,ni 2,ni 3,ni 5] 3)) (hK:∀S',K (.bool true) S'):
 dD x (m+3+1) (.ptr y 0) (.func dC [] []) (.own j 0 3 3) (ni 3) (ni 0) S K:=by
 have hM:1000000<M:=by omega
 refine Jj (n:=n) (m:=m+3) QV hx (j:=j) (cells:=hC q fr) (cs:=hC1) (s:=Gl) (fun S3=>S3 j=some (.row (hC q fr) 45)/\S3 q=some (.row [ni 1,ni 2,ni 3,ni 5] 3)/\∃s' PQ,iW S3 t s' PQ 6) (fun e OC=>∃N fs rs,XX N fs rs/\e=Bb fs rs/\Shs OC (JP fs rs))
  (fun S3 S4 h1 ⟨h2,h3,s',PQ,w,h4,h5⟩=>⟨h1 _ _ hjy h2,h1 _ _ hqy h3,s',PQ,w,h1 _ _ (aN hyt) h4,h5⟩) rj (by decide) (NE rfl) rfl rfl rfl rfl ry aAv (by decide) ?_ ?_
 ·intro S2 K2 w hle rw2 Cu hk
  obtain⟨wt,ht1,Ti⟩:=tp;refine La (n:=n+6) (aNV:=[]) (fr:=0) (id:=5) hM hx rfl rfl rfl rfl rfl .no (hle _ _ ry) (by decide:0<300000) ⟨wt,hle _ _ ht1,Ti⟩ fun N fs rs wQ O' S' hN hm kp ry' hs' tp'=>?_;have hf:=aF0 hm;have hwt:w≠t:=fun c=>by rw [c,ht1]at Cu;cases Cu
  have hwy:w≠y:=fun c=>by rw [c,ry]at Cu;cases Cu
  rw [aK (show Gl.ep=0 from rfl)]at hs';exact hk _ O' S' wQ ⟨_,fs,rs,hm,rfl,hs'⟩ ⟨kp _ _ hjt hjy (hle _ _ rj),kp _ _ hqt hqy (hle _ _ rq),tp'⟩ (aMP hm) (by rw [aFY hf]) (fun i hi=>aX hi (Nat.not_lt_zero _)) ry' (kp _ _ hwt hwy rw2)
 intro e S1 OC O1 ⟨N,fs,rs,hm,he,hsh⟩ ⟨rj1,rq1,s1,ah1,tp1⟩ _ ry1;subst he;have hf:=aF0 hm;have ok1:=aAv.step (Bb fs rs);rw [aFY hf]at ry1 ok1
 refine Jj (n:=n) (m:=m+2) QV hx (j:=j) (cells:=hC q fr) (cs:=hC2 q) (s:=hS1 (dY fs rs)) (fun S3=>S3 j=some (.row (hC q fr) 45)/\iW S3 t s1 ah1 6) (fun e wQ=>e=Jg (hS1 (dY fs rs)) [1,2,3,5]/\wQ=OC)
  (fun S3 S4 h1 ⟨h2,w,h4,h5⟩=>⟨h1 _ _ hjy h2,w,h1 _ _ (aN hyt) h4,h5⟩) rj1 (by decide) (NE rfl) rfl rfl rfl rfl ry1 ok1 (by decide:1<1000000) ?_ ?_
 ·intro S2 K2 w hle rw2 Cu hk
  obtain⟨wt,ht1,Ti⟩:=tp1;have hwq:w≠q:=fun c=>by rw [c,rq1]at Cu;cases Cu
  let Sb:Hp:=fun i=>if i=q then none else S2 i
  have eq0:Sb q=none:=aK rfl;have eo:∀{i:Nat},i≠q->Sb i=S2 i:=fun {i} h=>aG h
  have hlb:bP Sb S2:=fun i o h=>by
   by_cases c:i=q
   ·rw [c,eq0]at h;cases h
   ·rw [eo c]at h;exact h
  refine Gp (n:=n+22) hx (l:=[1,2,3,5]) (vn:= .own q 0 4 4) (Sb:=Sb) rfl rfl rfl rfl (hle _ _ ry1) hlb rfl rfl (fun {S'} h=>aMR (h _ _ (hle _ _ rq1)) eq0) fun O'=>?_;exact hk _ O' Sb OC ⟨rfl,rfl⟩ ⟨by rw [eo (aN hqj)];exact hle _ _ rj1,wt,by rw [eo (aN hqt)];exact hle _ _ ht1,Ti⟩ aPw (by rw [aEc]) (by rw [aEc];exact aCh hf rfl) (by rw [eo (aN hqy)];exact hle _ _ ry1) (by rw [eo hwq];exact rw2)
 intro e S2 wQ O2z ⟨he,aS2⟩ ⟨rj2,tp2⟩ _ XY;subst he aS2;have ok2:=ok1.step (Jg (hS1 (dY fs rs)) [1,2,3,5]);rw [aEc]at XY ok2
 refine Jj (n:=n) (m:=m+1) QV hx (j:=j) (cells:=hC q fr) (cs:=hC3 fr) (s:=Wu (dY fs rs)) (fun S3=>True) (fun e wQ=>∃N ds,N<3/\GS (JP fs rs) N ds/\ds.length=2/\e=JQ (Wu (dY fs rs)) ds)
  (fun S3 S4 h1 _=>trivial) rj2 (by decide) (NE rfl) rfl rfl rfl rfl XY ok2 (by decide:1<1000000) ?_ ?_
 ·intro S3 K2 w hle rw2 Cu hk
  obtain⟨wt,ht1,Ti⟩:=tp2;have hwt:w≠t:=fun c=>by rw [c,ht1]at Cu;cases Cu
  have hwy:w≠y:=fun c=>by rw [c,XY]at Cu;cases Cu
  refine Lb (n:=n) hM hx (fr:=fr) rfl rfl rfl rfl rfl hsh (hle _ _ XY) (by decide:6<300000) ⟨wt,hle _ _ ht1,Ti⟩ fun N ds O' S' hN hs hl kp ry' tp'=>?_;have hl:ds.length=2:=by rw [hl,aK (aJZ hm).1]
  obtain⟨d1,d2⟩:=aF1 hm hN hs hl;have hd:(FD (Wu (dY fs rs)) (JQ (Wu (dY fs rs)) ds)).2=0:=by rw [aFZ d1 d2]
  exact hk _ O' S' _ ⟨N,ds,hN,hs,hl,rfl⟩ trivial (aMQ hsh.two hs hl) hd (handed ok2 hd rfl) ry' (kp _ _ hwt hwy rw2)
 intro e S3 wQ O3 ⟨N,ds,hN,hs,hl,he⟩ _ _ ry3;subst he;obtain⟨d1,d2⟩:=aF1 hm hN hs hl;rw [aFZ d1 d2]at ry3;exact aJ7 (n:=n) (m:=m) hM hx ry3 rfl (Ji d1) hK
end
section
variable{M n:Nat}{x:VE}{S:Hp}{K:KV}{O:Nat->Tag}
theorem aEd (QV:140737488355328<M) (hx:Deep PP bI gM M (n+23) x){m i y0:Nat}{Ol:Tag}{ts:List Tu} (hi:ts.length<=i){N vx:Nat}{fr:Int}{vs5:List V} (hN:FC N) (rv:S vx=some (.row vs5 45)) (h8:vs5[0+8]? =some (.int .i64 fr)) (hK:∀S',K (.bool true) S'):
 fR x (m+1) (nu N) (.list Ol (Gh ts) ts.length) (.ptr vx 0) (.ptr y0 0) (.func dC [] []) (ni i) S K:=by
 have hM:1000000<M:=by omega
 rw [xG];unfold pL gP gL gK gQ;refine aE ?_;rw [eU,aO,jO (by omega),bC];refine aFT (n:=n+20) hM hx hN fun y t s0 O S1 hs hy ht hyt ry tp=>?_;have rv1:=hs _ _ rv;obtain⟨M',DH⟩:∃k,M=k+3+1:=⟨M-4,by omega⟩;have b1:∀{k:V->Prop},k (.agg [n8 1,ni 5,ni 0,.nil,.nil,.nil,.nil])->cF vR [(0,1,n8 1),(1,1,ni 5)] k:=fun {k} hk=>⟨rfl,NE rfl,rfl,NE rfl,hk⟩;have b2:∀{k:V->Prop},k (.agg hC1)->cF TE [(0,7,.agg [n8 1,ni 5,ni 0,.nil,.nil,.nil,.nil]),(7,1,n8 1)] k:=fun {k} hk=>⟨rfl,rfl,NE rfl,rfl,NE rfl,hk⟩;have b3:∀{S:Hp} {K:KV},(∀q,S q=none->K (.own q 0 4 4) (aJ S q (.row [ni 1,ni 2,ni 3,ni 5] 3)))->aP 3 4 EN [(0,1,ni 1),(1,1,ni 2),(2,1,ni 3),(3,1,ni 5)] S K:=fun {S K} hk=>⟨rfl,NE rfl,rfl,NE rfl,rfl,NE rfl,rfl,NE rfl,hk⟩;have b4:∀{q:Nat} {k:V->Prop},k (.agg [n8 3,ni 0,ni 0,.nil,.nil,.own q 0 4 4,.nil])->cF vR [(0,1,n8 3),(5,1,.own q 0 4 4)] k:=fun {q k} hk=>⟨rfl,NE rfl,rfl,NE rfl,hk⟩;have b5:∀{q:Nat} {k:V->Prop},k (.agg (hC2 q))->cF TE [(0,7,.agg [n8 3,ni 0,ni 0,.nil,.nil,.own q 0 4 4,.nil]),(7,1,n8 1)] k:=fun {q k} hk=>⟨rfl,rfl,NE rfl,rfl,NE rfl,hk⟩;have b6:∀{k:V->Prop},k (.agg [n8 4,ni 0,ni 0,.nil,.nil,.nil,.nil])->cF vR [(0,1,n8 4)] k:=fun {k} hk=>⟨rfl,NE rfl,hk⟩;have b7:∀{k:V->Prop},k (.agg (hC3 fr))->cF TE [(0,7,.agg [n8 4,ni 0,ni 0,.nil,.nil,.nil,.nil]),(7,1,n8 1),(8,1,.int .i64 fr)] k:=fun {k} hk=>⟨rfl,rfl,NE rfl,rfl,NE rfl,rfl,NE rfl,hk⟩;have b8:∀{q:Nat} {S:Hp} {K:KV},(∀j,S j=none->K (.own j 0 3 3) (aJ S j (.row (hC q fr) 45)))->aP 45 3 TE [(0,9,.agg hC1),(9,9,.agg (hC2 q)),(18,9,.agg (hC3 fr))] S K:=fun {q S K} hk=>⟨rfl,rfl,NE rfl,rfl,rfl,NE rfl,rfl,rfl,NE rfl,hk⟩;refine b1 ?_;refine b2 ?_;refine b3 fun q hq=>?_;have hqy:q≠y:=fun c=>by rw [c,ry]at hq;cases hq
 obtain⟨wt,ht1,Ti⟩:=tp;have hqt:q≠t:=fun c=>by rw [c,ht1]at hq;cases hq
 have fF:bP S1 (aJ S1 q (.row [ni 1,ni 2,ni 3,ni 5] 3)):= .aI hq;have rq:aJ S1 q (.row [ni 1,ni 2,ni 3,ni 5] 3) q=some (.row [ni 1,ni 2,ni 3,ni 5] 3):=aB;have XY:=fF _ _ ry;have rt2:=fF _ _ ht1;have ZG:=fF _ _ rv1;generalize aJ S1 q (.row [ni 1,ni 2,ni 3,ni 5] 3)=S2 at rq XY rt2 ZG;refine b4 ?_;refine b5 ?_;refine b6 ?_;rw [aZ,cW (o:=0+8) ZG h8];refine b7 ?_;refine b8 fun j hj=>?_;have hjy:j≠y:=fun c=>by rw [c,XY]at hj;cases hj
 have hjt:j≠t:=fun c=>by rw [c,rt2]at hj;cases hj
 have hqj:q≠j:=fun c=>by rw [<-c,rq]at hj;cases hj
 have pK:bP S2 (aJ S2 j (.row (hC q fr) 45)):= .aI hj;show dD x x.most (.ptr y 0) (.func dC [] []) (.own j 0 3 3) (ni 3) (ni 0) _ K;rw [hx.most,DH];exact aCj (n:=n) (M:=M) (m:=M') QV hx hyt hjy hjt hqy hqt hqj (pK _ _ XY) ⟨wt,pK _ _ rt2,Ti⟩ aB (pK _ _ rq) hK
theorem aJ8 (QV:140737488355328<M) (hx:Deep PP bI gM M (n+23) x){Ol:Tag}{ts:List Tu} (Rc:∀u∈ts,Gi u) (Ws:∀u∈ts,aHn u) (hl:ts.length<=150){N vx:Nat}{fr:Int}{vs5:List V} (hN:FC N) (h8:vs5[0+8]? =some (.int .i64 fr)) (hK:∀S',K (.bool true) S'){y t:Nat} (hyt:y≠t) (hvy:vx≠y) (hvt:vx≠t):
 ∀(q i m:Nat) (s:PD) (sh:List (List (Nat×Nat))) (OC:V) (O:Nat->Tag) (S:Hp),i+q=ts.length->q<m->UI s->s.ep<=i->Shs OC sh->S vx=some (.row vs5 45)->S y=some (.row (PR true t OC O s) 38)->(∃s' PQ d',d'<=24*i/\iW S t s' PQ d')->fR x m (nu N) (.list Ol (Gh ts) ts.length) (.ptr vx 0) (.ptr y 0) (.func dC [] []) (ni i) S K:=by
 have hM:1000000<M:=by omega
 have aTo:x.most≠0:=by rw [hx.most];omega
 intro q;induction q with
 | zero=>
  intro i m s sh OC O S hi hm LJ hep hsh rv ry tp;obtain⟨m,rfl⟩:=bG (show m≠0 by omega);exact aEd (n:=n) QV hx (by omega) hN rv h8 hK
 | succ q ih=>
  intro i m s sh OC O S hi hm LJ hep hsh rv ry tp;obtain⟨m,rfl⟩:=bG (show m≠0 by omega);rw [xG];unfold pL gP gL gK gQ;refine aE ?_;have hlt:i<ts.length:=by omega
  have hu:ts[i]? =some ts[i]:=aQ hlt;have hur:=(Rc _ (cJ hlt)).sz (Ws _ (cJ hlt));generalize ts[i]=u at hu hur;obtain⟨s0,ah0,d0,hd0,tp⟩:=tp;rw [eU,aO,yQ hlt,bR,cX,aZ,aJ3 ry,gW hlt,tu9 hu,tu9 hu,aMN,aJ3 ry,IG];refine⟨zp5 fun _ _=>trivial,ze7 fun _ _=>trivial,?_⟩;refine aMM (n:=n) hM hx hsh ry (by omega) tp fun e sh' wQ Oe S1 hen kp ry1 aS3 tp1=>?_;have aPv:=hen.sz hsh hur;rw [aJ3 ry1,IG,aJ3 ry1,IG];refine⟨zp5 fun _ _=>trivial,ze7 fun _ _=>trivial,?_⟩;refine zp5 fun w hw=>?_;refine ze7 fun g hg=>?_;obtain⟨leW,hwg,hg0⟩:=aMO (b:= .row [] 0) hw hg (.row (gR O s) 36) (.row (ND Oe e) 42);refine aAu (i:=w) (by rw [aC hwg];exact aB) ?_;refine aRh (i:=g) (by rw [aC (aN hwg)];exact aB) ?_
  have eq3:aJ (aJ (aJ (aJ S1 w (.row [ni 0,.nil,.nil,.nil,.nil] 36)) g (.row [n8 0,ni 0,ni 0,.nil,.nil,.nil,.nil] 42)) w (.row (gR O s) 36)) g (.row (ND Oe e) 42)=aJ (aJ S1 w (.row (gR O s) 36)) g (.row (ND Oe e) 42):=by
   funext j
   by_cases c1:j=g
   ·rw [c1,aB,aB]
   ·rw [aC c1,aC c1]
    by_cases c2:j=w
    ·rw [c2,aB,aB]
    ·rw [aC c2,aC c2,aC c1,aC c2]
  rw [eq3];have rw2:aJ (aJ S1 w (.row (gR O s) 36)) g (.row (ND Oe e) 42) w=some (.row (gR O s) 36):=by rw [aC hwg];exact aB
  have rg2:aJ (aJ S1 w (.row (gR O s) 36)) g (.row (ND Oe e) 42) g=some (.row (ND Oe e) 42):=aB;have XY:=leW _ _ ry1;have ZG:=leW _ _ (kp _ _ hvt hvy rv);obtain⟨s9,ah9,d9,hd9,w9,q9,u9⟩:=tp1;have rt2:=leW _ _ q9;have hwy:w≠y:=fun c=>by rw [c,ry1]at hw;cases hw
  have hgy:g≠y:=fun c=>by rw [c,ry1]at hg0;cases hg0
  clear eq3 leW hg;generalize aJ (aJ S1 w (.row (gR O s) 36)) g (.row (ND Oe e) 42)=S2 at rw2 rg2 XY rt2 ZG;rw [cX,aV,aEa XY];refine dZ (n:=5) (i:=w) rw2 rfl ?_;refine dZ (n:=7) (i:=g) rg2 rfl ?_;refine dZ (n:=7) (i:=g) rg2 rfl ?_;rw [Np];refine dZ (n:=5) (i:=w) rw2 rfl ?_;rw [IG,aEa XY,TD];refine⟨zp5 fun _ _=>trivial,?_⟩;have hz:=LJ.sz (show s.ep<1000000 by omega);refine aRi (n:=n+9) (two:=true) QV hx LJ hz aPv fun O2z=>?_;have aPx:=LJ.step e;have aS4:=aPu s e;have hh:=handed LJ (e:=e);refine dB (v:= .agg (gR O2z (FD s e).1)) rfl ?_;refine dB (v:=ni (FD s e).2) rfl ?_;generalize (FD s e).1=s' at aPx aS4 hh;generalize (FD s e).2=code at hh;refine⟨zp5 fun _ _=>trivial,?_⟩;refine zp5 fun b hb=>?_;refine aAu aB ?_;rw [eS];have dH:bP S2 (aJ S2 b (.row (gR O2z s') 36)):= .aI hb;have rb:aJ S2 b (.row (gR O2z s') 36) b=some (.row (gR O2z s') 36):=aB;have hby:b≠y:=fun c=>by rw [c,XY]at hb;cases hb
  have rw3:=dH _ _ rw2;have rg3:=dH _ _ rg2;have ry3:=dH _ _ XY;have rt3:=dH _ _ rt2;have rv3:=dH _ _ ZG;generalize aJ S2 b (.row (gR O2z s') 36)=S3 at rb rw3 rg3 ry3 rt3 rv3;refine dZ (n:=5) (i:=b) rb rfl ?_;rw [cX,aZ];refine aRg (O':=O2z) (s':=s') ry3 ?_;have Gn:aJ S3 y (.row (PR true t wQ O2z s') 38) y=some (.row (PR true t wQ O2z s') 38):=aB;have rb4:aJ S3 y (.row (PR true t wQ O2z s') 38) b=some (.row (gR O2z s') 36):=by rw [aC hby];exact rb
  have rw4:aJ S3 y (.row (PR true t wQ O2z s') 38) w=some (.row (gR O s) 36):=by rw [aC hwy];exact rw3
  have rg4:aJ S3 y (.row (PR true t wQ O2z s') 38) g=some (.row (ND Oe e) 42):=by rw [aC hgy];exact rg3
  have rt4:aJ S3 y (.row (PR true t wQ O2z s') 38) t=some (.row [vb s9,w9,ni d9] 140):=by rw [aC (aN hyt)];exact rt3
  have rv4:aJ S3 y (.row (PR true t wQ O2z s') 38) vx=some (.row vs5 45):=by rw [aC hvy];exact rv3
  generalize aJ S3 y (.row (PR true t wQ O2z s') 38)=S4 at Gn rb4 rw4 rg4 rt4 rv4;have hz':=aPx.sz (show s'.ep<1000000 by omega);have next:fR x m (nu N) (.list Ol (Gh ts) ts.length) (.ptr vx 0) (.ptr y 0) (.func dC [] []) (ni (i+1)) S4 K:=ih (i+1) m s' sh' wQ O2z S4 (by omega) (by omega) aPx (by omega) aS3 rv4 Gn ⟨s9,ah9,d9,by omega,w9,rt4,u9⟩;show aH PP .eql 46 (ni code) (ni 0) _;have lg:∀{K:KV},aU (.ptr g 0) S4 K=K (n8 e.kind) S4:=cW rg4 rfl;have kd:∀{k:V->Prop},aH PP .eql 5 (n8 e.kind) (.int .u8 (.ofNat 4)) k=k (.bool (decide (e.kind=4))):=fun {k}=>GR;have lw:∀{K:KV},bJ 5 (.ptr w 0) S4 K=K (.agg (gR O s)) S4:=fun {K}=>by rw [qB rw4,dG (cG rfl)];rfl
  have lb:∀{K:KV},bJ 5 (.ptr b 0) S4 K=K (.agg (gR O2z s')) S4:=fun {K}=>by rw [qB rb4,dG (cG rfl)];rfl
  rw [JA];by_cases hcd:code=0
  ·rw [bF hcd]
   by_cases k4:e.kind=4
   ·have kd:∀{k:V->Prop},aH PP .eql 5 (n8 e.kind) (.int .u8 (.ofNat 4)) k=k (.bool true):=fun {k}=>by rw [kd,bF k4]
    repeat (first | rw [aF] | rw [aM] | rw [kD] | rw [wR] | rw [IF] | rw [dW] | rw [dS] | rw [kY] | rw [oQ] | rw [yI] | rw [CX] | rw [aV] | rw [lg] | rw [kd] | rw [lw] | rw [lb] | rw [lR] | rw [eQ] | dsimp only)
    refine aCi (n:=n+22) hM hx hz.cD (hh hcd k4) ?_
    try dsimp only
    repeat (first | rw [aF] | rw [aM] | rw [kD] | rw [wR] | rw [IF] | rw [dW] | rw [dS] | rw [kY] | rw [oQ] | rw [yI] | rw [CX] | rw [aV] | rw [lg] | rw [kd] | rw [lw] | rw [lb] | rw [lR] | rw [eQ] | dsimp only)
    rw [bC,bD (by omega)];exact next
   ·have kd:∀{k:V->Prop},aH PP .eql 5 (n8 e.kind) (.int .u8 (.ofNat 4)) k=k (.bool false):=fun {k}=>by rw [kd,bN k4]
    repeat (first | rw [aF] | rw [aM] | rw [kD] | rw [wR] | rw [IF] | rw [dW] | rw [dS] | rw [kY] | rw [oQ] | rw [yI] | rw [CX] | rw [aV] | rw [lg] | rw [kd] | rw [lw] | rw [lb] | rw [lR] | rw [eQ] | dsimp only)
    rw [bC,bD (by omega)];exact next
  ·rw [bN hcd]
   repeat (first | rw [aF] | rw [aM] | rw [kD] | rw [wR] | rw [IF] | rw [dW] | rw [dS] | rw [kY] | rw [oQ] | rw [yI] | rw [CX] | rw [aV] | rw [lg] | rw [kd] | rw [lw] | rw [lb] | rw [lR] | rw [eQ] | dsimp only)
   rw [bC,bD (by omega)];exact next
theorem aJ9 (QV:140737488355328<M) (hx:Deep PP bI gM M (n+24) x){sd:Nat} (hS:FC sd){Ol:Tag}{ts:List Tu} (Rc:∀u∈ts,Gi u) (hl:ts.length<=140737488355328){Ou:Nat->Tag}{u:Tu} (hK:∀S',K (.bool true) S'):x.call qM [nu sd,.list Ol (Gh ts) ts.length,.agg (Ut Ou u)] S K:=by
 have hM:1000000<M:=by omega
 refine hx.call rfl fun y hy=>?_;rw [De];unfold MB gP gL gQ;refine bX rfl fun v hv=>?_;have rv:aJ S v (.row (Ut Ou u) 45) v=some (.row (Ut Ou u) 45):=aB;generalize aJ S v (.row (Ut Ou u) 45)=S1 at rv;refine aPj (n:=n+21) hM hy Rc hl fun b hb=>?_;rw [hy.most];cases b with
 | true=>
  rw [aF,wR];try dsimp only
  rw [aF,wR];try dsimp only
  rw [aF,dW,bR];refine aFX (n:=n+22) hy ?_;exact aL (hK _)
 | false=>
  obtain⟨Ws,FF⟩:=hb rfl;rw [aF,aM];refine aFX (n:=n+22) hy ?_
  try dsimp only
  rw [aF,aM,lR];try dsimp only
  rw [aF,dS,eQ,bC];refine aFT (n:=n+20) hM hy hS fun p t s O S' hs hp ht Vz rp tp=>?_;have hvp:v≠p:=fun c=>by rw [c,hp]at rv;cases rv
  have hvt:v≠t:=fun c=>by rw [c,ht]at rv;cases rv
  exact aJ8 (n:=n) (fr:=u.fr) QV hy Rc Ws FF hS rfl hK Vz hvp hvt ts.length 0 M Gl [] .nil O S' (by omega) (by omega) aAv (bO 0) .no (hs _ _ rv) rp ⟨s,[],0,bO 0,tp⟩
end
end Go.Am
namespace Go.Am
open Go.RowKit Go.MapKept Go.Proofs
theorem aRB:aDA PP 8 45=some aHM:=by kernel_rfl
section
variable{S:St}{C:Nat->Prop}{c:Cx}
theorem fO.ZE{O:Tag}{d:Dt}{w:Value} (ht:QX c S C O w) (hd:ZI S C d w):fO c S C (T O d) w:=by
 cases d with
 | int k z=>cases hd with | int=>exact .int
 | bool b=>cases hd with | bool=>exact .bool
 | str l=>cases hd with | str=>exact .str
 | list cs n=>exact .list ht hd
theorem aPK{O:Nat->Tag}{t:Tu}{k:Nat}{v:V} (h:(Ut O t)[k]? =some v):∃d,(tuC t)[k]? =some d/\v=T (O k) d:=by
 match k,h with
 | 0,h=>injection h with h;exact⟨_,rfl,h.symm⟩
 | 1,h=>injection h with h;exact⟨_,rfl,h.symm⟩
 | 2,h=>injection h with h;exact⟨_,rfl,h.symm⟩
 | 3,h=>injection h with h;exact⟨_,rfl,h.symm⟩
 | 4,h=>injection h with h;exact⟨_,rfl,h.symm⟩
 | 5,h=>injection h with h;exact⟨_,rfl,h.symm⟩
 | 6,h=>injection h with h;exact⟨_,rfl,h.symm⟩
 | 7,h=>injection h with h;exact⟨_,rfl,h.symm⟩
 | 8,h=>injection h with h;exact⟨_,rfl,h.symm⟩
 | k+9,h=>exact aX (dK.1 h).1 (by rw [show(Ut O t).length=9 from rfl];omega)
end
theorem called_hands{H:Type}{enc:TypeId×Value->H}{W:World} (hsz:PP.globals.size<=W.heap.size) (hg:Laid gs W)
 {sd:Nat} (hS:sd<18446744073709551616) {v:Value} {d2:DataW H} {p2:List MemPlace} (hc:v.cells= #[v]) (h:DataW.Trod enc PP W 0 (fun _=>true) true 23 v d2 p2)
 (hz:∀b off,MemPlace.cell b off∈p2->W.frozen? ⟨b,off,none⟩=false) (hw:∀x∈d2.weights PP 23,x<=reachBytes)
 {cs:Array Value} {d3:DataW H} {p3:List MemPlace} (h3:DataW.Trod enc PP W 0 (fun _=>true) true 45 (.agg cs) d3 p3)
 (hz3:∀b off,MemPlace.cell b off∈p3->W.frozen? ⟨b,off,none⟩=false) (hw3:∀x∈d3.weights PP 45,x<=reachBytes):
 Calls PP qM ⟨[.int .u64 (.ofNat sd),v,.agg cs]⟩ W (fun e w'=>e= .returned (.bool true)/\Below W.heap.size W w'):=by
 obtain⟨U1,S1,u,ts,_,Vt,_,hu1,hr1,h8,hll⟩:=aHP hc h hz hw (Lay.none hsz);obtain⟨F,hF⟩:=h3;obtain⟨U,S,vs,ds,e2,hl,x2,JG,hr⟩:=lay (P:=PP) (w:=W) (fun _=>true) (fun _=>rfl) F 8 45 (Value.agg cs).cells.toList d3 p3 hF hz3 hw3 aHM aRB U1 S1 Vt;obtain⟨tt,ht1,Ti⟩:=aGh hr;have hlen:vs.length=9:=hr.len;obtain⟨M,hM⟩:∃M:Nat,140737488355328<M:=⟨140737488355329,by omega⟩;obtain⟨m,-⟩:∃m:Nat,m=0:=⟨0,rfl⟩;have fr:=aK6 (ws:=u::vs) S
 refine aHO (M:=M) (m:=m+40) hsz hg hl (u::vs) (va:=[nu sd,.list (.root 0) (Gh ts) ts.length,.agg (Ut (fun k=> .root (k+1)) tt)]) (us:=[.int .u64 (.ofNat sd),u,.agg ⟨vs⟩])
  (.cons .int (.cons (.list (.root rfl) ((hr1.mono (x2.fr _)).mono fr)) (.cons (.agg (by rw [hlen];rfl) fun k a b h1 h2=>?_) .nil)))
  (.cons (VR.flat rfl) (.cons (hu1.mono e2) (.cons (.agg (by have:=JG.1;simpa [Value.cells]using this) fun k a b h1 h2=>JG.2 k a b h1 h2) (.nil _)))) ?_
 ·obtain⟨d,q1,rfl⟩:=aPK h1
  exact .ZE (.root h2) ((ht1 k d b q1 h2).mono fr)
 ·exact aJ9 (n:=m+16) hM (aHq (m+40)) hS h8 hll fun _=>rfl
end Go.Am
