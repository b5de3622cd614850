/- vault: weights of two places at 0. -/
import Derived.Test.YtpcfidjmdfhigaaGreatDoorGf
import Derived.Test.YtpcfidjmdfhigaaGreatDoorGe
import Derived.Test.YtpcfidjmdfhigaaGreatDoorGd

noncomputable section
set_option linter.unusedVariables false
set_option maxRecDepth 4000
namespace Go.Am
open Go.Proofs.NQ
section
variable{M n:Nat}{x:VE}{S S0:Hp}{K:KV}{two:Bool}{t:Tag}{a b:Nat}
structure Cap (S:Hp) (t:Tag) (a b i:Nat) (p0 p1 p3 p2:Nat):Prop where
 xs:S p0=some (.row [.list t (jK [a,b]) 2] 51)
 i:S p1=some (.row [ni i] 3)
 q:S p3=some (.row [nu 11] 22)
 at0:S p2=some (.row [nu 0] 22)
theorem Cap.up{S S':Hp}{i p0 p1 p3 p2:Nat} (h:Cap S t a b i p0 p1 p3 p2) (hs:∀j o,S j=some o->j=p0\/j=p1\/j=p3\/j=p2->S' j=some o):Cap S' t a b i p0 p1 p3 p2:=
 ⟨hs _ _ h.xs (.inl rfl),hs _ _ h.i (.inr (.inl rfl)),hs _ _ h.q (.inr (.inr (.inl rfl))),hs _ _ h.at0 (.inr (.inr (.inr rfl)))⟩
theorem aCF{k:Nat} (hk:k<2){c:V->Prop}:cF 1 (.list t (jK [a,b]) 2) (ni k) c=c (.pI t (jK [a,b]) k):=by rw [fH hk,jL]
theorem aCG{k:Nat} (hk:k<2):aT (.pI t (jK [a,b]) k) S K=K (nu (fQ k a b)) S:=by
 match k,hk with
 | 0,_=>rfl
 | 1,_=>rfl
theorem Sl{y:VE}{l i m p0 p1 p3 p2:Nat} (hi:i<2) (h:Cap S t a b i p0 p1 p3 p2) (hk:gH y m (.yield l) (.ptr p0 0) (.ptr p1 0) (.ptr p3 0) (.ptr p2 0) (.list t (jK [a,b]) 2) (ni 2) (ni (i+1)) S K):
 gH y (m+1) (.yield l) (.ptr p0 0) (.ptr p1 0) (.ptr p3 0) (.ptr p2 0) (.list t (jK [a,b]) 2) (ni 2) (ni i) S K:=by
 rw [AB];unfold sY gP gL gK gC gQ;refine aE ?_;have li:∀{K:KV},aT (.ptr p1 0) S K=K (ni i) S:=cQ h.i rfl;rw [aN,wX hi,bQ,aCF hi,aCG hi,li,lV,bF rfl,dD]
 repeat (rw [aF,lZ];try dsimp only)
 repeat (rw [aF,SZ])
 rw [li,cS]
 repeat (rw [aF,lZ];try dsimp only)
 repeat (rw [aF,SZ])
 rw [li,cS]
 repeat (rw [aF,lZ];try dsimp only)
 repeat (rw [aF,SZ])
 rw [li,cS]
 repeat (rw [aF,lZ];try dsimp only)
 rw [aF,eI,aW,bE (by omega)];exact hk
theorem Le{y:VE} (hy:Deep PP bI gM M (n+1) y){l i k m p0 p1 p3 p2:Nat} (hi:i<2) (vL:k<2) (oJ:k≠i) (ha:a<11) (hb:b<11) (h:Cap S t a b i p0 p1 p3 p2)
 (hk:∀K':KV,(∀S',Cap S' t a b i p0 p1 p3 p2->gH y m (.yield l) (.ptr p0 0) (.ptr p1 0) (.ptr p3 0) (.ptr p2 0) (.list t (jK [a,b]) 2) (ni 2) (ni (k+1)) S' K->K' (.bool true) S')->y.R l [nu (iB (fQ i a b) (fQ k a b) 11),nu (iB 0 (fQ k a b) 11)] S K'):
 gH y (m+1) (.yield l) (.ptr p0 0) (.ptr p1 0) (.ptr p3 0) (.ptr p2 0) (.list t (jK [a,b]) 2) (ni 2) (ni k) S K:=by
 rw [AB];unfold sY gP gL gK gC gQ;refine aE ?_;have li:∀{K:KV},aT (.ptr p1 0) S K=K (ni i) S:=cQ h.i rfl;have lx:∀{K:KV},aT (.ptr p0 0) S K=K (.list t (jK [a,b]) 2) S:=cQ h.xs rfl;have lq:∀{K:KV},aT (.ptr p3 0) S K=K (nu 11) S:=cQ h.q rfl;have la:∀{K:KV},aT (.ptr p2 0) S K=K (nu 0) S:=cQ h.at0 rfl;have sm:∀{p:Prop},aZ (.list t (jK [a,b]) 2) (.list t (jK [a,b]) 2) p=p:=fun {p}=>cR rfl;rw [aN,wX vL,bQ,aCF vL,aCG vL,li,lV,bJ oJ,uN];rw [aF,aM];try dsimp only
 rw [aF,aM,lx];try dsimp only
 rw [aF,aM,li];try dsimp only
 rw [aF,aM,aCF hi];try dsimp only
 rw [aF,aM,aCG hi];try dsimp only
 rw [aF,aM];try dsimp only
 rw [aF,aM,lq];try dsimp only
 rw [aF,aM,la];try dsimp only
 rw [aF,aM];try dsimp only
 rw [aF,aM,lq];try dsimp only
 rw [aF,aM];try dsimp only
 refine aBM hy (lE (MW ha hb)) (lE (MW ha hb)) qQ ?_
 try dsimp only
 rw [aF,tJ,lq,cS,aF,tJ,la,cS,aF,tJ,li,cS,aF,tJ,lx,sm,li,cS];rw [aF,aM];try dsimp only
 refine aBM hy (by decide) (lE (MW ha hb)) qQ ?_
 try dsimp only
 rw [aF,tJ,li,cS,aF,tJ,lx,sm,li,cS];rw [aF,aM];try dsimp only
 refine hk _ fun S' h' hn=>?_;have li':∀{K:KV},aT (.ptr p1 0) S' K=K (ni i) S':=cQ h'.i rfl;have lx':∀{K:KV},aT (.ptr p0 0) S' K=K (.list t (jK [a,b]) 2) S':=cQ h'.xs rfl
 try dsimp only
 rw [aF,tJ,li',cS,aF,tJ,lx',sm,li',cS];rw [aF,aM];try dsimp only
 rw [lW,dD,aF,dJ,aW,bE (by omega)];exact hn
def Ut (q u o:Nat) (st:LoopState):Ob:= .loop [7,11,12] [.ptr q 0,.ptr u 0,.ptr o 0] 45 (DV PP dX [.r,.r,.l,.r,.d]) (DW PP dX [.r,.r,.l,.r,.d]) (yK PP dX [.r,.r,.l,.r,.d]) st none
theorem aPJ{y:VE} (hy:Deep PP bI gM M (n+2) y){l q u o own far uu oo:Nat} (hl:S l=some (Ut q u o .ready)) (rq:S q=some (.row [nu 11] 22)) (ru:S u=some (.row [nu uu] 22)) (ro:S o=some (.row [nu oo] 22)) (huo:u≠o) (hU:uu<11) (hO:oo<11) (h1:own<11) (h2:far<11)
 (hK:K (.bool true) (aK (aK (aK (aK S l (Ut q u o .busy)) u (.row [nu (uu*own%11)] 22)) o (.row [nu (oo*far%11)] 22)) l (Ut q u o .ready))):y.R l [nu own,nu far] S K:=by
 refine hy.round fun z hz=>?_;refine QK (st:= .ready) (pe:=none) hl Dk ?_;rw [Dj];unfold JQ;refine XG hl ?_;have hlu:l≠u:=fun e=>by subst e;rw [ru]at hl;cases hl
 have hlo:l≠o:=fun e=>by subst e;rw [ro]at hl;cases hl
 have hlq:l≠q:=fun e=>by subst e;rw [rq]at hl;cases hl
 show(aT (.ptr u 0) (aK S l (Ut q u o .busy)) fun v0 S=>aT (.ptr q 0) S fun v1 S=>_);have rq1:aK S l (Ut q u o .busy) q=some (.row [nu 11] 22):=by rw [aB (aO hlq)];exact rq
 have ru1:aK S l (Ut q u o .busy) u=some (.row [nu uu] 22):=by rw [aB (aO hlu)];exact ru
 have ro1:aK S l (Ut q u o .busy) o=some (.row [nu oo] 22):=by rw [aB (aO hlo)];exact ro
 have hl1:aK S l (Ut q u o .busy) l=some (Ut q u o .busy):=aC;generalize aK S l (Ut q u o .busy)=S1 at hK rq1 ru1 ro1 hl1;have lq:∀{K:KV},aT (.ptr q 0) S1 K=K (nu 11) S1:=cQ rq1 rfl;have lo:∀{K:KV},aT (.ptr o 0) S1 K=K (nu oo) S1:=cQ ro1 rfl;rw [cQ ru1 rfl,lq,lo,lq];refine QG hz (lE hU) (lE h1) qQ ?_;rw [lq,cS,lo,cS];refine QG hz (lE hO) (lE h2) qQ ?_;rw [DT ru1 (show 0<1 by decide) rfl,DT (i:=o) (vs:=[nu oo]) (t:=22) (by rw [aB (aO huo)];exact ro1) (show 0<1 by decide) rfl];refine XH (pe:=none) (st:= .busy) (n:=45) (ls:=[7,11,12]) (vs:=[.ptr q 0,.ptr u 0,.ptr o 0]) (by rw [aB hlo,aB hlu];exact hl1) ?_;exact hK
theorem aK1 (hM:10<M) (hx:Deep PP bI gM M (n+4) x){i k iv:Nat} (hi:i<2) (hk:k<2) (oJ:k≠i) (ha:a<11) (hb:b<11) (hiv:aCC (1*iB (fQ i a b) (fQ k a b) 11%11) iv)
 (hK:K (.tuple [nu iv,nu (1*iB 0 (fQ k a b) 11%11),ni 0]) S):x.call dX [.list t (jK [a,b]) 2,ni i,nu 0,nu 11] S K:=by
 refine hx.call rfl fun y hy=>?_;rw [aAE];unfold Hf;refine ZM rfl fun q hq=>?_;have rq:aK S q (.row [nu 11] 22) q=some (.row [nu 11] 22):=aC;have dF:bO S (aK S q (.row [nu 11] 22)):= .aI hq;generalize aK S q (.row [nu 11] 22)=S1 at rq dF;have lq:∀{K:KV},aT (.ptr q 0) S1 K=K (nu 11) S1:=cQ rq rfl;rw [lq,Ai (by decide),lq,Ai (by decide),lq,cS,lq,cS];refine⟨cB (l:=[nu 0]) rfl fun _ _=>trivial,cB (l:=[nu 0]) rfl fun _ _=>trivial,?_⟩;refine cB (l:=[nu 0]) rfl fun u hu=>?_;have ru:aK S1 u (.row [nu 0] 22) u=some (.row [nu 0] 22):=aC;have fG:bO S1 (aK S1 u (.row [nu 0] 22)):= .aI hu;have hu0:S u=none:=dF.none hu;generalize aK S1 u (.row [nu 0] 22)=S2 at ru fG;refine cB (l:=[nu 0]) rfl fun o ho=>?_;have ro:aK S2 o (.row [nu 0] 22) o=some (.row [nu 0] 22):=aC;have pR:bO S2 (aK S2 o (.row [nu 0] 22)):= .aI ho;have ho0:S o=none:=dF.none (fG.none ho);have huo:u≠o:=fun e=>by subst e;rw [ru]at ho;cases ho
 have ru3:=pR _ _ ru;have rq3:=pR _ _ (fG _ _ rq);have hqu:q≠u:=fun e=>by subst e;rw [rq]at hu;cases hu
 have hqo:q≠o:=fun e=>by have:=fG _ _ rq;rw [e,ho]at this;cases this
 have EV:=(dF.trans fG).trans pR;generalize aK S2 o (.row [nu 0] 22)=S3 at ro ru3 rq3 EV;have hse:[nu 0].set 0 (nu (1%11))=[nu 1]:=rfl;rw [DT ru3 (show 0<1 by decide) rfl,hse];have ru4:aK S3 u (.row [nu 1] 22) u=some (.row [nu 1] 22):=aC;have rq4:aK S3 u (.row [nu 1] 22) q=some (.row [nu 11] 22):=by rw [aB hqu];exact rq3
 have ro4:aK S3 u (.row [nu 1] 22) o=some (.row [nu 0] 22):=by rw [aB (aO huo)];exact ro
 have IY:bO S (aK S3 u (.row [nu 1] 22)):=fun j p e=>by rw [aB (fun c=>by rw [c,hu0]at e;cases e)];exact EV _ _ e
 generalize aK S3 u (.row [nu 1] 22)=S4 at ru4 rq4 ro4 IY;rw [cQ rq4 rfl,cS,DT ro4 (show 0<1 by decide) rfl,hse];have ro5:aK S4 o (.row [nu 1] 22) o=some (.row [nu 1] 22):=aC;have rq5:aK S4 o (.row [nu 1] 22) q=some (.row [nu 11] 22):=by rw [aB hqo];exact rq4
 have ru5:aK S4 o (.row [nu 1] 22) u=some (.row [nu 1] 22):=by rw [aB huo];exact ru4
 have DY:bO S (aK S4 o (.row [nu 1] 22)):=fun j p e=>by rw [aB (fun c=>by rw [c,ho0]at e;cases e)];exact IY _ _ e
 generalize aK S4 o (.row [nu 1] 22)=S5 at ro5 rq5 ru5 DY;rw [cQ rq5 rfl];refine hy.call rfl fun z hz=>?_;rw [Ur];unfold Be;refine ZM rfl fun p0 h0=>?_;have r0:aK S5 p0 (.row [.list t (jK [a,b]) 2] 51) p0=some (.row [.list t (jK [a,b]) 2] 51):=aC;have g0:bO S5 (aK S5 p0 (.row [.list t (jK [a,b]) 2] 51)):= .aI h0;generalize aK S5 p0 (.row [.list t (jK [a,b]) 2] 51)=O1 at r0 g0;refine ZM rfl fun p1 h1=>?_;have r1:aK O1 p1 (.row [ni i] 3) p1=some (.row [ni i] 3):=aC;have g1:bO O1 (aK O1 p1 (.row [ni i] 3)):= .aI h1;generalize aK O1 p1 (.row [ni i] 3)=O2z at r1 g1;refine ZM rfl fun p2 h2=>?_;have r2:aK O2z p2 (.row [nu 0] 22) p2=some (.row [nu 0] 22):=aC;have g2:bO O2z (aK O2z p2 (.row [nu 0] 22)):= .aI h2;generalize aK O2z p2 (.row [nu 0] 22)=O3 at r2 g2;refine ZM rfl fun p3 h3=>?_;have r3:aK O3 p3 (.row [nu 11] 22) p3=some (.row [nu 11] 22):=aC;have g3:bO O3 (aK O3 p3 (.row [nu 11] 22)):= .aI h3;have gA:bO S5 (aK O3 p3 (.row [nu 11] 22)):=((g0.trans g1).trans g2).trans g3;have cap:Cap (aK O3 p3 (.row [nu 11] 22)) t a b i p0 p1 p3 p2:=⟨g3 _ _ (g2 _ _ (g1 _ _ r0)),g3 _ _ (g2 _ _ r1),r3,g3 _ _ r2⟩;have n0:S5 p0=none:=h0;have n1:S5 p1=none:=g0.none h1;have n2:S5 p2=none:=g0.none (g1.none h2);have n3:S5 p3=none:=g0.none (g1.none (g2.none h3));generalize aK O3 p3 (.row [nu 11] 22)=O4 at cap gA;refine aL ?_;refine QL fun l hl=>?_;have hlo:aK O4 l (.loop [7,11,12] [.ptr q 0,.ptr u 0,.ptr o 0] 45 (DV PP dX [.r,.r,.l,.r,.d]) (DW PP dX [.r,.r,.l,.r,.d]) (yK PP dX [.r,.r,.l,.r,.d]) .ready none)=aK O4 l (Ut q u o .ready):=rfl;rw [hlo];have hl6:aK O4 l (Ut q u o .ready) l=some (Ut q u o .ready):=aC;have NW:bO O4 (aK O4 l (Ut q u o .ready)):= .aI hl;have Jm:Cap (aK O4 l (Ut q u o .ready)) t a b i p0 p1 p3 p2:=cap.up fun j p e _=>NW _ _ e;have rq6:=NW _ _ (gA _ _ rq5);have ru6:=NW _ _ (gA _ _ ru5);have ro6:=NW _ _ (gA _ _ ro5);have leT:bO S (aK O4 l (Ut q u o .ready)):=(DY.trans gA).trans NW;have hl0:S l=none:=(DY.trans gA).none hl;generalize aK O4 l (Ut q u o .ready)=S6 at hl6 Jm rq6 ru6 ro6 leT;have hlu:l≠u:=fun e=>by subst e;rw [ru6]at hl6;cases hl6
 have aRC:l≠o:=fun e=>by subst e;rw [ro6]at hl6;cases hl6
 have hlq:l≠q:=fun e=>by subst e;rw [rq6]at hl6;cases hl6
 have fin:∀S',bO S S'->S' l=some (Ut q u o .ready)->S' q=some (.row [nu 11] 22)->S' u=some (.row [nu (1*iB (fQ i a b) (fQ k a b) 11%11)] 22)->S' o=some (.row [nu (1*iB 0 (fQ k a b) 11%11)] 22)->
  Wg l S' fun pe S=>UA pe (aT (.ptr u 0) S fun AM S=>aT (.ptr q 0) S fun wU S=>y.call yI [AM,wU] S fun rQ S=>tK 0 rQ fun yE=>tK 1 rQ fun wZ=>aT (.ptr o 0) S fun v20 S=>bD (.tuple [yE,v20,wZ]) S K) (bD (.tuple [(.int .u64 (.ofNat 0)),(.int .u64 (.ofNat 0)),(.int .i64 (.ofNat 0))]) S K) (fun sS=>Au sS 0 (aT (.ptr u 0) S fun v21 S=>aT (.ptr q 0) S fun MY S=>y.call yI [v21,MY] S fun FI S=>tK 0 FI fun v24=>tK 1 FI fun TE=>aT (.ptr o 0) S fun ZS S=>bD (.tuple [v24,ZS,TE]) S K) False):=by
  intro S' hle Sn hq' hu' WH;refine XI (st:= .ready) (pe:=none) (n:=45) (ls:=[7,11,12]) (vs:=[.ptr q 0,.ptr u 0,.ptr o 0]) Sn (by simp) ?_;rw [Fo];obtain⟨ob,hex⟩:∃ob,aK S' l (.loop [7,11,12] [.ptr q 0,.ptr u 0,.ptr o 0] 45 (DV PP dX [.r,.r,.l,.r,.d]) (DW PP dX [.r,.r,.l,.r,.d]) (yK PP dX [.r,.r,.l,.r,.d]) .exhausted none)=aK S' l ob:=⟨_,rfl⟩;rw [hex];have hq7:aK S' l ob q=some (.row [nu 11] 22):=by rw [aB (aO hlq)];exact hq'
  have hu7:aK S' l ob u=some (.row [nu (1*iB (fQ i a b) (fQ k a b) 11%11)] 22):=by rw [aB (aO hlu)];exact hu'
  have ho7:aK S' l ob o=some (.row [nu (1*iB 0 (fQ k a b) 11%11)] 22):=by rw [aB (aO aRC)];exact WH
  have le7:bO S (aK S' l ob):=fun j p e=>by rw [aB (fun c=>by rw [c,hl0]at e;cases e)];exact hle _ _ e
  rw [cQ hu7 rfl,cQ hq7 rfl];refine aIQ hy (lE (iY _ (by decide))) qQ (by rw [hiv.1]) ?_;rw [hiv.1];refine cJ (v:=nu iv) rfl ?_;refine cJ (v:=ni 0) rfl ?_;rw [cQ ho7 rfl];exact bL le7 hK
 show y.call BC [.yield l,.ptr p0 0,.ptr p1 0,.ptr p3 0,.ptr p2 0] S6 _;refine hy.call rfl fun w hw=>?_;rw [Ml];unfold US;rw [cQ Jm.xs rfl];show gH w w.most (.yield l) (.ptr p0 0) (.ptr p1 0) (.ptr p3 0) (.ptr p2 0) (.list t (jK [a,b]) 2) (ni 2) (ni 0) S6 _;obtain⟨M',EU⟩:∃q,M=q+3:=⟨M-3,by omega⟩;rw [hw.most,EU];rw [EU]at hw
 have done:∀{S':Hp} {K':KV},K' (.tuple []) S'->gH w (M'+1) (.yield l) (.ptr p0 0) (.ptr p1 0) (.ptr p3 0) (.ptr p2 0) (.list t (jK [a,b]) 2) (ni 2) (ni 2) S' K':=fun {S' K'} h=>by
  rw [AB];unfold sY gP gL gK gC gQ;refine aE ?_;rw [aN,iN (by decide),aW];exact aL h
 have rnd:∀(K':KV),(∀S',Cap S' t a b i p0 p1 p3 p2->bO S S'->S' l=some (Ut q u o .ready)->S' q=some (.row [nu 11] 22)->S' u=some (.row [nu (1*iB (fQ i a b) (fQ k a b) 11%11)] 22)->S' o=some (.row [nu (1*iB 0 (fQ k a b) 11%11)] 22)->K' (.bool true) S')->w.R l [nu (iB (fQ i a b) (fQ k a b) 11),nu (iB 0 (fQ k a b) 11)] S6 K':=by
  intro K' wO;refine aPJ (n:=n) hw hl6 rq6 ru6 ro6 huo (by decide) (by decide) (Nk _ _) (Nk _ _) ?_;have aHs:∀j p,S6 j=some p->j≠l->j≠u->j≠o->aK (aK (aK (aK S6 l (Ut q u o .busy)) u (.row [nu (1*iB (fQ i a b) (fQ k a b) 11%11)] 22)) o (.row [nu (1*iB 0 (fQ k a b) 11%11)] 22)) l (Ut q u o .ready) j=some p:=fun j p e h1 h2 h3=>by rw [aB h1,aB h3,aB h2,aB h1];exact e
  have nl:∀{j:Nat} {v:V} {ty:TypeId},S6 j=some (.row [v] ty)->j≠l:=fun {j v ty} e c=>by rw [c,hl6]at e;cases e
  have Yg:∀{j:Nat},S5 j=none->j≠u/\j≠o:=fun {j} h=>⟨(fun c=>by rw [c,ru5]at h;cases h),(fun c=>by rw [c,ro5]at h;cases h)⟩;refine wO _ ⟨aHs _ _ Jm.xs (nl Jm.xs) (Yg n0).1 (Yg n0).2,aHs _ _ Jm.i (nl Jm.i) (Yg n1).1 (Yg n1).2,aHs _ _ Jm.q (nl Jm.q) (Yg n3).1 (Yg n3).2,aHs _ _ Jm.at0 (nl Jm.at0) (Yg n2).1 (Yg n2).2⟩ (fun j p e=>?_) aC (aHs _ _ rq6 (aO hlq) hqu hqo) ?_ ?_
  ·exact aHs _ _ (leT _ _ e) (fun c=>by rw [c,hl0]at e;cases e) (fun c=>by rw [c,hu0]at e;cases e) (fun c=>by rw [c,ho0]at e;cases e)
  ·rw [aB (aO hlu),aB huo];exact aC
  ·rw [aB (aO aRC)];exact aC
 rcases(show i=0/\k=1\/i=1/\k=0 by omega)with ⟨rfl,rfl⟩ | ⟨rfl,rfl⟩
 ·
   refine Sl (i:=0) (by decide) Jm ?_;refine Le (n:=n+1) (i:=0) (k:=1) hw (by decide) (by decide) (by decide) ha hb Jm fun K' wO=>?_;refine rnd K' fun S' c1 c2 c3 c4 c5 c6=>wO S' c1 (done ?_);exact fin S' c2 c3 c4 c5 c6
 ·
   refine Le (n:=n+1) (i:=1) (k:=0) hw (by decide) (by decide) (by decide) ha hb Jm fun K' wO=>?_;refine rnd K' fun S' c1 c2 c3 c4 c5 c6=>wO S' c1 ?_;refine Sl (i:=1) (by decide) c1 (done ?_);exact fin S' c2 c3 c4 c5 c6
end
set_option maxRecDepth 4000
section
variable{M n:Nat}{x:VE}{S S0:Hp}{K:KV}{two:Bool}{t:Tag}{a b:Nat}
theorem aK2{j:Nat}:SW (.one (.int .u64)) (nu j):=rfl
theorem aK3 (hM:10<M) (hx:Deep PP bI gM M (n+2) x) (ha:a<11) (hb:b<11) (hab:a≠b) (hK:K (ni 0) S):x.call HD [.list t (jK [a,b]) 2,nu 11] S K:=by
 refine hx.call rfl fun y hy=>?_;rw [Uq];unfold Bd;refine aOD hy qQ ?_;rw [lW,dD,aW,cD];show aH PP .gtr 3 (ni 2) (ni 1024) _;rw [LR,bJ (by decide),aW,cD];intro m hm;show rX y y.most (.list t (jK [a,b]) 2) (nu 11) (.yM m) (.list t (jK [a,b]) 2) (ni 2) (ni 0) (aK S m (.map [])) K;have CU:aK S m (.map []) m=some (.map []):=aC;have dF:bO S (aK S m (.map [])):= .aI hm;generalize aK S m (.map [])=S1 at CU dF;obtain⟨M',EU⟩:∃q,M=q+3:=⟨M-3,by omega⟩;rw [hy.most,EU,wL];unfold qJ;refine aE ?_;rw [aN,wX (by decide),bQ,aCF (show 0<2 by decide),aCG (show 0<2 by decide)];show aH PP .rem 22 (nu a) (nu 11) _;rw [Ai (by decide),VJ ha];refine Qy CU aK2 (fun e he=>by cases he) (fun v hv=>by cases hv) fun _=>?_;show aH PP .add 3 (ni 0) (ni 1) _;rw [bE (by decide)];unfold zT;simp only [CU];refine⟨aK2,(fun e he=>by cases he),?_⟩;have YR:aK S1 m (.map (PF [] (nu a) (ni (0+1)))) m=some (.map [(nu a,ni 1)]):=aC;have fG:bO S (aK S1 m (.map (PF [] (nu a) (ni (0+1))))):=fun j p e=>by rw [aB (fun c=>by rw [c,hm]at e;cases e)];exact dF _ _ e
 generalize aK S1 m (.map (PF [] (nu a) (ni (0+1))))=S2 at YR fG;rw [bE (by decide),wL];unfold qJ;refine aE ?_;rw [aN,wX (by decide),bQ,aCF (show 1<2 by decide),aCG (show 1<2 by decide)];show aH PP .rem 22 (nu b) (nu 11) _;have oJ:¬(nu b=nu a):=fun e=>by injection e with _ e;injection e with e;exact hab e.symm
 have hks:∀e∈[(nu a,ni 1)],SW (.one (.int .u64)) e.1:=fun e he=>by rcases List.mem_cons.1 he with rfl | he;exact aK2;cases he
 have Dz:XR [(nu a,ni 1)] (nu b)=none:=by simp only [XR];rw [aG oJ]
 rw [Ai (by decide),VJ hb];refine Qy YR aK2 hks (fun v hv=>by rw [Dz]at hv;cases hv) fun _=>?_;show aH PP .add 3 (ni 0) (ni 1) _;rw [bE (by decide)];unfold zT;simp only [YR];refine⟨aK2,hks,?_⟩;have vO:PF [(nu a,ni 1)] (nu b) (ni (0+1))=[(nu a,ni 1),(nu b,ni 1)]:=by simp only [PF];rw [aG oJ]
 rw [vO];have hm3:aK S2 m (.map [(nu a,ni 1),(nu b,ni 1)]) m=some (.map [(nu a,ni 1),(nu b,ni 1)]):=aC;have pR:bO S (aK S2 m (.map [(nu a,ni 1),(nu b,ni 1)])):=fun j p e=>by rw [aB (fun c=>by rw [c,hm]at e;cases e)];exact fG _ _ e
 generalize aK S2 m (.map [(nu a,ni 1),(nu b,ni 1)])=S3 at hm3 pR;rw [bE (by decide),wL];unfold qJ;refine aE ?_;rw [aN,iN (by decide),aW];unfold Qu;simp only [hm3];rw [cD];show aH PP .lss 3 (ni 2) (ni 2) _;rw [aN,iN (by decide),aW];exact bL pR hK
def aS9 (a b:Nat):Prop:=∃iv,aCC (1*iB a b 11%11) iv/\wt a b=iv*(1*iB 0 b 11%11)%11
theorem aFU (a b:Nat) (ha:a<5) (hb:b<5) (h0:0<a) (h1:0<b) (hab:a≠b):aS9 a b:=by
 have:∀a<5,∀b<5,¬(0<a/\0<b/\a≠b)\/((CO (1*iB a b 11%11%11+1) 11 (1*iB a b 11%11%11) 0 (1%11) 11).1=1/\(CO (1*iB a b 11%11%11+1) 11 (1*iB a b 11%11%11) 0 (1%11) 11).2<11/\wt a b=(CO (1*iB a b 11%11%11+1) 11 (1*iB a b 11%11%11) 0 (1%11) 11).2*(1*iB 0 b 11%11)%11):=by decide
 obtain⟨h1,h2,h3⟩:=(this a ha b hb).resolve_left (fun h=>h ⟨h0,h1,hab⟩);exact⟨_,⟨Prod.ext h1 rfl,h2⟩,h3⟩
theorem aHt (hM:10<M) (hx:Deep PP bI gM M (n+6) x) (ha:a<5) (hb:b<5) (h0:0<a) (h1:0<b) (hab:a≠b) (hK:∀t,K (.tuple [.list t (jK (wts a b)) 2,ni 0]) S):x.C EP [.list t (jK [a,b]) 2,nu 0,nu 11] S K:=by
 refine hx.aQD rfl fun y hy=>?_;rw [Se];unfold YG;refine aK3 (n:=n+3) hM hy (by omega) (by omega) hab ?_;rw [lV,bF rfl,dD,aW,cD];show qI y y.most (.list t (jK [a,b]) 2) (nu 0) (nu 11) .nil (ni 2) (ni 0) S K;obtain⟨M',EU⟩:∃q,M=q+3:=⟨M-3,by omega⟩;obtain⟨iv0,w0,e0⟩:=aFU a b ha hb h0 h1 hab;obtain⟨iv1,w1,e1⟩:=aFU b a hb ha h1 h0 (aO hab);rw [hy.most,EU,vJ];unfold pD;refine aE ?_;rw [aN,wX (by decide),bQ];refine aK1 (n:=n+1) (i:=0) (k:=1) (iv:=iv0) hM hy (by decide) (by decide) (by decide) (by omega) (by omega) w0 ?_;refine cJ (v:=nu iv0) rfl ?_;refine cJ (v:=nu (1*iB 0 b 11%11)) rfl ?_;refine cJ (v:=ni 0) rfl ?_;rw [lV,bF rfl,dD,aW];refine QG hy (lE w0.2) (lE (iY _ (by decide))) qQ ?_;rw [<-e0];refine(MN.nil (S0:=S)).app (.refl _) (by simp) fun u1 S1 dF k1 m1=>?_;rw [bE (by decide),vJ];unfold pD;refine aE ?_;rw [aN,wX (by decide),bQ];refine aK1 (n:=n+1) (i:=1) (k:=0) (iv:=iv1) hM hy (by decide) (by decide) (by decide) (by omega) (by omega) w1 ?_;refine cJ (v:=nu iv1) rfl ?_;refine cJ (v:=nu (1*iB 0 a 11%11)) rfl ?_;refine cJ (v:=ni 0) rfl ?_;rw [lV,bF rfl,dD,aW];refine QG hy (lE w1.2) (lE (iY _ (by decide))) qQ ?_;rw [<-e1];refine m1.app dF (by simp) fun u2 S2 fG k2 m2=>?_;rw [bE (by decide),vJ];unfold pD;refine aE ?_;rw [aN,iN (by decide),aW];refine⟨S,fun O=> .tuple [.list (O 0) (jK (wts a b)) 2,ni 0],fG,fun O=> .tup ⟨rfl,fun j v u e1 e2=>?_⟩,fun O=>hK _⟩
 match j with
 | 0=>injection e1 with e1;injection e2 with e2;subst e1 e2;exact .Ao m2.Cm
 | 1=>injection e1 with e1;injection e2 with e2;subst e1 e2;exact .lT _
 | j+2=>simp at e1
theorem aK4{E:VE}{c:FuncId}{v:V}{args:List V}{cs:List Dt}{k:Nat}{S S':Hp} (hle:bO S' S) (h:Fi S' S v (.list cs k)) (hk:∀O,E.C c (.list O cs k::args) S' K):E.call c (v::args) S K:=by
 refine⟨S',fun O=> .list (O 0) cs k::args,hle,fun O=>⟨rfl,fun j w u e1 e2=>?_⟩,fun O=>hk _⟩
 match j with
 | 0=>injection e1 with e1;injection e2 with e2;subst e1 e2;exact .Ao h
 | j+1=>
  have e1:args[j]? =some w:=e1;have e2:args[j]? =some u:=e2;rw [e1]at e2;injection e2 with e2;subst e2;exact .lT _
theorem aFV{S0:Hp}{v:V}{l:List Int} (h:GL 3 S0 S v (iV l)){i:Nat} (hi:i<l.length):∃p,(∀k:V->Prop,cF 1 v (ni i) k=k p)/\∀S',bO S S'->∀K:KV,aT p S' K=K (.int .i64 l[i]) S':=by
 have:(iV l)[i]? =some (.int .i64 l[i]):=by unfold iV;rw [dO,aQ hi];rfl
 obtain⟨p,t,h1,h2⟩:=h.at this;exact⟨p,fun k=>h1 _ k,fun S' hs K=>h2 S' hs K⟩
theorem aEm (hM:1000000<M) (hx:Deep PP bI gM M (n+4) x){S0:Hp}{v:V}{d e:Int} (h:GL 3 S0 S v (iV [d,e])) (hd:1<=d/\d<=7) (he:1<=e/\e<=7) (hK:K (.bool true) S):x.call IU [v] S K:=by
 refine hx.call rfl fun y hy=>?_;rw [Mi];unfold UQ gP gL gK gQ;obtain⟨p0,i0,l0⟩:=aFV h (i:=0) (Nat.succ_pos 1);obtain⟨p1,i1,l1⟩:=aFV h (i:=1) (xF 1);rw [h.len];show aH PP .gtr 3 (ni 2) (ni 0) _;rw [LR,bF (by decide),aF,aM];dsimp only;rw [aF,aM];dsimp only
 have m1:∀{w:VE} {z:Int} {S:Hp} {K:KV},Deep PP bI gM M (n+1) w->1<=z/\z<=7->K (.bool false) S->w.call EO [.int .i64 z] S K:=fun {w z S K} hw hz hk=>by
  refine hw.call rfl fun u hu=>?_;rw [He];unfold OP gP gK gQ;show aH PP .lss 3 (.int .i64 z) (.int .i64 1) _;rw [aEd,bJ (by omega)];simp only [aF,aM,eI];show aH PP .gtr 3 (.int .i64 z) (.int .i64 7) _;rw [aAy,bJ (by omega)];exact aL hk
 refine hy.call rfl fun u hu=>?_;rw [pZ];unfold kL;refine hu.call rfl fun w hw=>?_;rw [sN];unfold mA;obtain⟨M',EU⟩:∃q,M=q+3:=⟨M-3,by omega⟩;rw [h.len,hw.most,EU,dN];unfold cX;refine aE ?_;show aH PP .lss 3 (ni 0) (ni 2) _;rw [aN,wX (by decide),bQ,i0,l0 S (.refl _)];refine m1 hw hd ?_;rw [aW,bE (by decide),dN];unfold cX;refine aE ?_;show aH PP .lss 3 (ni 1) (ni 2) _;rw [aN,wX (by decide),bQ,i1,l1 S (.refl _)];refine m1 hw he ?_;rw [aW,bE (by decide),dN];unfold cX;refine aE ?_;show aH PP .lss 3 (ni 2) (ni 2) _;rw [aN,iN (by decide),aW];refine aL ?_;rw [CH];refine aL ?_;show(UB y.most _);rw [aF,aM,lW];dsimp only;rw [aF,dJ];exact aL hK
theorem aEn (hM:1000000<M) (hx:Deep PP bI gM M (n+7) x){S0:Hp}{v:V}{d e:Int} (h:GL 3 S0 S v (iV [d,e])) (hd:1<=d/\d<=4) (he:1<=e/\e<=4) (hde:d≠e) (hK:∀t,K (.tuple [.list t (jK (wts d.toNat e.toNat)) 2,ni 0]) S):x.call BA [v,nu 11] S K:=by
 refine hx.call rfl fun y hy=>?_;rw [Mj];unfold UR;obtain⟨p0,i0,l0⟩:=aFV h (i:=0) (Nat.succ_pos 1);obtain⟨p1,i1,l1⟩:=aFV h (i:=1) (xF 1);rw [h.len];show qH y y.most (nu 11) .nil v (ni 2) (ni 0) S K;obtain⟨M',EU⟩:∃q,M=q+3:=⟨M-3,by omega⟩;rw [hy.most,EU,vI];unfold pC;refine aE ?_;rw [aN,wX (by decide),bQ,i0,l0 S (.refl _)];show LS .u64 (.int .i64 d) _;rw [aAI (by omega) (by omega)];refine(MN.nil (S0:=S)).app (.refl _) (by simp) fun u1 S1 dF k1 m1=>?_;rw [bE (by decide),vI];unfold pC;refine aE ?_;rw [aN,wX (by decide),bQ,i1,l1 S1 dF];show LS .u64 (.int .i64 e) _;rw [aAI (by omega) (by omega)];refine m1.app dF (by simp) fun u2 S2 fG k2 m2=>?_;rw [bE (by decide),vI];unfold pC;refine aE ?_;rw [aN,iN (by decide),aW];refine aK4 (cs:=jK [d.toNat,e.toNat]) (k:=2) fG m2.Cm fun t2=>?_;refine aHt (n:=n) (by omega) hy (by omega) (by omega) (by omega) (by omega) (by omega) fun t3=>?_;refine cJ (v:= .list t3 (jK (wts d.toNat e.toNat)) 2) rfl ?_;refine cJ (v:=ni 0) rfl ?_;exact aL (hK t3)
theorem aM6 (hM:1000000<M) (hx:Deep PP bI gM M (n+12) x){O:Tag}{ds:List (Int×List (List Nat))} (hd:mM ds=true) (hK:∀t,K (.tuple [.list t (dS (MF ds)) (MF ds).length,ni 0]) S):x.call yP [.agg (pv two),.list O (MX ds) ds.length] S K:=by
 obtain⟨d,e,rfl,d1,d2,d3,f1,f2⟩:=Kx hd;obtain⟨fl1,fa1⟩:=GI.1 f1;obtain⟨fl2,fa2⟩:=GI.1 f2;refine hx.call rfl fun y hy=>?_;rw [aAD];unfold Hd gP gL gQ;refine cA jV fun p hp=>?_;have dF:bO S (aK S p (.row (pv two) 29)):= .aI hp;have rp:aK S p (.row (pv two) 29) p=some (.row (pv two) 29):=aC;generalize aK S p (.row (pv two) 29)=S1 at dF rp;have l6:∀{S':Hp} {K:KV},bO S1 S'->aT (.ptr p (0+6)) S' K=K (ni 1) S':=fun {S' K} h=>cQ (h _ _ rp) rfl;rw [lC rp];refine aKI (n:=n+10) (two:=two) hy ?_;rw [lW,dD,aF,aM,bA];dsimp only;rw [aF,aM,l6 (.refl _)];dsimp only;rw [aF,aM,aN,iN (by decide)];dsimp only;rw [aF,eI,aF,aM,bA];dsimp only;rw [aF,aM,l6 (.refl _)];dsimp only;rw [aF,aM];dsimp only;rw [LR,bJ (by decide),aF,eI,aW,cD];obtain⟨M',EU⟩:∃q,M=q+3:=⟨M-3,by omega⟩
 have step:∀(i m:Nat) (D:Int×List (List Nat)) (u v:V) (ats:List Int) (aEo:List (List (List Nat))) (S2:Hp),[d,e][i]? =some D->xW D.2=true->i<2->bO S1 S2->GL 3 S1 S2 u (iV ats)->GL 33 S1 S2 v (mD aEo)->ats.length<=2->aEo.length<=2->(∀j m m',u= .acc j m->v≠ .acc j m')->
  (∀u' v' S',bO S1 S'->GL 3 S1 S' u' (iV (ats++[D.1]))->GL 33 S1 S' v' (mD (aEo++[D.2]))->(∀j m m',u'= .acc j m->v'≠ .acc j m')->kQ y m (.ptr p 0) u' v' (.list O (MX [d,e]) 2) (ni 2) (ni (i+1)) S' K)->
  kQ y (m+1) (.ptr p 0) u v (.list O (MX [d,e]) 2) (ni 2) (ni i) S2 K:=by
  intro i m D u v ats aEo S2 hD hf hi hs gu gv hal Hi hap hk;obtain⟨q1,q2⟩:=aAG hD;obtain⟨fl,fa⟩:=GI.1 hf;rw [FJ];unfold wK gP gL gK gQ;refine aE ?_;rw [aN,wX hi,bQ,fH hi,SU,dL q1,q2];refine cB (l:=[ni 0,.nil]) rfl fun b hb=>?_;refine gV (n:=2) (i:=b) aC rfl rfl rfl ?_;rw [dU];generalize vX:(Tl O (i*2) [.int .i64 D.1,.list (dS D.2) D.2.length])=cs;obtain⟨t1,vX⟩:∃t1,cs=[.int .i64 D.1,.list t1 (dS D.2) D.2.length]:=⟨_,vX.symm⟩;subst vX;have pR:bO S2 (aK S2 b (.row [.int .i64 D.1,.list t1 (dS D.2) D.2.length] 68)):= .aI hb;have rb:aK S2 b (.row [.int .i64 D.1,.list t1 (dS D.2) D.2.length] 68) b=some (.row [.int .i64 D.1,.list t1 (dS D.2) D.2.length] 68):=aC;generalize aK S2 b (.row [.int .i64 D.1,.list t1 (dS D.2) D.2.length] 68)=S3 at pR rb;have r3:=pR _ _ (hs _ _ rp);have l0:∀{S':Hp} {K:KV},S' b=some (.row [.int .i64 D.1,.list t1 (dS D.2) D.2.length] 68)->aT (.ptr b 0) S' K=K (.int .i64 D.1) S':=fun {S' K} h=>cQ h rfl;have l1:∀{S':Hp} {K:KV},S' b=some (.row [.int .i64 D.1,.list t1 (dS D.2) D.2.length] 68)->aT (.ptr b (0+1)) S' K=K (.list t1 (dS D.2) D.2.length) S':=fun {S' K} h=>cQ h rfl;have sm:∀{t:Tag} {cs:List Dt} {n:Nat} {p:Prop},aZ (.list t cs n) (.list t cs n) p=p:=fun {t cs n p}=>cR rfl;have smi:∀{z:Int} {p:Prop},aZ (.int .i64 z) (.int .i64 z) p=p:=fun {z p}=>cR rfl;rw [bA,l1 rb,cD,lC r3];refine aKH (n:=n+10) (two:=two) hy ?_;rw [l1 rb,sm,lV,bF fl,dD];rw [aF,aM,bA];dsimp only;rw [aF,aM,l1 rb];dsimp only;rw [aF,aM];dsimp only;rw [aF,aM];dsimp only;refine aCs (n:=n+9) (S0:=S3) hM hy .val (by omega) (p:=fun c=> !decide (c.length=2)) (fun z hz c hc w hw K hk=>aRm (two:=two) (n:=n+8) hz hw r3 hk) ?_
  have aTa:(D.2.any fun c=> !decide (c.length=2))=false:=by
   rw [List.any_eq_false];intro c hc;rw [(fa c hc).1];decide
  rw [aTa]
  try dsimp only
  rw [l1 rb,sm,aF,eI,aW,aU,l0 rb,bA,l1 rb,l1 rb,sm,l0 rb,smi];have hb3:∀{z:Int} {S:Hp} {K:KV},(∀j,S j=none->K (.own j 0 1 1) (aK S j (.row [.int .i64 z] 3)))->aS 3 1 IT [(0,1,.int .i64 z)] S K:=fun {z S K} hk=>⟨rfl,by simp,hk⟩;refine⟨hb3 fun _ _=>trivial,yL rfl fun _ _=>trivial,?_⟩;refine(gu.up pR).app (t:=t1) (d:= .int .i64 D.1) (hs.trans pR) (by rw [EE];omega) (zv:=ni 0) rfl (by decide) fun u' S4 IY k4 o4 gu4=>?_
  have Qn:=k4 _ _ rb fun m c=>by
   obtain⟨vs,n,q⟩:=(gu.up pR).there c;rw [rb]at q;cases q
  have gv4:GL 33 S1 S4 v (mD aEo):=(gv.up pR).lT k4 fun j m m' c c2=>hap j m' m c2 c
  have aRD:∀j m m',u'= .acc j m->v≠ .acc j m':=fun j m m' c c2=>by
   rcases o4 j m c with ⟨m2,q⟩ | q
   ·exact hap j m2 m' q c2
   ·obtain⟨vs,n,q2⟩:=(gv.up pR).there c2
    rw [q]at q2;cases q2
  rw [l1 Qn,sm,l1 Qn,sm];refine⟨yL rfl fun _ _=>trivial,?_⟩;refine gv4.app (t:=t1) (d:= .list (dS D.2) D.2.length) IY (by rw [SQ];omega) (zv:= .nil) rfl (by decide) fun v' S5 DY k5 o5 gv5=>?_;have gu5:=gu4.lT k5 fun j m m' c c2=>aRD j m m' c c2;rw [bE (by omega)];have e1:iV ats++[.int .i64 D.1]=iV (ats++[D.1]):=by unfold iV;rw [RI];rfl
  have e2:mD aEo++[.list (dS D.2) D.2.length]=mD (aEo++[D.2]):=by rw [Zp];rfl
  rw [e1]at gu5;rw [e2]at gv5;refine hk u' v' S5 DY gu5 gv5 fun j m m' c c2=>?_;rcases o5 j m' c2 with ⟨m2,q⟩ | q
  ·exact aRD j m m2 c q
  ·obtain⟨vs,n,q2⟩:=gu4.there c
   rw [q]at q2;cases q2
 show kQ y y.most (.ptr p 0) .nil .nil (.list O (MX [d,e]) 2) (ni 2) (ni 0) S1 K;rw [hy.most,EU];refine step 0 _ d .nil .nil [] [] S1 rfl f1 (by decide) (.refl _) .nil .nil (by decide) (by decide) (fun j m m' c=>by cases c) fun u1 v1 S2 fG gu1 gv1 ap1=>?_;refine step 1 _ e u1 v1 [d.1] [d.2] S2 rfl f2 (by decide) fG gu1 gv1 (RJ 1) (RJ 1) ap1 fun u2 v2 S3 pR gu2 gv2 ap2=>?_;rw [FJ];unfold wK gP gL gK gQ;refine aE ?_;rw [aN,iN (by decide),aW];have gu2:GL 3 S1 S3 u2 (iV [d.1,e.1]):=gu2;have gv2:GL 33 S1 S3 v2 (mD [d.2,e.2]):=gv2;have Lk:=pR _ _ rp;refine aEm (n:=n+7) hM hy gu2 (by omega) (by omega) ?_;rw [lW,dD,aW,bA,cQ (o:=0+1) Lk rfl];refine aEn (n:=n+4) hM hy gu2 (by omega) (by omega) (by omega) fun t3=>?_;refine cJ (v:= .list t3 (jK (wts d.1.toNat e.1.toNat)) 2) rfl ?_;refine cJ (v:=ni 0) rfl ?_;rw [lV,bF rfl,dD,aW,lC Lk];refine aKH (n:=n+10) (two:=two) hy ?_
 have aKK:LP (wts d.1.toNat e.1.toNat):=fun c hc=>by
  have:c<11:=by
   rcases List.mem_cons.1 hc with rfl | hc
   ·exact aFF _ _
   ·rcases List.mem_cons.1 hc with rfl | hc
    ·exact aFF _ _
    ·cases hc
  show c<18446744073709551616;omega
 have one:∀(s j:Nat),s<2->j<2->∀(S4:Hp) (K':KV),bO S3 S4->(K' (nu (Ku ((QT (FG [d.2,e.2] s) j).zip (wts d.1.toNat e.1.toNat)) (LW []))) S4)->
  (bN 12 (.ptr p 0) S4 fun v1 S=>y.call kO [v2,ni s] S fun v2 S=>bN 12 (.ptr p 0) S fun v3 _=>aZ v3 v1 (y.call qA [v2,ni j] S fun v4 S=>bN 12 (.ptr p 0) S fun v5 _=>aZ v5 v1 (y.call nD [v1,.nil] S fun v6 S=>y.call oP [v4,.list t3 (jK (wts d.1.toNat e.1.toNat)) 2,v6,.func jY [] [.ptr p 0],.func jZ [] [.ptr p 0]] S K'))):=by
  intro s j hs hj S4 K' hle hk;have r4:=hle _ _ Lk;have smp:∀{p:Prop},aZ (.agg (pv two)) (.agg (pv two)) p=p:=fun {p}=>cR rfl;rw [lC r4];refine aMS (n:=n+9) hM hy (ms:=[d.2,e.2]) (fun l hl=>?_) (Wx rfl) (gv2.up hle) fun t5=>?_
  ·rcases List.mem_cons.1 hl with rfl | hl
   ·omega
   ·rcases List.mem_cons.1 hl with rfl | hl
    ·omega
    ·cases hl
  rw [lC r4,smp];refine aPt (n:=n+9) hM hy (ls:=FG [d.2,e.2] s) (fun l hl=>?_) (Wx rfl) fun t6=>?_
  ·have hl:l=d.2.getD s []\/l=e.2.getD s []:=by simpa [FG]using hl
   have gg:∀{c:List (List Nat)},c.length=2->(∀q∈c,q.length=2/\∀a∈q,Kw a=true)->j<(c.getD s []).length:=fun {c} h1 h2=>by
    have hlt:s<c.length:=by omega
    rw [BD,aQ hlt];show j<c[s].length;rw [(h2 _ (cK hlt)).1];exact hj
   rcases hl with rfl | rfl
   ·exact gg fl1 fa1
   ·exact gg fl2 fa2
  rw [lC r4,smp];refine XD (n:=n+9) (two:=two) hM hy .nil (fun z hz=>by cases hz) (by simp) ?_;refine aMQ (n:=n+6) (two:=two) hM hy (l:=QT (FG [d.2,e.2] s) j) (w:=wts d.1.toNat e.1.toNat) rfl .list .list (fun z hz=>?_) aKK (Wx rfl) r4 (QO _) hk;have hz:z=(d.2.getD s []).getD j 0\/z=(e.2.getD s []).getD j 0:=by simpa [FG,QT]using hz
  have:z<23:=by
   rcases hz with rfl | rfl
   ·exact Iz (Nj f1 hs hj)
   ·exact Iz (Nj f2 hs hj)
  show z<18446744073709551616;omega
 have sec:∀(s m:Nat) (w:V) (acc:List (List Nat)) (S4:Hp),s<2->bO S3 S4->ML S3 S4 w acc->acc.length<=2->(∀w' S',bO S3 S'->ML S3 S' w' (acc++[[0,1].map fun j=>Ku ((QT (FG [d.2,e.2] s) j).zip (wts d.1.toNat e.1.toNat)) (LW [])])->iI y m (.ptr p 0) v2 (.list t3 (jK (wts d.1.toNat e.1.toNat)) 2) (.func jY [] [.ptr p 0]) (.func jZ [] [.ptr p 0]) w' (ni 2) (ni (s+1)) S' K)->
  iI y (m+1) (.ptr p 0) v2 (.list t3 (jK (wts d.1.toNat e.1.toNat)) 2) (.func jY [] [.ptr p 0]) (.func jZ [] [.ptr p 0]) w (ni 2) (ni s) S4 K:=by
  intro s m w acc S4 hs hle hw hal hk;rw [vT];unfold oI;refine aE ?_;have r4:=hle _ _ Lk;rw [aN,wX hs,bQ,bA,cQ (o:=0+6) r4 rfl];show aH PP .add 3 (ni 1) (ni 1) _;rw [bE (by decide)];show fE y y.most m (.ptr p 0) v2 (.list t3 (jK (wts d.1.toNat e.1.toNat)) 2) (.func jY [] [.ptr p 0]) (.func jZ [] [.ptr p 0]) w (ni s) .nil (ni 2) (ni s) (ni 2) (ni 0) S4 K;rw [hy.most,EU,iT];unfold fA;refine aE ?_;rw [aN,wX (by decide),bQ];refine one s 0 hs (by decide) S4 _ hle ?_;have aRE:∀{z:Nat} {S:Hp},aS 22 1 iC [(0,1,nu z)] S fun _ _=>True:=fun {z S}=>⟨rfl,by simp,fun _ _=>trivial⟩;refine⟨aRE,?_⟩;refine(MN.nil (S0:=S4)).app (.refl _) (by simp) fun u1 S5 DY k5 m5=>?_;rw [bE (by decide),iT];unfold fA;refine aE ?_;rw [aN,wX (by decide),bQ];refine one s 1 hs (by decide) S5 _ (hle.trans DY) ?_;refine⟨aRE,?_⟩;refine m5.app DY (by simp) fun u2 S6 NW k6 m6=>?_;rw [bE (by decide),iT];unfold fA;refine aE ?_;rw [aN,iN (by decide),aW];have nl:NL S3 S6 u2 ([0,1].map fun j=>Ku ((QT (FG [d.2,e.2] s) j).zip (wts d.1.toNat e.1.toNat)) (LW [])):=(NL.made m6).base hle;refine(hw.up NW).app (hle.trans NW) (by omega) nl fun w' S7 le7 k7 m7 _=>?_;rw [bE (by omega)];exact hk w' S7 le7 m7
 rw [hy.most,EU];refine sec 0 _ .nil [] S3 (by decide) (.refl _) .nil (by decide) fun w1 S4 IY m4=>?_;refine sec 1 _ w1 _ S4 (by decide) IY m4 (RJ 1) fun w2 S5 DY m5=>?_;rw [vT];unfold oI;refine aE ?_;rw [aN,iN (by decide),aW];have m5:ML S3 S5 w2 (MF [d,e]):=m5;have hle:bO S S5:=(dF.trans pR).trans DY;have fz:=(m5.base (dF.trans pR)).Cm;refine⟨S,fun O=> .tuple [.list (O 0) (dS (MF [d,e])) (MF [d,e]).length,ni 0],hle,fun O=> .tup ⟨rfl,fun j v u e1 e2=>?_⟩,fun O=>hK _⟩
 match j with
 | 0=>injection e1 with e1;injection e2 with e2;subst e1 e2;exact .Ao fz
 | 1=>injection e1 with e1;injection e2 with e2;subst e1 e2;exact .lT _
 | j+2=>simp at e1
end
end Go.Am
set_option maxRecDepth 100000
namespace Go.Am
def lI (x:VE) (m:Nat) (t3 t5 t6 t8 t38 t39 t40:V) (S:Hp) (K:KV):Prop:=dG PP bI BW x [.r,.r,.r,.l,.r,.d] m [] [t3,t5,t6,t8,t38,t39,t40] S K
def jS (x:VE) (t6 t8:V) (S:Hp) (K:KV):Prop:=Qv PP bI BW x [.r,.r,.r,.r,.r,.r] [] [t6,t8] S K
def Sg (x:VE) (a0 a1 a2:V) (S:Hp) (K:KV):Prop:=
 iD 29 a0 S fun v0 S=>
 iD 36 a1 S fun v1 S=>
 iD 42 a2 S fun v2 S=>
 cW wC 36 S fun v3 S=>
 bN 12 v0 S fun v4 S=>
 bN 5 v1 S fun v5 S=>
 bN 7 v2 S fun v6 S=>
 bN 7 v2 S fun v7 _=>
 aZ v7 v6 (bN 5 v1 S fun v8 _=>aZ v8 v5 (bN 12 v0 S fun v9 _=>aZ v9 v4 ((cW Ry 86 S fun v10 S=>True)/\(x.call KF [v5] S fun v11 S=>bN 7 v2 S fun v12 _=>aZ v12 v6 (bN 12 v0 S fun sO _=>aZ sO v4 (cV Ry [(0,12,v4),(12,5,v11),(17,7,v6)] fun sS=>bN 7 v2 S fun AM _=>aZ AM v6 (bN 12 v0 S fun wU _=>aZ wU v4 ((cW Ry 86 S fun rQ S=>True)/\(cW Ry 86 S fun yE S=>mL 24 yE sS S fun S=>bN 12 v0 S fun wZ S=>x.call uG [wZ] S fun v20 S=>SO .not v20 fun v21=>gP x false v21 (aP 0 v2) S fun FI S=>gL x false v21 (aT FI S) S fun TE S=>gP x false v21 (aH PP .lss 5 TE (.int .u8 (.ofNat 1))) S fun Cs S=>gQ x v21 (.bool true) Cs fun v28=>gP x false v28 (aP 0 v2) S fun v30 S=>gL x false v28 (aT v30 S) S fun Um S=>gP x false v28 (aH PP .gtr 5 Um (.int .u8 (.ofNat 4))) S fun Un S=>gQ x v28 (.bool true) Un fun Rz=>fS Rz (aP 12 yE fun Lz=>bN 5 Lz S fun v37 S=>mL 5 v3 v37 S fun S=>bN 5 v3 S fun Gg _=>bD (.tuple [Gg,(.int .i64 (.ofNat 4))]) S K) (aP 0 v2 fun Cv=>aT Cv S fun v40 S=>x.call PH [v40] S fun v41 S=>bH v41 fun Ma=>lI x x.most v0 v2 v3 yE v41 Ma (.int .i64 (.ofNat 0)) S K))))))))))
theorem aEg (x:VE) (a0 a1 a2:V) (S:Hp) (K:KV):jI PP bI BW x [a0,a1,a2] S K=Sg x a0 a1 a2 S K:=by kernel_rfl
def BX (x:VE) (m0:Nat) (t3 t5 t6 t8 t38 t39 t40:V) (S:Hp) (K:KV):Prop:=
 cH S fun S=>
 aH PP .lss 3 t40 t39 fun v0=>
 fS v0 (cF 2 t38 t40 fun v1=>bN 2 v1 S fun v2 S=>cW [.nilFunc,(.int .i64 (.ofNat 0))] 92 S fun v3 S=>mL 2 v3 v2 S fun S=>aP 0 v3 fun v4=>aT v4 S fun v5 S=>bN 24 t8 S fun v6 S=>lX x v5 [v6] S fun v7 S=>SO .not v7 fun v8=>fS v8 (aP 12 t8 fun v9=>bN 5 v9 S fun v10 S=>aP 1 v3 fun v11=>aT v11 S fun v12 S=>mL 5 t6 v10 S fun S=>aT v11 S fun sO _=>aZ sO v12 (bN 5 t6 S fun sS _=>bD (.tuple [sS,v12]) S K)) (aH PP .add 3 t40 (.int .i64 (.ofNat 1)) fun AM=>lI x m0 t3 t5 t6 t8 t38 t39 AM S K)) (bN 7 t5 S fun wU S=>x.call TG [wU] S fun rQ S=>cW GH 42 S fun yE S=>mL 7 yE rQ S fun S=>aP 0 t5 fun wZ=>aT wZ S fun v20 S=>aH PP .eql 5 v20 (.int .u8 (.ofNat 1)) fun v21=>fS v21 (aP 4 yE fun MY=>aT MY S fun FI S=>aP 12 t8 fun v24=>aP 0 v24 fun TE=>mL 1 TE (.int .i64 (.ofNat 1)) S fun S=>aT MY S fun ZS _=>aZ ZS FI (aP 12 t8 fun Cs=>aP 2 Cs fun v28=>mL 1 v28 FI S fun S=>jS x t6 t8 S K)) (aH PP .eql 5 v20 (.int .u8 (.ofNat 2)) fun v29=>fS v29 (bN 12 t3 S fun v30 S=>aP 12 t8 fun v31=>aP 4 v31 fun Um=>aT Um S fun Sv S=>aP 1 t5 fun Un=>aT Un S fun Rz S=>aP 3 t5 fun Lz=>aT Lz S fun v37 S=>x.call YC [v30,Sv,Rz,v37] S fun Gg S=>tK 0 Gg fun Cv=>tK 1 Gg fun v40=>aH PP .neq 46 v40 (.int .i64 (.ofNat 0)) fun v41=>fS v41 (aP 12 t8 fun Ma=>bN 5 Ma S fun v43 S=>mL 5 t6 v43 S fun S=>bN 5 t6 S fun v44 _=>bD (.tuple [v44,v40]) S K) (aP 12 t8 fun v45=>aP 4 v45 fun v46=>mL 1 v46 Cv S fun S=>jS x t6 t8 S K)) (aH PP .eql 5 v20 (.int .u8 (.ofNat 3)) fun v47=>fS v47 (aP 5 yE fun v48=>aT v48 S fun v49 S=>aP 12 t8 fun v50=>aP 3 v50 fun v51=>mL 1 v51 v49 S fun S=>jS x t6 t8 S K) (bN 12 t3 S fun v52 S=>aP 6 t5 fun v53=>aT v53 S fun v54 S=>x.call yP [v52,v54] S fun v55 S=>tK 0 v55 fun v56=>tK 1 v55 fun v57=>aH PP .neq 46 v57 (.int .i64 (.ofNat 0)) fun v58=>fS v58 (aP 12 t8 fun v59=>bN 5 v59 S fun v60 S=>mL 5 t6 v60 S fun S=>bN 5 t6 S fun v61 _=>bD (.tuple [v61,(.int .i64 (.ofNat 4))]) S K) (aP 12 t8 fun v62=>aP 0 v62 fun v63=>aT v63 S fun v64 S=>aH PP .add 3 v64 (.int .i64 (.ofNat 1)) fun v65=>aP 12 t8 fun v66=>aP 3 v66 fun v67=>aT v67 S fun v68 S=>aP 12 t8 fun v69=>aP 4 v69 fun v70=>aT v70 S fun v71 S=>cV wC [(0,1,v65),(1,1,v68),(2,1,v56),(4,1,v71)] fun v72=>aP 12 t8 fun v73=>mL 5 v73 v72 S fun S=>jS x t6 t8 S K)))))
theorem MS (x:VE) (m0:Nat) (t3 t5 t6 t8 t38 t39 t40:V) (S:Hp) (K:KV):lI x (m0+1) t3 t5 t6 t8 t38 t39 t40 S K=BX x m0 t3 t5 t6 t8 t38 t39 t40 S K:=by kernel_rfl
def vK (x:VE) (t6 t8:V) (S:Hp) (K:KV):Prop:=
 cH S fun S=>
 aP 12 t8 fun v0=>
 bN 5 v0 S fun v1 S=>
 mL 5 t6 v1 S fun S=>
 bN 5 t6 S fun v2 _=>
 bD (.tuple [v2,(.int .i64 (.ofNat 0))]) S K
theorem ZV (x:VE) (t6 t8:V) (S:Hp) (K:KV):Qw PP bI BW x [.r,.r,.r,.r,.r,.r] [] [t6,t8] S K=vK x t6 t8 S K:=by kernel_rfl
theorem MT (x:VE) (hm:x.most≠0) (t6 t8:V) (S:Hp) (K:KV):jS x t6 t8 S K=vK x t6 t8 S K:=(XS (hm:=hm) ..).trans (ZV x t6 t8 S K)
end Go.Am
set_option maxRecDepth 8000
namespace Go.Am
open Go.Proofs.NQ
section
variable{M n:Nat}{x:VE}{S:Hp}{K:KV}{two:Bool}{O O':Nat->Tag}{s:VB}{e:En}
theorem GF{t:TypeId}{a b:Nat}{k:V->Prop}:aH PP .eql t (n8 a) (n8 b) k=k (.bool (decide (a=b))):=by rw [KI];congr 2;simp;omega
theorem aPK{t:TypeId}{a b:Nat}{k:V->Prop}:aH PP .lss t (n8 a) (n8 b) k=k (.bool (decide (a<b))):=by rw [rC];congr 2;simp
theorem aPL{t:TypeId}{a b:Nat}{k:V->Prop}:aH PP .gtr t (n8 a) (n8 b) k=k (.bool (decide (b<a))):=by rw [QF];congr 2;simp
theorem OC{p:Prop}:aZ (.agg (pv two)) (.agg (pv two)) p=p:=cR rfl
theorem EH{p:Prop}:aZ (.agg (iH O s)) (.agg (iH O s)) p=p:=cR rfl
theorem OB{p:Prop}:aZ (.agg (OA O e)) (.agg (OA O e)) p=p:=cR rfl
def z24:List Value:=Ry
theorem aPM:∃l,LO z24=some l/\l.length=24:=⟨_,rfl,rfl⟩
theorem aHu{k:V->Prop} (hk:k (.agg (VD two O O' s e))):cV z24 [(0,12,.agg (pv two)),(12,5,.agg (iH O s)),(17,7,.agg (OA O' e))] k:=
 ⟨jV,rfl,cG rfl,HT,rfl,cG rfl,Fy,rfl,cG rfl,hk⟩
theorem aAJ{S0 S1:Hp}{bt r w:Nat}{cs:List V} (hle:bO S0 S1) (rt:S1 bt=some (.row cs 86)){vs:List V} (rr:S1 r=some (.row vs 36)) (FB:S0 r=none) (hv:vs.length=5) (hc:(cs.drop 12).take 5=iH O s) (hl:cs.length=24) (hK:∀O,K (.tuple [.agg (iH O s),ni w]) S0):
 bN 5 (.ptr bt (0+12)) S1 fun v S=>mL 5 (.ptr r 0) v S fun S=>bN 5 (.ptr r 0) S fun sS _=>bD (.tuple [sS,ni w]) S K:=by
 rw [tC rt,dL (by omega),eG,hc];refine gV (n:=5) (i:=r) rr HT rfl hv ?_;refine cO (n:=5) (i:=r) aC rfl ?_;exact bL (fun j o q=>by rw [aB (fun c=>by rw [c,FB]at q;cases q)];exact hle j o q) (hK O)
theorem aPN{y:VE} (hm:y.most≠0){S0 S1:Hp}{bt r:Nat}{cs:List V} (hle:bO S0 S1) (rt:S1 bt=some (.row cs 86)){vs:List V} (rr:S1 r=some (.row vs 36)) (FB:S0 r=none) (hv:vs.length=5) (hc:(cs.drop 12).take 5=iH O s) (hl:cs.length=24) (hK:∀O,K (.tuple [.agg (iH O s),ni 0]) S0):
 jS y (.ptr r 0) (.ptr bt 0) S1 K:=by
 rw [MT _ hm];unfold vK;refine aE ?_;rw [bA];exact aAJ hle rt rr FB hv hc hl hK
theorem aRF{y:VE} (hm:y.most≠0){S0 S1:Hp}{bt r ep:Nat}{cs:List V} (hle:bO S0 S1) (rt:S1 bt=some (.row cs 86)){vs:List V} (rr:S1 r=some (.row vs 36)) (FB:S0 r=none) (hv:vs.length=5){t1 t2 t4:Tag}{l1:List Int}{l2:List (List Nat)}{l4:List (Int×List Int)} (hc:(cs.drop 12).take 5=[ni ep,.list t1 (iV l1) l1.length,.list t2 (dS l2) l2.length,.nil,.list t4 (aD l4) l4.length]) (hl:cs.length=24) (hK:∀O,K (.tuple [.agg (iH O ⟨ep,l1,l2,[],l4⟩),ni 0]) S0):
 jS y (.ptr r 0) (.ptr bt 0) S1 K:=by
 rw [MT _ hm];unfold vK;refine aE ?_;rw [bA,tC rt,dL (by omega),eG,hc];refine gV (n:=5) (i:=r) rr rfl rfl hv ?_;refine cO (n:=5) (i:=r) aC rfl ?_;refine⟨S0,fun O=> .tuple [.agg (iH (fun k=>if k=1 then t1 else if k=2 then t2 else if k=3 then O 5 else t4) ⟨ep,l1,l2,[],l4⟩),ni 0],fun j o q=>by rw [aB (fun c=>by rw [c,FB]at q;cases q)];exact hle j o q,fun O=> .aQ0 rfl ⟨rfl,fun j v u e1 e2=>?_⟩,fun O=>hK _⟩
 match j with
 | 0=>injection e1 with e1;injection e2 with e2;subst e1 e2;exact .lT _
 | 1=>injection e1 with e1;injection e2 with e2;subst e1 e2;exact .lT _
 | 2=>injection e1 with e1;injection e2 with e2;subst e1 e2;exact .lT _
 | 3=>injection e1 with e1;injection e2 with e2;subst e1 e2;exact .Ao .nil
 | 4=>injection e1 with e1;injection e2 with e2;subst e1 e2;exact .lT _
 | 5=>injection e1 with e1;injection e2 with e2;subst e1 e2;exact .lT _
 | j+6=>simp at e1
theorem Hh{y:VE}{S0 SB S1:Hp}{bp be r bt qj i q k err m:Nat}{g:FuncId}{p:Bool}{vs:List V} (rq:SB qj=some (.row (qV k) 92)) (rt:SB bt=some (.row (VD two O O' s e) 86)) (rr:SB r=some (.row vs 36)) (hv:vs.length=5) (h0:bO S0 SB) (FB:S0 r=none)
 (hi:i<q) (hql:i*2+2<=(qV k).length) (hc:((qV k).drop (i*2)).take 2=[fq g,ni err]) (hq9:q<9) (hf:∀S2 (K:KV),bO SB S2->K (.bool p) S2->y.call g [.agg (VD two O O' s e)] S2 K) (hs:bO SB S1)
 (hF:p=false->∀O,K (.tuple [.agg (iH O s),ni err]) S0) (hT:p=true->∀S2,bO SB S2->lI y m (.ptr bp 0) (.ptr be 0) (.ptr r 0) (.ptr bt 0) (.own qj 0 q q) (ni q) (ni (i+1)) S2 K):
 lI y (m+1) (.ptr bp 0) (.ptr be 0) (.ptr r 0) (.ptr bt 0) (.own qj 0 q q) (ni q) (ni i) S1 K:=by
 rw [MS];unfold BX;refine tI SB hs ?_;rw [aN,wX hi,bQ];refine⟨hi,?_⟩;dsimp only;rw [tC rq,eG,dL hql,hc];refine cB (l:=[.Ix,ni 0]) rfl fun d hd=>?_;refine gV (n:=2) (i:=d) aC rfl rfl rfl ?_;rw [dU];have le:bO SB (aK SB d (.row [fq g,ni err] 92)):= .aI hd;have rd:aK SB d (.row [fq g,ni err] 92) d=some (.row [fq g,ni err] 92):=aC;generalize aK SB d (.row [fq g,ni err] 92)=S2 at le rd;rw [aU,cQ (o:=0) rd rfl];refine cO (n:=24) (i:=bt) (le _ _ rt) rfl ?_;refine hf S2 _ le ?_;rw [lW];cases p with
 | true=>
  rw [dD,aW,bE (by omega)];exact hT rfl S2 le
 | false=>
  rw [uN,bQ,bA,tC (le _ _ rt),dL (cG rfl),bA,cQ (o:=0+1) rd rfl];show mL 5 (.ptr r 0) (.agg (iH O s)) S2 _;refine gV (n:=5) (i:=r) (le _ _ rr) HT rfl hv ?_;have hdr:d≠r:=fun c=>by rw [c,rr]at hd;cases hd
  rw [cQ (o:=0+1) (v:=ni err) (vs:=[fq g,ni err]) (t:=92) (by rw [aB hdr];exact rd) rfl,cS];refine cO (n:=5) (i:=r) aC rfl ?_;exact bL (fun j o q=>by rw [aB (fun c=>by rw [c,FB]at q;cases q)];exact le _ _ (h0 j o q)) (hF rfl O)
theorem aM7 (Cu:140737488355328<M){y:VE} (hy:Deep PP bI gM M (n+12) y){S0 SB S1:Hp}{bp be r bt q m:Nat}{qv:V}{vs:List V} (rp:SB bp=some (.row (pv two) 29)) (re:SB be=some (.row (OA O' e) 42)) (rt:SB bt=some (.row (VD two O O' s e) 86)) (rr:SB r=some (.row vs 36)) (hv:vs.length=5) (h0:bO S0 SB) (FB:S0 r=none) (ht0:S0 bt=none) (hrt:r≠bt)
 (hsz:aBW e) (VV:Wf s) (PL:XP s) (hs:bO SB S1) (DQ:1<=e.kind/\e.kind<=4)
 (h1:e.kind=1->∀O,K (.tuple [.agg (iH O {s with ep:=1,eH:=e.eH}),ni 0]) S0)
 (h2:e.kind=2->(zU s.asked e.id e.x≠0->∀O,K (.tuple [.agg (iH O s),ni (zU s.asked e.id e.x)]) S0)/\(zU s.asked e.id e.x=0->∀O,K (.tuple [.agg (iH O {s with asked:=s.asked++[(e.id,e.x)]}),ni 0]) S0))
 (h3:e.kind=3->∀O,K (.tuple [.agg (iH O {s with next:=e.next}),ni 0]) S0)
 (h4:e.kind=4->mM e.fB=true/\∀O,K (.tuple [.agg (iH O ⟨s.ep+1,s.next,MF e.fB,[],s.asked⟩),ni 0]) S0):
 lI y (m+1) (.ptr bp 0) (.ptr be 0) (.ptr r 0) (.ptr bt 0) qv (ni q) (ni q) S1 K:=by
 have hM:1000000<M:=by omega
 have hym:y.most≠0:=by rw [hy.most];omega
 rw [MS];unfold BX;refine tI SB hs ?_;rw [aN,iN (by omega),aW];refine cO (n:=7) (i:=be) re rfl ?_;refine aMV (n:=n+7) Cu hy hsz fun O3=>?_;refine cB (l:=[n8 0,ni 0,ni 0,.nil,.nil,.nil,.nil]) rfl fun o ho=>?_;refine gV (n:=7) (i:=o) aC Fy rfl rfl ?_;rw [dU];have le:bO SB (aK SB o (.row (OA O3 e) 42)):= .aI ho;have ro:aK SB o (.row (OA O3 e) 42) o=some (.row (OA O3 e) 42):=aC;generalize aK SB o (.row (OA O3 e) 42)=S2 at le ro;have re2:=le _ _ re;have rt2:=le _ _ rt;have rr2:=le _ _ rr;have rp2:=le _ _ rp;have aAw:=h0.trans le;have hot:o≠bt:=fun c=>by rw [c,rt]at ho;cases ho
 have w1:∀{S3:Hp} {cs:List V},bO S0 S3->bO S0 (aK S3 bt (.row cs 86)):=fun {S3 cs} h j o q=>by rw [aB (fun c=>by rw [c,ht0]at q;cases q)];exact h j o q
 rw [aU,cQ (o:=0) re2 rfl];show aH PP .eql 5 (n8 e.kind) (n8 1) _;rw [GF];by_cases c1:e.kind=1
 ·rw [bF c1,bQ,bA,cQ (o:=0+4) ro rfl,bA,bA,DT rt2 (show 0+12+0<24 by decide) rfl]
  rw [cQ (o:=0+4) (v:= .list (O3 4) (dS e.eH) e.eH.length) (vs:=OA O3 e) (t:=42) (i:=o) (by rw [aB hot];exact ro) rfl,cR rfl,bA,bA,DT aC (show 0+12+2<24 by decide) rfl,dU];exact aPN (O:=fun k=>if k=2 then O3 4 else O k) hym (w1 aAw) aC (by rw [aB hrt];exact rr2) FB hv rfl rfl (h1 c1)
 rw [bJ c1,aW];show aH PP .eql 5 (n8 e.kind) (n8 2) _;rw [GF];by_cases c2:e.kind=2
 ·rw [bF c2,bQ,lC rp2,bA,bA,cQ (o:=0+12+4) (v:= .list (O 4) (aD s.asked) s.asked.length) rt2 rfl,bA,cQ (o:=0+1) (v:= .int .i64 e.id) re2 rfl,bA,cQ (o:=0+3) (v:= .list (O' 3) (iV e.x) e.x.length) re2 rfl]
  obtain⟨x0,ZI,hx2,rH⟩:=PL.ask;have aTo:=PL.few;obtain⟨h2a,h2b⟩:=h2 c2;refine aPI (n:=n) (two:=two) hM hy (by omega) hsz.x rH ⟨ZI,hx2⟩ (fun ha=>?_) (fun ha t=>?_)
  ·refine cJ (v:= .nil) rfl ?_
   refine cJ (v:=ni (zU s.asked e.id e.x)) rfl ?_;rw [lV,bJ ha,uN,bQ,bA];exact aAJ (cs:=VD two O O' s e) aAw rt2 rr2 FB hv rfl rfl (h2a ha)
  ·refine cJ (v:= .list t (aD (s.asked++[(e.id,e.x)])) (s.asked++[(e.id,e.x)]).length) rfl ?_
   refine cJ (v:=ni 0) rfl ?_;rw [lV,bF rfl,dD,aW,bA,bA,DT rt2 (show 0+12+4<24 by decide) rfl];exact aPN (O:=fun k=>if k=4 then t else O k) hym (w1 aAw) aC (by rw [aB hrt];exact rr2) FB hv rfl rfl (h2b ha)
 rw [bJ c2,aW];show aH PP .eql 5 (n8 e.kind) (n8 3) _;rw [GF];by_cases c3:e.kind=3
 ·rw [bF c3,bQ,bA,cQ (o:=0+5) ro rfl,bA,bA,DT rt2 (show 0+12+3<24 by decide) rfl]
  exact aPN (O:=fun k=>if k=3 then O3 5 else O k) hym (w1 aAw) aC (by rw [aB hrt];exact rr2) FB hv rfl rfl (h3 c3)
 rw [bJ c3,aW];have c4:e.kind=4:=by omega
 obtain⟨h4a,h4b⟩:=h4 c4;have hep:=VV.ep;rw [lC rp2,bA,cQ (o:=0+6) (v:= .list (O' 6) (MX e.fB) e.fB.length) re2 rfl];refine aM6 (n:=n) (two:=two) hM hy h4a fun t=>?_;refine cJ (v:= .list t (dS (MF e.fB)) (MF e.fB).length) rfl ?_;refine cJ (v:=ni 0) rfl ?_;rw [lV,bF rfl,dD,aW,bA,bA,cQ (o:=0+12+0) (v:=ni s.ep) rt2 rfl,bE (by omega),bA,bA,cQ (o:=0+12+3) (v:= .list (O 3) (iV s.next) s.next.length) rt2 rfl,bA,bA,cQ (o:=0+12+4) (v:= .list (O 4) (aD s.asked) s.asked.length) rt2 rfl];refine⟨rfl,cG rfl,rfl,cG rfl,rfl,cG rfl,rfl,cG rfl,?_⟩;show(aP 12 (.ptr bt 0) fun v73=>mL 5 v73 (.agg [ni (s.ep+1),.list (O 3) (iV s.next) s.next.length,.list t (dS (MF e.fB)) (MF e.fB).length,.nil,.list (O 4) (aD s.asked) s.asked.length]) S2 fun S=>jS y (.ptr r 0) (.ptr bt 0) S K);rw [bA];unfold mL;simp only [rt2];refine⟨rfl,rfl,cG rfl,?_⟩;exact aRF hym (w1 aAw) aC (by rw [aB hrt];exact rr2) FB hv rfl rfl h4b
theorem aJC (Cu:140737488355328<M) (hx:Deep PP bI gM M (n+14) x) (PL:XP s) (VV:Wf s) (hsz:aBW e) (hK:∀O,K (.tuple [.agg (iH O (xD s e).1),ni (xD s e).2]) S):x.call BW [.agg (pv two),.agg (iH O s),.agg (OA O' e)] S K:=by
 have hM:1000000<M:=by omega
 refine hx.call rfl fun y hy=>?_;rw [aEg];unfold Sg gP gL gQ;refine cA jV fun bp Qd=>?_;have dF:bO S (aK S bp (.row (pv two) 29)):= .aI Qd;have rp:aK S bp (.row (pv two) 29) bp=some (.row (pv two) 29):=aC;generalize aK S bp (.row (pv two) 29)=S1 at dF rp;refine cA HT fun bv hbv=>?_;have fG:bO S1 (aK S1 bv (.row (iH O s) 36)):= .aI hbv;have rv:aK S1 bv (.row (iH O s) 36) bv=some (.row (iH O s) 36):=aC;generalize aK S1 bv (.row (iH O s) 36)=S2 at fG rv;refine cA Fy fun be hbe=>?_;have pR:bO S2 (aK S2 be (.row (OA O' e) 42)):= .aI hbe;have re:aK S2 be (.row (OA O' e) 42) be=some (.row (OA O' e) 42):=aC;generalize aK S2 be (.row (OA O' e) 42)=S3 at pR re;refine cB (l:=[ni 0,.nil,.nil,.nil,.nil]) rfl fun r hr=>?_;have IY:bO S3 (aK S3 r (.row [ni 0,.nil,.nil,.nil,.nil] 36)):= .aI hr;have rr:aK S3 r (.row [ni 0,.nil,.nil,.nil,.nil] 36) r=some (.row [ni 0,.nil,.nil,.nil,.nil] 36):=aC;have FB:S r=none:=dF.none (fG.none (pR.none hr));generalize aK S3 r (.row [ni 0,.nil,.nil,.nil,.nil] 36)=S4 at IY rr;have EV:bO S S4:=((dF.trans fG).trans pR).trans IY;have rp4:=IY _ _ (pR _ _ (fG _ _ rp));have rv4:=IY _ _ (pR _ _ rv);have re4:=IY _ _ re;have lp:∀{K:KV},bN 12 (.ptr bp 0) S4 K=K (.agg (pv two)) S4:=lC rp4;have lv:∀{K:KV},bN 5 (.ptr bv 0) S4 K=K (.agg (iH O s)) S4:=fun {K}=>by rw [tC rv4,dL (cG rfl)];rfl
 have le_:∀{K:KV},bN 7 (.ptr be 0) S4 K=K (.agg (OA O' e)) S4:=fun {K}=>by rw [tC re4,dL (cG rfl)];rfl
 obtain⟨zl,Hy,Sm⟩:=aPM;rw [lp,lv,le_,le_,OB,lv,EH,lp,OC];refine⟨cB Hy fun _ _=>trivial,?_⟩;refine aMT (n:=n+10) hM hy VV fun O2z=>?_;rw [le_,OB,lp,OC];refine aHu (s:=s) (e:=e) (two:=two) ?_;rw [le_,OB,lp,OC];refine⟨cB Hy fun _ _=>trivial,?_⟩;refine cB Hy fun bt hbt=>?_;refine gV (n:=24) (i:=bt) aC HE rfl Sm ?_;rw [dU];have DY:bO S4 (aK S4 bt (.row (VD two O2z O' s e) 86)):= .aI hbt;have rt:aK S4 bt (.row (VD two O2z O' s e) 86) bt=some (.row (VD two O2z O' s e) 86):=aC;have ht0:S bt=none:=EV.none hbt;generalize aK S4 bt (.row (VD two O2z O' s e) 86)=S5 at DY rt;have rp5:=DY _ _ rp4;have re5:=DY _ _ re4;have rr5:=DY _ _ rr;have hrt:r≠bt:=fun c=>by rw [c,hbt]at rr;cases rr
 have leB:=EV.trans DY;have lk:∀{K:KV},aT (.ptr be 0) S5 K=K (n8 e.kind) S5:=cQ re5 rfl;rw [lC rp5];refine aFd (two:=two) hy ?_;rw [lW,dD,aF,aM,aU];dsimp only;rw [aF,aM,lk];dsimp only;rw [aF,aM];dsimp only;show aH PP .lss 5 (n8 e.kind) (n8 1) _;rw [aPK]
 have bad:(e.kind<1\/4<e.kind)->xD s e=(s,4):=fun h=>by
  unfold xD;rw [aG (by omega),aG (by omega),aG (by omega),aG (by omega)]
 by_cases c1:e.kind<1
 ·rw [bF c1]
  simp only [aF,dJ,eI,EI,bQ];rw [bad (.inl c1)]at hK;rw [bA];exact aAJ (w:=4) leB rt rr5 FB rfl rfl rfl hK
 rw [bJ c1,aF,eI,aF,aM,aU];dsimp only;rw [aF,aM,lk];dsimp only;rw [aF,aM];dsimp only;show aH PP .gtr 5 (n8 e.kind) (n8 4) _;rw [aPL];by_cases c2:4<e.kind
 ·rw [bF c2]
  simp only [aF,dJ,eI,bQ];rw [bad (.inr c2)]at hK;rw [bA];exact aAJ (w:=4) leB rt rr5 FB rfl rfl rfl hK
 rw [bJ c2,aF,eI,aW,aU,lk];refine aMJ (n:=n+12) hy (by omega) (by omega) fun j S6 NW rq=>?_;have rp6:=NW _ _ rp5;have re6:=NW _ _ re5;have rr6:=NW _ _ rr5;have rt6:=NW _ _ rt;have leC:=leB.trans NW;show lI y y.most (.ptr bp 0) (.ptr be 0) (.ptr r 0) (.ptr bt 0) (.own j 0 (qN e.kind) (qN e.kind)) (ni (qN e.kind)) (ni 0) S6 K;obtain⟨M',EU⟩:∃q,M=q+1+1+1+1:=⟨M-4,by omega⟩;rw [hy.most,EU];rw [EU]at hy hM Cu;have h12:(VD two O2z O' s e)[12]? =some (ni s.ep):=rfl;have h15:(VD two O2z O' s e)[15]? =some (.list (O2z 3) (iV s.next) s.next.length):=rfl;have h19:(VD two O2z O' s e)[19]? =some (.int .i64 e.ep):=rfl;have h21:(VD two O2z O' s e)[21]? =some (.list (O' 4) (dS e.eH) e.eH.length):=rfl;rcases(show e.kind=1\/e.kind=2\/e.kind=3\/e.kind=4 by omega)with k1 | k1 | k1 | k1
 ·rw [k1]at rq ⊢
  have hd:xD s e=if s.ep≠0 then(s,7)else if xW e.eH=false then(s,4)else({s with ep:=1,eH:=e.eH},0):=by unfold xD;rw [aJ k1]
  refine Hh (k:=1) (p:=decide (s.ep=0)) (q:=2) rq rt6 rr6 rfl leC FB (by decide) (cG rfl) rfl (by decide) (fun S2 K _ hk=>aPm (n:=n+12) hy HE h12 hk) (.refl _) (fun hp=>?_) fun hp S7 hs7=>?_
  ·rw [hd,aJ (by simpa using hp)]at hK;exact hK
  have e0:¬s.ep≠0:=by simpa using hp
  refine Hh (k:=1) (p:=xW e.eH) (q:=2) rq rt6 rr6 rfl leC FB (by decide) (cG rfl) rfl (by decide) (fun S2 K _ hk=>aPp (n:=n+1) (two:=two) (S0:=S2) hM hy HE aAH h21 .val (fun c hc=>(hsz.eH.2 c hc).1) hk) hs7 (fun hp=>?_) fun Kj S8 hs8=>?_
  ·rw [hd,aG e0,aJ hp]at hK;exact hK
  rw [hd,aG e0,aG (by rw [Kj];decide)]at hK;exact aM7 (n:=n+1) Cu hy (q:=2) rp6 re6 rt6 rr6 rfl leC FB ht0 hrt hsz VV PL hs8 (by omega) (fun _=>hK) (fun h=>by omega) (fun h=>by omega) (fun h=>by omega)
 ·rw [k1]at rq ⊢
  have hd:xD s e=if s.ep=0 then(s,7)else if zU s.asked e.id e.x=0 then({s with asked:=s.asked++[(e.id,e.x)]},0)else(s,zU s.asked e.id e.x):=by unfold xD;rw [aG (by omega),aJ k1]
  refine Hh (k:=2) (p:=decide (0<s.ep)) (q:=1) rq rt6 rr6 rfl leC FB (by decide) (cG rfl) rfl (by decide) (fun S2 K _ hk=>aKB (n:=n+12) hy HE h12 hk) (.refl _) (fun hp=>?_) fun hp S7 hs7=>?_
  ·rw [hd,aJ (by simpa using hp)]at hK;exact hK
  have e0:¬s.ep=0:=by have:=of_decide_eq_true hp;omega
  rw [hd,aG e0]at hK;refine aM7 (n:=n+1) Cu hy (q:=1) rp6 re6 rt6 rr6 rfl leC FB ht0 hrt hsz VV PL hs7 (by omega) (fun h=>by omega) (fun _=>⟨fun ha=>?_,fun ha=>?_⟩) (fun h=>by omega) (fun h=>by omega)
  ·rw [aG ha]at hK;exact hK
  ·rw [aJ ha]at hK;exact hK
 ·rw [k1]at rq ⊢
  have hd:xD s e=if s.ep=0 then(s,7)else if ¬(s.next.length=0/\e.ep=s.ep)then(s,7)else if HV e.next=false then(s,4)else({s with next:=e.next},0):=by unfold xD;rw [aG (by omega),aG (by omega),aJ k1]
  refine Hh (k:=3) (p:=decide (0<s.ep)) (q:=3) rq rt6 rr6 rfl leC FB (by decide) (cG rfl) rfl (by decide) (fun S2 K _ hk=>aKB (n:=n+12) hy HE h12 hk) (.refl _) (fun hp=>?_) fun hp S7 hs7=>?_
  ·rw [hd,aJ (by simpa using hp)]at hK;exact hK
  have e0:¬s.ep=0:=by have:=of_decide_eq_true hp;omega
  refine Hh (k:=3) (p:=decide (s.next.length=0)&&decide (e.ep=s.ep)) (q:=3) rq rt6 rr6 rfl leC FB (by decide) (cG rfl) rfl (by decide) (fun S2 K _ hk=>aPn (n:=n+12) hy HE h12 h15 (fun k=>cD) h19 hk) hs7 (fun Kj=>?_) fun Kj S8 hs8=>?_
  ·rw [hd,aG e0,aJ (by simpa using Kj)]at hK;exact hK
  have e1:¬¬(s.next.length=0/\e.ep=s.ep):=not_not_intro (by simpa using Kj);refine Hh (k:=3) (p:=HV e.next) (q:=3) rq rt6 rr6 rfl leC FB (by decide) (cG rfl) rfl (by decide) (fun S2 K _ hk=>aPu (n:=n+8) hM hy hsz.next hk) hs8 (fun hp3=>?_) fun hp3 S9 hs9=>?_
  ·rw [hd,aG e0,aG e1,aJ hp3]at hK;exact hK
  rw [hd,aG e0,aG e1,aG (by rw [hp3];decide)]at hK;exact aM7 (n:=n+1) Cu hy (q:=3) rp6 re6 rt6 rr6 rfl leC FB ht0 hrt hsz VV PL hs9 (by omega) (fun h=>by omega) (fun h=>by omega) (fun _=>hK) (fun h=>by omega)
 ·rw [k1]at rq ⊢
  have hd:xD s e=if ¬(0<s.next.length/\e.ep=s.ep)then(s,7)else if mM e.fB=false then(s,4)else if AT s.eH e.fB=false then(s,21)else(⟨s.ep+1,s.next,MF e.fB,[],s.asked⟩,0):=by unfold xD;rw [aG (by omega),aG (by omega),aG (by omega),aJ k1]
  refine Hh (k:=4) (p:=decide (0<s.next.length)&&decide (e.ep=s.ep)) (q:=3) rq rt6 rr6 rfl leC FB (by decide) (cG rfl) rfl (by decide) (fun S2 K _ hk=>aPo (n:=n+12) hy HE h12 h15 (fun k=>cD) h19 hk) (.refl _) (fun hp=>?_) fun hp S7 hs7=>?_
  ·rw [hd,aJ (by simpa using hp)]at hK;exact hK
  have e0:¬¬(0<s.next.length/\e.ep=s.ep):=not_not_intro (by simpa using hp);refine Hh (k:=4) (p:=mM e.fB) (q:=3) rq rt6 rr6 rfl leC FB (by decide) (cG rfl) rfl (by decide) (fun S2 K _ hk=>aHn (n:=n) hM hy hsz hk) hs7 (fun Kj=>?_) fun Kj S8 hs8=>?_
  ·rw [hd,aG e0,aJ Kj]at hK;exact hK
  refine Hh (k:=4) (p:=AT s.eH e.fB) (q:=3) rq rt6 rr6 rfl leC FB (by decide) (cG rfl) rfl (by decide) (fun S2 K _ hk=>aKT (n:=n+7) hM hy VV Kj hsz hk) hs8 (fun hp3=>?_) fun hp3 S9 hs9=>?_
  ·rw [hd,aG e0,aG (by rw [Kj];decide),aJ hp3]at hK;exact hK
  rw [hd,aG e0,aG (by rw [Kj];decide),aG (by rw [hp3];decide)]at hK;exact aM7 (n:=n+1) Cu hy (q:=3) rp6 re6 rt6 rr6 rfl leC FB ht0 hrt hsz VV PL hs9 (by omega) (fun h=>by omega) (fun h=>by omega) (fun h=>by omega) (fun _=>⟨Kj,hK⟩)
end
end Go.Am
set_option maxRecDepth 4000
namespace Go.Am
open Go.Proofs.NQ Go.Mq
def jP (S:Hp) (t:Nat) (s:BitVec 64) (ah:List Nat) (d:Nat):Prop:=∃w,S t=some (.row [vb s,w,ni d] 140)/\Ah (fun _=>none) w ah
section
variable{M n t d:Nat}{x:VE}{K:KV}{s:BitVec 64}{ah:List Nat}
theorem jP.lT{S S':Hp} (h:jP S t s ah d) (hs:∀j o,S j=some o->(∀vs m,o≠ .fW vs 51 m)->S' j=some o):jP S' t s ah d:=by
 obtain⟨w,h1,h2⟩:=h;exact⟨w,hs _ _ h1 (fun vs m c=>by cases c),h2⟩
theorem jP.aFH{S S':Hp}{el:TypeId} (he:el≠22) (h:jP S t s ah d) (hs:∀j o,S j=some o->(∀vs m,o≠ .fW vs el m)->S' j=some o):jP S' t s ah d:=by
 obtain⟨w,h1,h2⟩:=h;exact⟨w,hs _ _ h1 (fun vs m c=>by cases c),h2⟩
theorem jP.at{S S':Hp} (h:jP S t s ah d) (hs:S' t=S t):jP S' t s ah d:=by
 obtain⟨w,h1,h2⟩:=h;exact⟨w,by rw [hs];exact h1,h2⟩
theorem aD8{t:Nat}:del (fun _=>none) t=(fun _=>none):=by funext i;unfold del;split<;>rfl
theorem aKw{S:Hp} (hM:2<M) (hx:Deep PP bI gM M (n+2) x) (h:jP S t s ah d) (hd:d<1000000) (hK:∀S' a s' TX,Cp S S' t->jP S' t s' TX (d+1)->(∀k,drawn (k+1) ah s=a::drawn k TX s')->K (nu a) S'):x.call dM [.ptr t 0,nu 11] S K:=by
 have h':aI2 (fun _=>none) S t s ah d:=by
  obtain⟨w,h1,h2⟩:=h;exact⟨w,h1,by rw [aD8];exact h2⟩
 refine aQC hM hx h' (fun i o e=>by rw [aD8]at e;cases e) hd fun S' a s' TX b _ tp h1 _=>hK S' a s' TX b ?_ h1;obtain⟨w,h1,h2⟩:=tp;exact⟨w,h1,by rw [aD8]at h2;exact h2⟩
theorem aHh (hM:100000<M) (hx:Deep PP bI gM M (n+3) x){S0:Hp}{N X:Nat}{sd:BitVec 64}{AH:List Nat} (hN:N<1000) (hd:d+N<1000000)
 (hK:∀S v s' TX,bO (del S0 t) S->jP S t s' TX (d+N)->MN (del S0 t) S v (X%11::drawn N AH sd)->(∀k,drawn (N+k) AH sd=drawn N AH sd++drawn k TX s')->bD v S K):
 ∀(r i m:Nat) (S:Hp) (v:V) (s:BitVec 64) (ah l:List Nat),i+r=N->r<m->bO (del S0 t) S->jP S t s ah (d+i)->MN (del S0 t) S v (X%11::l)->l.length=i->(∀k,drawn (i+k) AH sd=l++drawn k ah s)->
  oN x m (nu 11) (.func dM [.ptr t 0] []) v (ni N) (ni i) S K:=by
 intro r;induction r with
 | zero=>
  intro i m S v s ah l hi hm hle htp hm0 hl he;obtain⟨m,rfl⟩:=bG (show m≠0 by omega);rw [HX];unfold xX;refine aE ?_;rw [aN,iN (by omega),aW];have e:i=N:=by omega
  subst e;have e0:l=drawn i AH sd:=by have:=he 0;simp [drawn]at this;exact this.symm
  subst e0;exact hK S v s ah hle htp hm0 he
 | succ r ih=>
  intro i m S v s ah l hi hm hle htp hm0 hl he;obtain⟨m,rfl⟩:=bG (show m≠0 by omega);rw [HX];unfold xX;refine aE ?_;rw [aN,wX (by omega),bQ];show x.call dM [.ptr t 0,nu 11] S _;refine aKw (by omega) hx htp (by omega) fun S1 a s1 ah1 b1 tp1 h1=>?_
  have dF:bO (del S0 t) S1:=fun j o e=>by
   have hj:j≠t:=fun c=>by rw [c,LQ]at e;cases e
   rw [b1 j hj];exact hle j o e
  obtain⟨w,q1,q2⟩:=htp;have m1:MN (del S0 t) S1 v (X%11::l):=hm0.but (fun j o hj e=>by rw [b1 j hj];exact e) q1 (fun vs m e=>by cases e) (fun vs e=>by cases e);refine m1.app dF (by simp;omega) fun v2 S2 fG p2 m2=>?_;rw [bE (by omega)];obtain⟨w1,q3,q4⟩:=tp1;refine ih (i+1) m S2 v2 s1 ah1 (l++[a]) (by omega) (by omega) fG ⟨w1,p2 _ _ q3 (fun vs m e=>by cases e),q4⟩ m2 (by simp [hl]) fun k=>?_;have e1:=he (k+1);rw [h1 k]at e1;rw [show i+1+k=i+(k+1)by omega,e1];simp
theorem Rp (hM:100000<M) (hx:Deep PP bI gM M (n+4) x){S:Hp}{N X:Nat} (hX:EY X) (hN:N<1000) (hd:d+N<1000000) (h:jP S t s ah d)
 (hK:∀S' s' TX,Cp S S' t->jP S' t s' TX (d+N)->(∀k,drawn (N+k) ah s=drawn N ah s++drawn k TX s')->∀O,K (.list O (jK (X%11::drawn N ah s)) (X%11::drawn N ah s).length) S'):x.call vW [nu X,ni N,nu 11,.func dM [.ptr t 0] []] S K:=by
 refine hx.call rfl fun y hy=>?_;rw [Uj];unfold Aw;rw [Ai (by decide)];refine⟨rfl,by simp,fun j hj=>?_⟩;obtain⟨w0,hw0,_⟩:=id h;have hjt:j≠t:=fY hj hw0;show oN y y.most (nu 11) _ (.own j 0 1 1) (ni N) (ni 0) (aK S j (.row [nu (X%11)] 22)) K;rw [hy.most];have le0:bO (del S t) (aK S j (.row [nu (X%11)] 22)):=(Zj).trans (.aI hj);obtain⟨w,q1,q2⟩:=h;refine aHh (AH:=ah) (sd:=s) hM hy hN hd (fun S2 v s2 ah2 fG tp2 m2 h2=>?_) N 0 M _ _ s ah [] (by omega) (by omega) le0 ⟨w,by rw [aB (aO hjt)];exact q1,q2⟩ (.own (l:=[X%11]) (by rw [SN hjt];exact hj) aC) rfl (fun k=>by simp);obtain⟨w2,q3,q4⟩:=tp2;have leT:=Iv fG;have mT:=m2.pS q3 (fun vs m e=>by cases e) (fun vs e=>by cases e);refine gJ leT mT.Cm (hK _ s2 ah2 (fun i hi=>AF hi) ⟨w2,by rw [XJ];exact q3,q4⟩ h2)
end
set_option maxRecDepth 4000
theorem aHi{S S3:Hp}{t i el:Nat}{vs us:List V}{m q:Nat} (l:bO (pS S S3 t) S3) (h:S3 i=some (.fW vs el m)) (q8:S3 t=some (.row us q)) (h0:del S t i=none):pS S S3 t i=none:=by
 have hi:i≠t:=fun c=>by rw [c,q8]at h;cases h
 rw [AF hi];rw [SN hi]at h0;exact h0
section
variable{M n:Nat}{x:VE}{S S0:Hp}{K:KV}{two:Bool}{t d:Nat}{s:BitVec 64}{ah:List Nat}
theorem aND (hM:100000<M) (hx:Deep PP bI gM M (n+5) x){X:Nat} (hX:EY X) (hd:d+1000<1000000) (h:jP S t s ah d)
 (hK:∀S' s' TX,Cp S S' t->jP S' t s' TX (d+tQ two)->(∀k,drawn (tQ two+k) ah s=drawn (tQ two) ah s++drawn k TX s')->∀O,K (.list O (dS (AG (tT two+1) (X%11::drawn (tQ two) ah s))) (tT two+1)) S'):
 x.call MG [.agg (pv two),nu X,.func dM [.ptr t 0] []] S K:=by
 have hT:tT two<=2:=by cases two<;>decide
 have hT1:1<=tT two:=by cases two<;>decide
 have hQ:tQ two<9:=by cases two<;>decide
 refine hx.call rfl fun y hy=>?_;rw [aD9];unfold Rq;obtain⟨w0,hw0,_⟩:=id h;refine cA jV fun p hp=>?_;have Vk:p≠t:=fY hp hw0;have dF:bO S (aK S p (.row (pv two) 29)):= .aI hp;have rp:aK S p (.row (pv two) 29) p=some (.row (pv two) 29):=aC;have oth:∀j,j≠p->aK S p (.row (pv two) 29) j=S j:=fun j hj=>aB hj;have h1:jP (aK S p (.row (pv two) 29)) t s ah d:=h.lT fun j o e _=>dF _ _ e;generalize aK S p (.row (pv two) 29)=S1 at dF rp oth h1;have e6:(pv two)[6]? =some (ni (tT two)):=rfl;have e1:(pv two)[1]? =some (nu 11):=rfl;have hmul:(tT two+1)*(tT two+1)<=9:=by cases two<;>decide
 have aRc:1<=(tT two+1)*(tT two+1):=by cases two<;>decide
 rw [aU,cQ rp e6,bE (by omega),Cn (by omega),Zk aRc (by omega),aU,cQ rp e1];refine Rp (n:=n) hM hy hX (show tQ two<1000 by omega) (by omega) h1 fun S2 s2 ah2 aCq tp2 dr2 O=>?_;generalize hl:X%11::drawn ((tT two+1)*(tT two+1)-1) ah s=l;have Sn:X%11::drawn (tQ two) ah s=l:=hl;have hll:l.length=(tT two+1)*(tT two+1):=by rw [<-hl,oU,vV];omega
 have DK:(X%11::drawn (tQ two) ah s).length=l.length:=by rw [Sn]
 show vMk 51 24 cU (ni (tT two+1)) (ni (tT two+1)) S2 _;refine⟨bR _,by omega,by omega,fun r hr=>?_⟩;have hz:(List.replicate (tT two+1) [V.nil]).flatten=List.replicate (tT two+1) V.nil:=by cases two<;>rfl
 show bH (.own r 0 (tT two+1) (tT two+1)) fun v10=>mU y y.most (ni (tT two+1)) _ (.own r 0 (tT two+1) (tT two+1)) v10 (ni 0) (aK S2 r (.row (List.replicate (tT two+1) [V.nil]).flatten 51)) K;rw [hz,hy.most];show mU y M (ni (tT two+1)) (.list O (jK l) l.length) (.own r 0 (tT two+1) (tT two+1)) (ni (tT two+1)) (ni 0) (aK S2 r (.row (List.replicate (tT two+1) V.nil) 51)) K;have fG:bO S2 (aK S2 r (.row (List.replicate (tT two+1) V.nil) 51)):= .aI hr
 have go:∀(k i m:Nat) (S3:Hp) (vs:List V),i+k=tT two+1->k<m->bO S2 S3->S3 r=some (.row vs 51)->vs.length=tT two+1->(∀j,j<i->∃t,vs[j]? =some (.list t (jK ((l.drop (j*(tT two+1))).take (tT two+1))) (tT two+1)))->
  mU y m (ni (tT two+1)) (.list O (jK l) l.length) (.own r 0 (tT two+1) (tT two+1)) (ni (tT two+1)) (ni i) S3 K:=by
  intro k;induction k with
  | zero=>
   intro i m S3 vs hi hm pR r3 LB hv;obtain⟨m,rfl⟩:=bG (show m≠0 by omega);rw [JJ];unfold zV;refine aE ?_;rw [aN,bJ (by omega),aW];obtain⟨w2,q3,q4⟩:=tp2
   have hrS:S r=none:=by
    cases e:S r with
    | none=>rfl
    | some o=>
     have hrt:r≠t:=fY hr q3;have:=aCq r hrt;rw [hr,dF _ _ e]at this;cases this
   have leT:bO (pS S S3 t) S3:=fun i o e=>by
    unfold pS at e;by_cases hi:i=t
    ·subst hi;rw [aJ rfl]at e;exact e
    ·rw [aG hi]at e
     exact pR _ _ (by rw [aCq i hi];exact dF _ _ e)
   have ht3:S3 t=some (.row [vb s2,w2,ni (d+((tT two+1)*(tT two+1)-1))] 140):=pR _ _ q3
   refine gJ leT (cs:=dS (AG (tT two+1) l)) (.own r3 (by rw [AF (fY hr q3)];exact hrS) (bR _) (by rw [LB];unfold dS;rw [lR,Iw];omega) fun j v dd x1 x2=>?_) (by
    have hk:=hK (pS S S3 t) s2 ah2 (fun i hi=>AF hi) ⟨w2,by rw [XJ];exact ht3,q4⟩ dr2;rw [Sn]at hk;exact hk)
   rw [eG]at x1;have hj:j<tT two+1:=by have:=(List.getElem?_eq_some_iff.1 x1).1;omega
   obtain⟨t3,e3⟩:=hv j (by omega);rw [x1]at e3;injection e3 with e3;subst e3
   have hd2:(dS (AG (tT two+1) l))[j]? =some (.list (jK ((l.drop (j*(tT two+1))).take (tT two+1))) (tT two+1)):=by
    unfold dS AG;rw [dO,dO,Bi hj]
    have hlen:((l.drop (j*(tT two+1))).take (tT two+1)).length=tT two+1:=by
     rw [mP,IG,hll];have:(j+1)*(tT two+1)<=(tT two+1)*(tT two+1):=RG _ hj;rw [Bs]at this;omega
    simp only [CY,hlen]
   rw [hd2]at x2;injection x2 with x2;subst x2;exact .list
  | succ k ih=>
   intro i m S3 vs hi hm pR r3 LB hv;obtain⟨m,rfl⟩:=bG (show m≠0 by omega);rw [JJ];unfold zV;refine aE ?_;have So:i<tT two+1:=by omega
   have Dl:(i+1)*(tT two+1)<=(tT two+1)*(tT two+1):=RG _ So;have NH:i*(tT two+1)<(i+1)*(tT two+1):=by rw [Bs];omega
   have hb3:(i+1)*(tT two+1)-i*(tT two+1)=tT two+1:=by rw [Bs];omega
   rw [aN,bF So,bQ,Cn (by omega),bE (by omega),Cn (by omega),bE (by omega),Cn (by omega)];refine⟨Nat.le_of_lt NH,bR _,by rw [hll];exact Dl,NH,by rw [jL,GY,hll];exact Dl,?_⟩;rw [hb3,jL,jL,aI3,aI4];refine⟨So,?_⟩;refine NT r3 rfl (by omega) ?_;rw [bE (by omega),GB (by omega)];refine ih (i+1) m _ _ (by omega) (by omega) (fun j o e=>by rw [aB (fun c=>by rw [c,hr]at e;cases e)];exact pR _ _ e) aC (by rw [Bk];exact LB) fun j hj=>?_;rw [show 0+i*1=i by omega];by_cases hji:j=i
   ·subst hji
    exact⟨_,by rw [VG (by omega)]⟩
   ·obtain⟨t3,e3⟩:=hv j (by omega)
    exact⟨t3,by rw [IE (aO hji)];exact e3⟩
 exact go (tT two+1) 0 M _ _ (by omega) (by omega) fG aC (by rw [OQ]) (fun j hj=>by omega)
theorem aKy (hM:1000000<M) (hx:Deep PP bI gM M (n+21) x){bp bd N:Nat}{SB:Hp}{O:Tag}{L:List (Nat×Nat)} (hL:L.length<1000) (aPj:∀p∈L,EY p.1/\EY p.2){AH:List Nat}{sd:BitVec 64}
 {DE:Nat} (hK:∀S v w,bO SB S->(∃s' TX,jP S t s' TX DE)->S bp=some (.row (pv two) 29)->S bd=some (.row [.nil,.nil,.nil] 79)->GL 33 SB S v (mD (fM (tT two+1) (tQ two) L (drawn ((tQ two+tQ two)*L.length) AH sd)))->GL 33 SB S w (mD (bM (tT two+1) (tQ two) L (drawn ((tQ two+tQ two)*L.length) AH sd)))->
  (bN 12 (.ptr bp 0) S fun rQ S=>x.call bP [rQ,v,w] S fun yE S=>cV MH [(0,1,yE)] fun wZ=>cW MH 79 S fun v20 S=>mL 3 v20 wZ S fun S=>fZ x x.most (ni N) (.ptr bp 0) (.ptr bd 0) v w v20 (.int .u64 (.ofNat 1)) S K)):
 ∀(r i m:Nat) (S:Hp) (v w:V) (s:BitVec 64) (ah:List Nat) (F B:List (List (List Nat))),i+r=L.length->r<m->bO SB S->S bp=some (.row (pv two) 29)->S bd=some (.row [.nil,.nil,.nil] 79)->SB t=none->d+100*L.length<500000->DE=d+(tQ two+tQ two)*L.length->jP S t s ah (d+(tQ two+tQ two)*i)->GL 33 SB S v (mD F)->GL 33 SB S w (mD B)->(∀j m m',v= .acc j m->w≠ .acc j m')->F.length=i->B.length=i->
  F++fM (tT two+1) (tQ two) (L.drop i) (drawn ((tQ two+tQ two)*r) ah s)=fM (tT two+1) (tQ two) L (drawn ((tQ two+tQ two)*L.length) AH sd)->B++bM (tT two+1) (tQ two) (L.drop i) (drawn ((tQ two+tQ two)*r) ah s)=bM (tT two+1) (tQ two) L (drawn ((tQ two+tQ two)*L.length) AH sd)->
  vF x m (ni N) (.ptr t 0) (.ptr bp 0) (.ptr bd 0) v w (.list O (pds L) L.length) (ni L.length) (ni i) S K:=by
 have hQ:tQ two<9:=by cases two<;>decide
 intro r;induction r with
 | zero=>
  intro i m S v w s ah F B hi hm le rp rd nt hd hDE tp gv gw ap hF hB eF eB;obtain⟨m,rfl⟩:=bG (show m≠0 by omega);rw [JK];unfold zW;refine aE ?_;rw [aN,iN (by omega),aW];rw [Ww (by omega)]at eF eB;have eF:F++[]=_:=eF;have eB:B++[]=_:=eB;rw [OU]at eF eB;rw [eF]at gv;rw [eB]at gw;exact hK S v w le ⟨s,ah,by rw [hDE,<-show i=L.length by omega];exact tp⟩ rp rd gv gw
 | succ r ih=>
  intro i m S v w s ah F B hi hm le rp rd nt hd hDE tp gv gw ap hF hB eF eB;obtain⟨m,rfl⟩:=bG (show m≠0 by omega);rw [JK];unfold zW;refine aE ?_;have IW:i<L.length:=by omega
  obtain⟨g1,g2⟩:=aOH (l:=L) (i:=i) (a:=L[i].1) (b:=L[i].2) (aQ IW);obtain⟨t1,t2⟩:=aOI g1 g2;obtain⟨aSD,aSE⟩:=aPj _ (cK IW);rw [aN,wX IW,bQ,fH IW,SU,dL t1,t2];show cW GA 145 S fun v3 S=>mL 2 v3 (.agg [nu L[i].1,nu L[i].2]) S _;refine cB (l:=[nu 0,nu 0]) rfl fun k hk=>?_;refine gV (n:=2) (i:=k) aC rfl rfl rfl ?_;rw [dU];have rk:aK S k (.row [nu L[i].1,nu L[i].2] 145) k=some (.row [nu L[i].1,nu L[i].2] 145):=aC;have dF:bO S (aK S k (.row [nu L[i].1,nu L[i].2] 145)):= .aI hk;generalize aK S k (.row [nu L[i].1,nu L[i].2] 145)=S1 at rk dF;have tp1:jP S1 t s ah (d+(tQ two+tQ two)*i):=tp.aFH (el:=33) (by decide) fun j o e _=>dF _ _ e;obtain⟨w0,hw0,_⟩:=id tp1;have hkt:k≠t:=fun c=>by rw [c,hw0]at rk;injection rk with rk;injection rk with _ rk;cases rk
  have Vk:bp≠t:=fun c=>by have:=dF _ _ rp;rw [c,hw0]at this;injection this with this;injection this with _ this;cases this
  have hdt:bd≠t:=fun c=>by have:=dF _ _ rd;rw [c,hw0]at this;injection this with this;injection this with _ this;cases this
  have aTf:(tQ two+tQ two)*i<=20*L.length:=by
   have:(tQ two+tQ two)*i<=20*i:=RG _ (by omega);omega
  rw [lC (dF _ _ rp),aU,cQ rk rfl];refine aND (n:=n+16) (by omega) hx aSD (by omega) tp1 fun S2 s2 ah2 aCq tp2 dr2 Oa=>?_;have lB1:bO SB S1:=le.trans dF
  have aRd:∀{v:V} {ds:List Dt},GL 33 SB S v ds->GL 33 SB S2 v ds:=fun {v ds} g=>(g.up dF).but fun j vs m e=>by
   rw [aCq j (fun c=>by rw [c,hw0]at e;injection e with e;cases e)];exact e
  have lB2:bO SB S2:=fun j o e=>by rw [aCq j (fun c=>by rw [c,nt]at e;cases e)];exact lB1 _ _ e
  have gv2:=aRd gv;have gw2:=aRd gw;have rp2:S2 bp=some (.row (pv two) 29):=by rw [aCq _ Vk];exact dF _ _ rp
  have rd2:S2 bd=some (.row [.nil,.nil,.nil] 79):=by rw [aCq _ hdt];exact dF _ _ rd
  have rk2:S2 k=some (.row [nu L[i].1,nu L[i].2] 145):=by rw [aCq _ hkt];exact rk
  have hmF:(mD F).length<=1000000:=by rw [SQ];omega
  have hmB:(mD B).length<=1000000:=by rw [SQ];omega
  refine gv2.app (t:=Oa) (d:= .list (dS (AG (tT two+1) (L[i].1%11::drawn (tQ two) ah s))) (tT two+1)) (z:= .slice none 0 0) (zv:= .nil) lB2 hmF rfl (by decide) fun v3 S3 pR p3 o3 gv3=>?_
  have q3:∀{j:Nat} {o:Ob},S2 j=some o->(∀vs m,o≠ .fW vs 33 m)->S3 j=some o:=fun {j o} e xC=>p3 _ _ e fun m c=>by
   obtain⟨vs,n,e2⟩:=gv2.there c;rw [e]at e2;injection e2 with e2;exact xC _ _ e2
  have Lk:=q3 rp2 (fun vs m e=>by cases e);have rd3:=q3 rd2 (fun vs m e=>by cases e);have rk3:=q3 rk2 (fun vs m e=>by cases e);have tp3:=tp2.aFH (el:=33) (by decide) (S':=S3) fun j o e xC=>q3 e xC;have gw3:GL 33 SB S3 w (mD B):=gw2.lT p3 fun j m m' e c=>ap j m' m c e
  have ap3:∀j m m',v3= .acc j m->w≠ .acc j m':=fun j m m' e c=>by
   rcases o3 j m e with ⟨m2,e2⟩ | e2
   ·exact ap j m2 m' e2 c
   ·obtain⟨vs,n,e4⟩:=gw2.there c
    rw [e2]at e4;cases e4
  rw [lC Lk,aU,cQ rk3 rfl];obtain⟨w1,hw1,_⟩:=id tp3;refine aND (n:=n+16) (by omega) hx aSE (by omega) tp3 fun S4 s4 ah4 aME tp4 dr4 Obz=>?_
  have aRe:∀{v:V} {ds:List Dt},GL 33 SB S3 v ds->GL 33 SB S4 v ds:=fun {v ds} g=>g.but fun j vs m e=>by
   rw [aME j (fun c=>by rw [c,hw1]at e;injection e with e;cases e)];exact e
  have lB4:bO SB S4:=fun j o e=>by rw [aME j (fun c=>by rw [c,nt]at e;cases e)];exact pR _ _ e
  have gv4:=aRe gv3;have gw4:=aRe gw3;have rp4:S4 bp=some (.row (pv two) 29):=by rw [aME _ Vk];exact Lk
  have rd4:S4 bd=some (.row [.nil,.nil,.nil] 79):=by rw [aME _ hdt];exact rd3
  refine gw4.app (t:=Obz) (d:= .list (dS (AG (tT two+1) (L[i].2%11::drawn (tQ two) ah2 s2))) (tT two+1)) (z:= .slice none 0 0) (zv:= .nil) lB4 hmB rfl (by decide) fun w5 S5 DY p5 o5 gw5=>?_
  have q5:∀{j:Nat} {o:Ob},S4 j=some o->(∀vs m,o≠ .fW vs 33 m)->S5 j=some o:=fun {j o} e xC=>p5 _ _ e fun m c=>by
   obtain⟨vs,n,e2⟩:=gw4.there c;rw [e]at e2;injection e2 with e2;exact xC _ _ e2
  have gv5:=gv4.lT p5 fun j m m' e c=>ap3 j m m' e c
  have ap5:∀j m m',v3= .acc j m->w5≠ .acc j m':=fun j m m' e c=>by
   rcases o5 j m' c with ⟨m2,e2⟩ | e2
   ·exact ap3 j m m2 e e2
   ·obtain⟨vs,n,e4⟩:=gv4.there e
    rw [e2]at e4;cases e4
  rw [bE (by omega)];have hd2:L.drop i=L[i]::L.drop (i+1):=lP IW
  have edr:drawn ((tQ two+tQ two)*(r+1)) ah s=drawn (tQ two) ah s++(drawn (tQ two) ah2 s2++drawn ((tQ two+tQ two)*r) ah4 s4):=by
   rw [show(tQ two+tQ two)*(r+1)=tQ two+(tQ two+(tQ two+tQ two)*r)by rw [Bt];omega,dr2,dr4]
  have hl1:(drawn (tQ two) ah s).length=tQ two:=vV _ _ _;have DK:(drawn (tQ two) ah2 s2).length=tQ two:=vV _ _ _;rw [edr,hd2]at eF eB
  have c1:(drawn (tQ two) ah s++(drawn (tQ two) ah2 s2++drawn ((tQ two+tQ two)*r) ah4 s4)).take (tQ two)=drawn (tQ two) ah s:=by
   rw [List.take_append_of_le_length (by omega),lQ (by omega)]
  have c2:(drawn (tQ two) ah s++(drawn (tQ two) ah2 s2++drawn ((tQ two+tQ two)*r) ah4 s4)).drop (tQ two)=drawn (tQ two) ah2 s2++drawn ((tQ two+tQ two)*r) ah4 s4:=by
   rw [List.drop_append_of_le_length (by omega),oS (by omega),Bm]
  have c3:(drawn (tQ two) ah2 s2++drawn ((tQ two+tQ two)*r) ah4 s4).take (tQ two)=drawn (tQ two) ah2 s2:=by
   rw [List.take_append_of_le_length (by omega),lQ (by omega)]
  have c4:(drawn (tQ two) ah s++(drawn (tQ two) ah2 s2++drawn ((tQ two+tQ two)*r) ah4 s4)).drop (tQ two+tQ two)=drawn ((tQ two+tQ two)*r) ah4 s4:=by
   rw [<-Bn,c2,List.drop_append_of_le_length (by omega),oS (by omega),Bm]
  rw [aFk,c1,c4]at eF;rw [aFl,c2,c3,c4]at eB;have rl1:∀l,(AG (tT two+1) l).length=tT two+1:=fun l=>Iw _ _;refine ih (i+1) m S5 v3 w5 s4 ah4 (F++[AG (tT two+1) (L[i].1%11::drawn (tQ two) ah s)]) (B++[AG (tT two+1) (L[i].2%11::drawn (tQ two) ah2 s2)]) (by omega) (by omega) DY (q5 rp4 fun vs m e=>by cases e) (q5 rd4 fun vs m e=>by cases e) nt hd hDE ?_ ?_ ?_ ap5 (by simp [hF]) (by simp [hB]) ?_ ?_
  ·have:=tp4.aFH (el:=33) (by decide) (S':=S5) fun j o e xC=>q5 e xC
   rw [uO,uO]at this;rw [Bt];exact this
  ·have:mD (F++[AG (tT two+1) (L[i].1%11::drawn (tQ two) ah s)])=mD F++[.list (dS (AG (tT two+1) (L[i].1%11::drawn (tQ two) ah s))) (tT two+1)]:=by rw [Zp];show _++[Dt.list _ _]=_;rw [rl1]
   rw [this];exact gv5
  ·have:mD (B++[AG (tT two+1) (L[i].2%11::drawn (tQ two) ah2 s2)])=mD B++[.list (dS (AG (tT two+1) (L[i].2%11::drawn (tQ two) ah2 s2))) (tT two+1)]:=by rw [Zp];show _++[Dt.list _ _]=_;rw [rl1]
   rw [this];exact gw5
  ·rw [BE];exact eF
  ·rw [BE];exact eB
theorem aO0 (hM:1000000<M) (hx:Deep PP bI gM M (n+22) x){O:Tag}{L:List (Nat×Nat)} (hL:L.length=2) (aPj:∀p∈L,EY p.1/\EY p.2){dd:Nat} (hdd:dd<400000) (h:jP S t s ah dd)
 (hK:∀D Sb S' vr vc t1,Cp S Sb t->(∃s' TX,jP Sb t s' TX (dd+(tQ two+tQ two)*L.length))->D=drawn ((tQ two+tQ two)*L.length) ah s->bO Sb S'->GG Sb S' vr (RS (tT two+1) (tN two) (fT two L D) (bT two L D))->GG Sb S' vc (CS (tT two+1) (tN two) (fT two L D) (bT two L D))->
  K (.tuple [.agg [.list t1 (mD (tG (fT two L D) (bT two L D))) (tG (fT two L D) (bT two L D)).length,vr,vc],ni 0]) S'):
 x.call uJ [.agg (pv two),.list O (pds L) L.length,ni (tN two),.ptr t 0] S K:=by
 have hQ:tQ two<9:=by cases two<;>decide
 have hT:tT two<=2:=by cases two<;>decide
 have hN:tN two<=7:=by cases two<;>decide
 have hN1:1<=tN two:=by cases two<;>decide
 have hQQ:tQ two+1=(tT two+1)*(tT two+1):=by cases two<;>rfl
 refine hx.call rfl fun y hy=>?_;rw [aCr];unfold Ky gP gL gK gQ;obtain⟨w0,hw0,_⟩:=id h;refine cA jV fun p hp=>?_;have Vk:p≠t:=fY hp hw0;have dF:bO S (aK S p (.row (pv two) 29)):= .aI hp;have rp:aK S p (.row (pv two) 29) p=some (.row (pv two) 29):=aC;generalize aK S p (.row (pv two) 29)=S1 at dF rp;refine cB (l:=[.nil,.nil,.nil]) rfl fun bd hbd=>?_;have hdt:bd≠t:=fY hbd (dF _ _ hw0);have fG:bO S1 (aK S1 bd (.row [.nil,.nil,.nil] 79)):= .aI hbd;have rd:aK S1 bd (.row [.nil,.nil,.nil] 79) bd=some (.row [.nil,.nil,.nil] 79):=aC;generalize aK S1 bd (.row [.nil,.nil,.nil] 79)=S2 at fG rd;have rp2:=fG _ _ rp;have aRf:=dF.trans fG;rw [lC rp2];refine aFd (two:=two) hy ?_;rw [lW,dD,aF,aM];dsimp only;rw [aF,aM];dsimp only;rw [cD,aF,aM,lC rp2];dsimp only;rw [aF,aM];dsimp only;refine Wa (n:=n+20) (two:=two) hy ?_;rw [aF,aM];dsimp only;rw [lV,bF hL,dD,aF,eI,aF,aM];dsimp only;rw [aF,aM];dsimp only;rw [aN,bJ (by omega),aF,eI,aF,aM];dsimp only;rw [aF,aM];dsimp only;rw [LR,bJ (by omega),aF,eI,aW,cD,hy.most];have aSF:del S t t=none:=by unfold del;rw [aJ rfl]
 have leB:bO (del S t) S2:=Zj.trans aRf;have hp0:del S t p=none:=by rw [SN Vk];exact hp
 have aRg:del S t bd=none:=by rw [SN hdt];exact dF.none hbd
 have tp2:jP S2 t s ah (dd+(tQ two+tQ two)*0):=h.aFH (el:=33) (by decide) fun j o e _=>aRf _ _ e;refine aKy (n:=n) (t:=t) (d:=dd) (DE:=dd+(tQ two+tQ two)*L.length) (N:=tN two) (SB:=del S t) (L:=L) (AH:=ah) (sd:=s) hM hy (by rw [hL];decide) aPj (fun S3 v w pR htE Lk rd3 gv gw=>?_) L.length 0 M S2 .nil .nil s ah [] [] (by omega) (by rw [hL];omega) leB rp2 rd aSF (by rw [hL];omega) rfl tp2 .nil .nil (fun j m m' e=>by cases e) rfl rfl rfl rfl;obtain⟨s8,ah8,w8,q8,u8⟩:=htE;have leT:bO (pS S S3 t) S3:=Iv pR
 have gT:∀{v:V} {ds:List Dt},GL 33 (del S t) S3 v ds->GL 33 (pS S S3 t) S3 v ds:=fun {v ds} g=>by
  cases g with
  | nil=>exact .nil
  | acc h0 h hl hv=>exact .acc (aHi leT h q8 h0) h hl hv
 replace gv:=gT gv
 replace gw:=gT gw
 have hp0:pS S S3 t p=none:=by rw [AF Vk];exact hp
 have aRg:pS S S3 t bd=none:=by rw [AF hdt];exact dF.none hbd
 have pR:=leT;generalize hD:drawn ((tQ two+tQ two)*L.length) ah s=D at gv gw hK;have hDl:D.length=(tQ two+tQ two)*L.length:=by rw [<-hD];exact vV _ _ _
 have hDc:∀c∈D,c<11:=by rw [<-hD];exact QI _ _ _
 obtain⟨sqf,sqb⟩:=aJj (n:=tT two+1) (Q:=tQ two) hQQ L D (by omega) hDc;have lF:(fM (tT two+1) (tQ two) L D).length=2:=by rw [aJf,hL]
 have lB:(bM (tT two+1) (tQ two) L D).length=2:=by rw [aJg,hL]
 rw [lC Lk];refine aI7 (n:=n+1) hM hy (by rw [lF];decide) (by rw [lF,lB]) (fun i a b=>(sqf _ (cK a)).sq (by omega) (sqb _ (cK b))) gv gw fun t1=>?_
 have hbl:∀{k:V->Prop} {u:V},fR u=true->vZ u=(fun p=>p [u])->k (.agg [u,.nil,.nil])->cV MH [(0,1,u)] k:=fun {k u} h1 hc hk=>by
  have hz:LO MH=some [.nil,.nil,.nil]:=rfl;unfold cV rL;rw [hz];show iG [(0,1,u)] [.nil,.nil,.nil] _;unfold iG;rw [hc];exact⟨rfl,by simp,hk⟩
 refine hbl rfl rfl ?_;refine cB (l:=[.nil,.nil,.nil]) rfl fun bS hbS=>?_;refine gV (n:=3) (i:=bS) aC rfl rfl rfl ?_;rw [dU,hy.most];have IY:bO S3 (aK S3 bS (.row [.list t1 (mD (tG (fM (tT two+1) (tQ two) L D) (bM (tT two+1) (tQ two) L D))) (tG (fM (tT two+1) (tQ two) L D) (bM (tT two+1) (tQ two) L D)).length,.nil,.nil] 79)):= .aI hbS;refine aJi (n:=n+12) (two:=two) (i:=0) (k:=tT two+1) (SB:=pS S S3 t) hM hy (by omega) (by omega) (by omega) (by rw [lF,lB]) (by rw [lF];decide) sqf sqb rfl (pR.none hbS) aRg (aO (fY hbS rd3)) (fun S' vr vc a b c=>hK D (pS S S3 t) S' vr vc t1 (fun i hi=>AF hi) ⟨s8,ah8,w8,by rw [XJ];exact q8,u8⟩ rfl a b c) (tN two) M _ .nil .nil (by omega) (by omega) (pR.trans IY) (IY _ _ Lk) (IY _ _ rd3) aC (gv.up IY) (gw.up IY) .nil .nil (fun j m m' e=>by cases e)
end
set_option maxRecDepth 4000
section
variable{M n t:Nat}{x:VE}{K:KV}{two:Bool}
theorem aKx (hM:1000000<M) (hx:Deep PP bI gM M (n+4) x){S0:Hp}{va:V}{l:List Nat} (ha:NV (del S0 t) va l) (UX:LP l) (hl:l.length<1000){bp:Nat}{v29:V}{FS RS:List (List Nat)}{DE:Nat}
 (hK:∀S vf vr,bO (del S0 t) S->(∃s' TX,jP S t s' TX DE)->S bp=some (.row (pv two) 29)->ML (del S0 t) S vf FS->ML (del S0 t) S vr RS->(aP 5 (.ptr bp 0) fun v24=>aT v24 S fun TE S=>vMk 82 24 cU TE TE S fun ZS S=>bH ZS fun Cs=>gF x x.most (.ptr bp 0) vf vr ZS Cs (.int .i64 (.ofNat 0)) S K)):
 ∀(r i m:Nat) (S:Hp) (vf vr:V) (s:BitVec 64) (ah:List Nat) (fs rs:List (List Nat)) (d:Nat),i+r=l.length->r<m->d+(2*tT two+1)*r=DE->DE<900000->fs.length=i->rs.length=i->bO (del S0 t) S->jP S t s ah d->S bp=some (.row (pv two) 29)->ML (del S0 t) S vf fs->ML (del S0 t) S vr rs->(∀j m m',vf= .acc j m->vr≠ .acc j m')->
  fs++fsR (tT two) (l.drop i) (drawn ((tT two+(1+tT two))*r) ah s)=FS->rs++rsR (tT two) r (drawn ((tT two+(1+tT two))*r) ah s)=RS->
  rP x m (.ptr bp 0) (.func dM [.ptr t 0] []) vf vr va (ni l.length) (ni i) S K:=by
 intro r;have hT:tT two<=2:=by cases two<;>decide
 induction r with
 | zero=>
  intro i m S vf vr s ah fs rs d hi hm hd hDE hf hr hle htp Qd mf mr aGe eF eR;obtain⟨m,rfl⟩:=bG (show m≠0 by omega);rw [FH];unfold wE;refine aE ?_;rw [aN,iN (by omega),aW];have e:l.drop i=[]:=Ww (by omega);rw [e]at eF;simp only [fsR,rsR,OU]at eF eR;subst eF eR;exact hK S vf vr hle ⟨s,ah,by rw [<-hd,Nat.mul_zero,VN];exact htp⟩ Qd mf mr
 | succ r ih=>
  intro i m S vf vr s ah fs rs d hi hm hd hDE hf hr hle htp Qd mf mr aGe eF eR;obtain⟨m,rfl⟩:=bG (show m≠0 by omega);rw [FH];unfold wE;refine aE ?_;have hlt:i<l.length:=by omega
  obtain⟨p,hp,RD⟩:=ha.at (i:=i) (aQ hlt);have hX:=UX _ (cK hlt);have e6:(pv two)[6]? =some (ni (tT two)):=rfl;have e1:(pv two)[1]? =some (nu 11):=rfl;rw [Bt]at hd;rw [aN,wX (by omega),bQ,hp,RD S hle,aU,cQ Qd e6,aU,cQ Qd e1];refine Rp (d:=d) (n:=n) (by omega) hx hX (by omega) (by omega) htp fun S1 s1 ah1 b1 tp1 h1 O=>?_
  have dF:bO (del S0 t) S1:=fun j o e=>by
   have hj:j≠t:=fun c=>by rw [c,LQ]at e;cases e
   rw [b1 j hj];exact hle j o e
  have btp:bp≠t:=fun c=>by
   obtain⟨w,q,_⟩:=htp;rw [c,q]at Qd;injection Qd with e;injection e with _ e;cases e
  obtain⟨wt,aQ7,_⟩:=id htp;have Yb:∀j o,j≠t->S j=some o->S1 j=some o:=fun j o hj e=>by rw [b1 j hj];exact e
  have mf1:=mf.but Yb aQ7 (by decide);have mr1:=mr.but Yb aQ7 (by decide);have bp1:=Yb _ _ btp Qd;refine mf1.aQt dF (by omega) .val fun vf2 S2 fG k2 mf2 d2=>?_;have hmo:=mf1.ob
  have k2':∀j o,S1 j=some o->(∀vs m,o≠ .fW vs 51 m)->S2 j=some o:=fun j o e xC=>k2 j o e fun m c=>by
   obtain⟨_,vs,q,e2⟩:=hmo _ _ c;rw [e]at e2;injection e2 with e2;exact xC _ _ e2
  have tp2:=tp1.lT k2';have bp2:=k2' _ _ bp1 (fun vs m c=>by cases c)
  have mr2:ML (del S0 t) S2 vr rs:=mr1.lT (u:= .nil) (t:=0) (fun m c=>by cases c) k2 (fun j m m' c c2=>aGe j m' m c2 c) (fun j vs m c=>by
   obtain⟨_,vs,q,e2⟩:=hmo _ _ c;constructor<;>(rw [e2];intro c;cases c)) (fun j m c=>(hmo j m c).2)
  have aNC:∀j m m',vf2= .acc j m->vr≠ .acc j m':=fun j m m' c c2=>by
   rcases d2 j m c with q | ⟨m2,q⟩
   ·obtain⟨_,vs,n,e⟩:=mr1.ob j m' c2
    rw [q]at e;cases e
   ·exact aGe j m2 m' q c2
  rw [aU,cQ bp2 e1,aU,cQ bp2 e6,aU,cQ bp2 e1];show x.call dM [.ptr t 0,nu 11] S2 _;refine aKw (n:=n+2) (by omega) hx tp2 (by omega) fun S3 a s3 ah3 b3 tp3 h3=>?_;obtain⟨wt2,aQ8,_⟩:=id tp2;have hk3:∀j o,j≠t->S2 j=some o->S3 j=some o:=fun j o hj e=>by rw [b3 j hj];exact e
  have mf3:=mf2.but hk3 aQ8 (by decide);have mr3:=mr2.but hk3 aQ8 (by decide);have bp3:=hk3 _ _ btp bp2
  have pR:bO (del S0 t) S3:=fun j o e=>by
   have hj:j≠t:=fun c=>by rw [c,LQ]at e;cases e
   exact hk3 j o hj (fG j o e)
  have aTl:a<11:=by
   have:=h3 0;exact QI 1 ah1 s1 a (by rw [this];exact .head _)
  rw [cQ bp3 e1,cS,cQ bp3 e6,cS];refine Rp (d:=d+tT two+1) (n:=n) (by omega) hx (X:=a) (show a<18446744073709551616 by omega) (by omega) (by omega) tp3 fun S4 s4 ah4 b4 tp4 h4 O4=>?_;obtain⟨wt3,aQ9,_⟩:=id tp3;have hk4:∀j o,j≠t->S3 j=some o->S4 j=some o:=fun j o hj e=>by rw [b4 j hj];exact e
  have mf4:=mf3.but hk4 aQ9 (by decide);have mr4:=mr3.but hk4 aQ9 (by decide);have bp4:=hk4 _ _ btp bp3
  have IY:bO (del S0 t) S4:=fun j o e=>by
   have hj:j≠t:=fun c=>by rw [c,LQ]at e;cases e
   exact hk4 j o hj (pR j o e)
  refine⟨aLR rfl,?_⟩;refine mr4.aQt IY (by omega) .val fun vr5 S5 DY k5 mr5 d5=>?_;have aPi:=mr4.ob
  have k5':∀j o,S4 j=some o->(∀vs m,o≠ .fW vs 51 m)->S5 j=some o:=fun j o e xC=>k5 j o e fun m c=>by
   obtain⟨_,vs,q,e2⟩:=aPi _ _ c;rw [e]at e2;injection e2 with e2;exact xC _ _ e2
  have tp5:=tp4.lT k5';have bp5:=k5' _ _ bp4 (fun vs m c=>by cases c)
  have mf5:ML (del S0 t) S5 vf2 _:=mf4.lT (u:= .nil) (t:=0) (fun m c=>by cases c) k5 (fun j m m' c c2=>aNC j m m' c c2) (fun j vs m c=>by
   obtain⟨_,vs,q,e2⟩:=aPi _ _ c;constructor<;>(rw [e2];intro c;cases c)) (fun j m c=>(aPi j m c).2)
  have aRa:∀j m m',vf2= .acc j m->vr5≠ .acc j m':=fun j m m' c c2=>by
   rcases d5 j m' c2 with q | ⟨m2,q⟩
   ·obtain⟨_,vs,n,e⟩:=mf4.ob j m c
    rw [q]at e;cases e
   ·exact aNC j m m2 c q
  have eD:drawn ((tT two+(1+tT two))*(r+1)) ah s=drawn (tT two) ah s++a::(drawn (tT two) ah3 s3++drawn ((tT two+(1+tT two))*r) ah4 s4):=by
   have e:(tT two+(1+tT two))*(r+1)=tT two+(tT two+(tT two+(1+tT two))*r+1):=by rw [Bt];omega
   rw [e,h1,h3,h4]
  obtain⟨c1,c2,c3,c4⟩:=aSp (a:=a) (C:=drawn ((tT two+(1+tT two))*r) ah4 s4) (vV (tT two) ah s) (vV (tT two) ah3 s3);have ed:l.drop i=l[i]::l.drop (i+1):=lP hlt;rw [eD]at eF eR;rw [ed]at eF;unfold fsR at eF;unfold rsR at eR;rw [c1,c4]at eF;rw [c2,c3,c4]at eR;rw [bE (by omega)];refine ih (i+1) m S5 vf2 vr5 s4 ah4 _ _ (d+tT two+1+tT two) (by omega) (by omega) (by omega) hDE (by simp [hf]) (by simp [hr]) DY tp5 bp5 mf5 mr5 aRa ?_ ?_
  ·rw [<-eF];simp
  ·rw [<-eR];simp
theorem aMa (hM:1000000<M) (hx:Deep PP bI gM M (n+16) x){S0:Hp}{t:Nat}{s:BitVec 64}{ah:List Nat}{va:V}{l:List Nat} (ha:NV (del S0 t) va l) (UX:LP l) (hl:l.length=2){dd:Nat} (hdd:dd<500000) (h:jP S0 t s ah dd)
 (hK:∀S' fs rs,Cp S0 S' t->(∃s' TX,jP S' t s' TX (dd+(2*tT two+1)*l.length))->fs=fsR (tT two) l (drawn ((tT two+(1+tT two))*l.length) ah s)->rs=rsR (tT two) l.length (drawn ((tT two+(1+tT two))*l.length) ah s)->∀O1 O2z,K (.tuple [.list O1 (shD fs rs (tN two)) (tN two),.list O2z (dS (iO fs rs)) (iO fs rs).length,ni 0]) S'):x.call yN [.agg (pv two),va,.ptr t 0] S0 K:=by
 refine hx.call rfl fun y hy=>?_;rw [aAv];unfold Gu gP gL gK gQ;refine cA jV fun bp Qd=>?_;have rp:aK S0 bp (.row (pv two) 29) bp=some (.row (pv two) 29):=aC;have dF:bO S0 (aK S0 bp (.row (pv two) 29)):= .aI Qd;have hbt:bp≠t:=by obtain⟨w,q,_⟩:=h;exact fY Qd q
 have aRb:∀{K:KV},bN 12 (.ptr bp 0) (aK S0 bp (.row (pv two) 29)) K=K (.agg (pv two)) (aK S0 bp (.row (pv two) 29)):=fun {K}=>by
  rw [tC rp,dL (by rw [BP];omega),xG,lQ (by rw [BP];omega)]
 rw [aRb];refine aFd hy ?_;simp only [aF,lW,dD,aM,ha.len,aRb];refine Wa (n:=n+14) hy ?_;rw [lV,bF hl,eI];simp only [dD];rw [aW,hy.most];have tp1:jP (aK S0 bp (.row (pv two) 29)) t s ah dd:=h.lT fun j o e _=>dF j o e;have ha1:∀c∈drawn ((tT two+(1+tT two))*l.length) ah s,c<11:=QI _ _ _;have hT:tT two<=2:=by cases two<;>decide
 have hd0:dd+(2*tT two+1)*l.length<900000:=by rw [hl];omega
 refine aKx (n:=n+11) (two:=two) (S0:=S0) (t:=t) (bp:=bp) (v29:= .nil) (FS:=fsR (tT two) l (drawn ((tT two+(1+tT two))*l.length) ah s)) (RS:=rsR (tT two) l.length (drawn ((tT two+(1+tT two))*l.length) ah s)) hM hy ha UX (by omega) (DE:=dd+(2*tT two+1)*l.length) ?_ l.length 0 M _ .nil .nil s ah [] [] dd (by omega) (by omega) rfl hd0 rfl rfl ((Zj).trans dF) tp1 rp .nil .nil (fun j m m' c=>by cases c) (by simp) (by simp);intro S vf vr hle htE hb mf mr;obtain⟨s8,ah8,w8,q8,u8⟩:=htE;have hK:=hK (pS S0 S t) _ _ (fun i hi=>AF hi) ⟨s8,ah8,w8,by rw [XJ];exact q8,u8⟩ rfl rfl;have f1:=aE9 (T:=tT two) l (drawn ((tT two+(1+tT two))*l.length) ah s) (by rw [vV];exact Bu (by congr 1<;>omega)) ha1;have r1:=aFa (T:=tT two) l.length (drawn ((tT two+(1+tT two))*l.length) ah s) (by rw [vV];exact Bu (by congr 1<;>omega)) ha1;have f2:=aE7 (tT two) l (drawn ((tT two+(1+tT two))*l.length) ah s);have r2:=aE8 (tT two) l.length (drawn ((tT two+(1+tT two))*l.length) ah s);generalize fsR (tT two) l (drawn ((tT two+(1+tT two))*l.length) ah s)=fs at hK f1 f2 mf;generalize rsR (tT two) l.length (drawn ((tT two+(1+tT two))*l.length) ah s)=rs at hK r1 r2 mr;have hN:tN two<=7:=by cases two<;>decide
 have e5:(pv two)[5]? =some (ni (tN two)):=rfl;rw [aU,cQ hb e5];refine⟨bR _,by omega,by omega,?_⟩;have hz:LO cU=some [.nil]:=rfl;unfold rL;rw [hz];intro o ho
 have e:(List.replicate (tN two) [V.nil]).flatten=List.replicate (tN two) .nil:=by
  generalize tN two=k;induction k with
  | zero=>rfl
  | succ k ih=>rw [IF,OS,ih,IF];rfl
 rw [e];show gF y y.most _ _ _ (.own o 0 (tN two) (tN two)) (ni (tN two)) (ni 0) _ K;rw [hy.most];refine aGJ (n:=n) (SLz:=S) hM hy mf mr (fun q hq c h=>?_) (fun q hq c h=>?_) (fun q hq=>?_) (fun q hq=>?_) (by omega) (by omega) (fun i h1 h2=>?_) (by omega) hb ho ?_ (tN two) 0 M _ (List.replicate (tN two) .nil) (by omega) (by omega) ⟨.aI ho,aC,by simp,fun j hj=>aX hj (by omega),fun j _ hj=>by rw [List.getElem?_replicate,aJ hj]⟩
 ·exact Nat.lt_trans ((f1 q hq).2 c h) (by decide)
 ·exact Nat.lt_trans ((r1 q hq).2 c h) (by decide)
 ·rw [(f1 q hq).1];omega
 ·rw [(r1 q hq).1];omega
 ·rw [(f1 _ (cK h1)).1,(r1 _ (cK h2)).1]
 ·intro S2 ws u inv m2
  have hot:o≠t:=fY ho q8;have leT:bO (pS S0 S t) S:=Iv hle;have aAw:bO (pS S0 S t) S2:=leT.trans inv.le;have m3:=m2.base leT
  have hfz:Fi (pS S0 S t) S2 (.own o 0 (tN two) (tN two)) (.list (shD fs rs (tN two)) (tN two)):=by
   refine .own inv.row (leT.none ho) (bR _) (by unfold shD;rw [inv.len];simp) fun j v d a b=>?_;rw [eG]at a;unfold shD at b;rw [dO]at b;cases hq:(List.range (tN two))[j]? with
   | none=>rw [hq]at b;cases b
   | some k=>
    rw [hq]at b;injection b with b;subst b;obtain⟨hj,hk⟩:=List.getElem?_eq_some_iff.1 hq;rw [List.getElem_range]at hk;subst hk;obtain⟨w,a2,pn⟩:=inv.done j (by simpa using hj);rw [a]at a2;injection a2 with a2;subst a2;exact(pn.base leT).Cm
  refine⟨pS S0 S t,fun O=> .tuple [.list (O 0) (shD fs rs (tN two)) (tN two),.list (O 1) (dS (iO fs rs)) (iO fs rs).length,ni 0],aAw,fun O=> .tup ⟨rfl,fun j v u e1 e2=>?_⟩,fun O=>hK _ _⟩
  match j with
  | 0=>injection e1 with e1;injection e2 with e2;subst e1 e2;exact .Ao hfz
  | 1=>injection e1 with e1;injection e2 with e2;subst e1 e2;exact .Ao m3.Cm
  | 2=>injection e1 with e1;injection e2 with e2;subst e1 e2;exact .lT _
  | j+3=>simp at e1
end
end Go.Am
set_option maxRecDepth 100000
namespace Go.Am
def lG (x:VE) (m:Nat) (t1 t5 t6:V) (S:Hp) (K:KV):Prop:=dG PP bI lJ x [.r,.r,.r,.l,.r,.d] m [] [t1,t5,t6] S K
def gB (x:VE) (m0:Nat) (t1 t5 t6:V) (S:Hp) (K:KV):Prop:=Qv PP bI lJ x [.r,.r,.r,.l,.r,.d,.d,.r,.r] [m0] [t1,t5,t6] S K
def JH (x:VE) (a0 a1:V) (S:Hp) (K:KV):Prop:=
 x.call EC [a1] S fun v0 S=>
 gL x false v0 (x.call AE [] S) S fun v2 S=>gP x false v0 (SO .not v2) S fun v4 S=>gQ x v0 (.bool true) v4 fun v5=>fS v5 (x.call AE [] S fun v6 S=>bD v6 S K) (x.call PB [a0] S fun v7 S=>lG x x.most a1 v7 (.int .i64 (.ofNat 0)) S K)
theorem ZN (x:VE) (a0 a1:V) (S:Hp) (K:KV):jI PP bI lJ x [a0,a1] S K=JH x a0 a1 S K:=by kernel_rfl
def oY (x:VE) (m0:Nat) (t1 t5 t6:V) (S:Hp) (K:KV):Prop:=
 cH S fun S=>
 bH t1 fun v0=>
 aH PP .lss 3 t6 v0 fun v1=>
 fS v1 (oW PP t5 fun v2=>aP 14 v2 fun v3=>bN 5 v3 S fun v4 S=>cF 9 t1 t6 fun v5=>bN 9 v5 S fun v6 S=>bN 9 v5 S fun v7 _=>aZ v7 v6 (bN 5 v3 S fun v8 _=>aZ v8 v4 ((cW wC 36 S fun v9 S=>True)/\((cW GH 42 S fun v10 S=>True)/\(x.call dP [t5,v6] S fun v11 S=>bN 5 v3 S fun v12 _=>aZ v12 v4 (bN 5 v3 S fun sO _=>aZ sO v4 ((cW wC 36 S fun sS S=>True)/\((cW GH 42 S fun AM S=>True)/\(cW wC 36 S fun wU S=>cW GH 42 S fun rQ S=>mL 5 wU v4 S fun S=>mL 7 rQ v11 S fun S=>oW PP t5 fun yE=>aP 0 yE fun wZ=>bN 12 wZ S fun v20 S=>bN 5 wU S fun v21 S=>bN 7 rQ S fun MY S=>bN 7 rQ S fun FI _=>aZ FI MY (bN 5 wU S fun v24 _=>aZ v24 v21 (bN 12 wZ S fun TE _=>aZ TE v20 ((cW wC 36 S fun ZS S=>True)/\(x.call BW [v20,v21,MY] S fun Cs S=>tK 0 Cs fun v28=>tK 1 Cs fun v29=>(cW wC 36 S fun v30 S=>True)/\(cW wC 36 S fun v31 S=>mL 5 v31 v28 S fun S=>bN 5 v31 S fun Um S=>oW PP t5 fun Sv=>aP 14 Sv fun Un=>mL 5 Un Um S fun S=>aH PP .neq 46 v29 (.int .i64 (.ofNat 0)) fun Rz=>fS Rz (bN 5 v31 S fun Lz S=>bN 5 wU S fun v37 S=>x.call SV [Lz,v37] S fun Gg S=>SO .not Gg fun Cv=>fS Cv (bD (.bool false) S K) (gB x m0 t1 t5 t6 S K)) (aP 0 rQ fun v40=>aT v40 S fun v41 S=>aH PP .eql 5 v41 (.int .u8 (.ofNat 1)) fun Ma=>gP x false Ma (aP 0 rQ) S fun v44 S=>gL x false Ma (aT v44 S) S fun v46 S=>gP x false Ma (aH PP .eql 5 v46 (.int .u8 (.ofNat 4))) S fun v48 S=>gQ x Ma (.bool true) v48 fun v49=>aP 0 v31 fun v50=>aT v50 S fun v51 S=>aP 0 wU fun v52=>aT v52 S fun v53 S=>aH PP .add 3 v53 (.int .i64 (.ofNat 1)) fun v54=>aH PP .eql 3 v51 v54 fun v55=>aH PP .neq 4 v49 v55 fun v56=>gK x false v56 v49 S fun v57 S=>gP x false v56 (SO .not v57) S fun v59 S=>gK x false v56 v59 S fun v60 S=>gP x true v60 (aP 0 v31) S fun v62 S=>gL x true v60 (aT v62 S) S fun v64 S=>gP x true v60 (aP 0 wU) S fun v66 S=>gL x true v60 (aT v66 S) S fun v68 S=>gP x true v60 (aH PP .neq 3 v64 v68) S fun v70 S=>gP x false v56 (gQ x v60 v70 (.bool false)) S fun v72 S=>gQ x v56 (.bool true) v72 fun v73=>gP x false v73 (aP 0 rQ) S fun v75 S=>gL x false v73 (aT v75 S) S fun v77 S=>gP x false v73 (aH PP .eql 5 v77 (.int .u8 (.ofNat 1))) S fun v79 S=>gK x false v73 v79 S fun v80 S=>gP x true v80 (aP 0 wU) S fun v82 S=>gL x true v80 (aT v82 S) S fun v84 S=>gP x true v80 (aH PP .neq 3 v84 (.int .i64 (.ofNat 0))) S fun v86 S=>gP x false v73 (gQ x v80 v86 (.bool false)) S fun v88 S=>gQ x v73 (.bool true) v88 fun v89=>fS v89 (bD (.bool false) S K) (aP 0 rQ fun v90=>aT v90 S fun v91 S=>aH PP .eql 5 v91 (.int .u8 (.ofNat 3)) fun v92=>gP x false v92 (aP 0 rQ) S fun v94 S=>gL x false v92 (aT v94 S) S fun v96 S=>gP x false v92 (aH PP .eql 5 v96 (.int .u8 (.ofNat 2))) S fun v98 S=>gK x false v92 v98 S fun v99 S=>gP x true v99 (aP 3 wU) S fun aSI S=>gL x true v99 (aT aSI S) S fun aSJ S=>gP x true v99 (bH aSJ) S fun v105 S=>gP x true v99 (aH PP .gtr 3 v105 (.int .i64 (.ofNat 0))) S fun v107 S=>gP x false v92 (gQ x v99 v107 (.bool false)) S fun v109 S=>gQ x v92 (.bool true) v109 fun aSK=>aP 3 v31 fun aSL=>aT aSL S fun aSM S=>bH aSM fun aSN=>aH PP .gtr 3 aSN (.int .i64 (.ofNat 0)) fun aSO=>aH PP .neq 4 aSK aSO fun Jj=>gP x false Jj (aP 0 rQ) S fun v117 S=>gL x false Jj (aT v117 S) S fun aSP S=>gP x false Jj (aH PP .eql 5 aSP (.int .u8 (.ofNat 2))) S fun aSQ S=>gP x false Jj (aP 4 v31) S fun aSR S=>gL x false Jj (aT aSR S) S fun aSS S=>gP x false Jj (bH aSS) S fun v127 S=>gP x false Jj (aP 4 wU) S fun aST S=>gL x false Jj (aT aST S) S fun v131 S=>gP x false Jj (bH v131) S fun aSU S=>gP x false Jj (aH PP .add 3 aSU (.int .i64 (.ofNat 1))) S fun aSV S=>gP x false Jj (aH PP .eql 3 v127 aSV) S fun aSW S=>gP x false Jj (aH PP .neq 4 aSQ aSW) S fun v139 S=>gQ x Jj (.bool true) v139 fun aSX=>fS aSX (bD (.bool false) S K) (oW PP t5 fun v141=>aP 0 v141 fun aRp=>bN 12 aRp S fun v143 S=>bN 5 v31 S fun aRq S=>bN 7 rQ S fun v145 S=>bN 7 rQ S fun v146 _=>aZ v146 v145 (bN 5 v31 S fun aSY _=>aZ aSY aRq (bN 12 aRp S fun v148 _=>aZ v148 v143 ((cW wC 36 S fun aTm S=>True)/\(x.call BW [v143,aRq,v145] S fun aRr S=>tK 0 aRr fun aSZ=>tK 1 aRr fun v152=>(cW wC 36 S fun aTn S=>True)/\(cW wC 36 S fun v154 S=>mL 5 v154 aSZ S fun S=>aH PP .eql 46 v152 (.int .i64 (.ofNat 0)) fun aS0=>fS aS0 (bD (.bool false) S K) (gB x m0 t1 t5 t6 S K))))))))))))))))))))))) (bD (.bool true) S K)
theorem wQ (x:VE) (m0:Nat) (t1 t5 t6:V) (S:Hp) (K:KV):lG x (m0+1) t1 t5 t6 S K=oY x m0 t1 t5 t6 S K:=by kernel_rfl
def mS (x:VE) (m0:Nat) (t1 t5 t6:V) (S:Hp) (K:KV):Prop:=
 cH S fun S=>
 aH PP .add 3 t6 (.int .i64 (.ofNat 1)) fun v0=>
 lG x m0 t1 t5 v0 S K
theorem EZ (x:VE) (m0:Nat) (t1 t5 t6:V) (S:Hp) (K:KV):Qw PP bI lJ x [.r,.r,.r,.l,.r,.d,.d,.r,.r] [m0] [t1,t5,t6] S K=mS x m0 t1 t5 t6 S K:=by kernel_rfl
theorem GJ (x:VE) (hm:x.most≠0) (m0:Nat) (t1 t5 t6:V) (S:Hp) (K:KV):gB x m0 t1 t5 t6 S K=mS x m0 t1 t5 t6 S K:=(XS (hm:=hm) ..).trans (EZ x m0 t1 t5 t6 S K)
def pU (x:VE) (m:Nat) (t0 t3 t4:V) (S:Hp) (K:KV):Prop:=dG PP bI EC x [.r,.r,.l,.r,.d] m [] [t0,t3,t4] S K
def mG (x:VE) (m:Nat) (m0:Nat) (t0 t3 t4 t5:V) (S:Hp) (K:KV):Prop:=dG PP bI EC x [.r,.r,.l,.r,.d,.d,.r,.l,.d,.r,.r,.d] m [m0] [t0,t3,t4,t5] S K
def Fx (x:VE) (a0:V) (S:Hp) (K:KV):Prop:=
 pU x x.most a0 (.int .i64 (.ofNat 0)) (.int .i64 (.ofNat 0)) S K
theorem Zv (x:VE) (a0:V) (S:Hp) (K:KV):jI PP bI EC x [a0] S K=Fx x a0 S K:=by kernel_rfl
def zK (x:VE) (m0:Nat) (t0 t3 t4:V) (S:Hp) (K:KV):Prop:=
 cH S fun S=>
 bH t0 fun v0=>
 aH PP .lss 3 t4 v0 fun v1=>
 gK x true v1 t3 S fun v2 S=>gP x true v1 (aH PP .lss 3 v2 (.int .i64 (.ofNat 3000))) S fun v4 S=>gQ x v1 v4 (.bool false) fun v5=>fS v5 (aH PP .add 3 t3 (.int .i64 (.ofNat 20)) fun v6=>cF 9 t0 t4 fun v7=>aP 0 v7 fun v8=>aP 3 v8 fun v9=>aT v9 S fun v10 S=>bH v10 fun v11=>aH PP .add 3 v6 v11 fun v12=>cF 9 t0 t4 fun sO=>aP 0 sO fun sS=>aP 5 sS fun AM=>aT AM S fun wU S=>bH wU fun rQ=>aH PP .add 3 v12 rQ fun yE=>cF 9 t0 t4 fun wZ=>aP 0 wZ fun v20=>aP 4 v20 fun v21=>aT v21 S fun MY S=>x.call EB [MY] S fun FI S=>aT AM S fun v24 _=>aZ v24 wU (aT v9 S fun TE _=>aZ TE v10 (aH PP .add 3 yE FI fun ZS=>mG x x.most m0 t0 ZS t4 (.int .i64 (.ofNat 0)) S K))) (aH PP .geq 3 t3 (.int .i64 (.ofNat 3000)) fun Cs=>bD Cs S K)
theorem JB (x:VE) (m0:Nat) (t0 t3 t4:V) (S:Hp) (K:KV):pU x (m0+1) t0 t3 t4 S K=zK x m0 t0 t3 t4 S K:=by kernel_rfl
def pV (x:VE) (m1:Nat) (m0:Nat) (t0 t3 t4 t5:V) (S:Hp) (K:KV):Prop:=
 cH S fun S=>
 cF 9 t0 t4 fun v0=>
 aP 0 v0 fun v1=>
 aP 6 v1 fun v2=>
 aT v2 S fun v3 S=>
 bH v3 fun v4=>
 aH PP .lss 3 t5 v4 fun v5=>
 gK x true v5 t3 S fun v6 S=>gP x true v5 (aH PP .lss 3 v6 (.int .i64 (.ofNat 3000))) S fun v8 S=>gQ x v5 v8 (.bool false) fun v9=>fS v9 (aH PP .add 3 t3 (.int .i64 (.ofNat 1)) fun v10=>cF 9 t0 t4 fun v11=>aP 0 v11 fun v12=>aP 6 v12 fun sO=>aT sO S fun sS S=>cF 2 sS t5 fun AM=>aP 1 AM fun wU=>aT wU S fun rQ S=>x.call EB [rQ] S fun yE S=>aH PP .add 3 v10 yE fun wZ=>aH PP .add 3 t5 (.int .i64 (.ofNat 1)) fun v20=>mG x m1 m0 t0 wZ t4 v20 S K) (aH PP .add 3 t4 (.int .i64 (.ofNat 1)) fun v21=>pU x m0 t0 t3 v21 S K)
theorem xU (x:VE) (m1:Nat) (m0:Nat) (t0 t3 t4 t5:V) (S:Hp) (K:KV):mG x (m1+1) m0 t0 t3 t4 t5 S K=pV x m1 m0 t0 t3 t4 t5 S K:=by kernel_rfl
def uX (x:VE) (m:Nat) (t0 t3 t4:V) (S:Hp) (K:KV):Prop:=dG PP bI EB x [.r,.r,.l,.r,.d] m [] [t0,t3,t4] S K
def Fw (x:VE) (a0:V) (S:Hp) (K:KV):Prop:=
 uX x x.most a0 (.int .i64 (.ofNat 0)) (.int .i64 (.ofNat 0)) S K
theorem Zu (x:VE) (a0:V) (S:Hp) (K:KV):jI PP bI EB x [a0] S K=Fw x a0 S K:=by kernel_rfl
def zJ (x:VE) (m0:Nat) (t0 t3 t4:V) (S:Hp) (K:KV):Prop:=
 cH S fun S=>
 bH t0 fun v0=>
 aH PP .lss 3 t4 v0 fun v1=>
 gK x true v1 t3 S fun v2 S=>gP x true v1 (aH PP .lss 3 v2 (.int .i64 (.ofNat 500))) S fun v4 S=>gQ x v1 v4 (.bool false) fun v5=>fS v5 (aH PP .add 3 t3 (.int .i64 (.ofNat 1)) fun v6=>cF 1 t0 t4 fun v7=>aT v7 S fun v8 S=>bH v8 fun v9=>aH PP .add 3 v6 v9 fun v10=>aH PP .add 3 t4 (.int .i64 (.ofNat 1)) fun v11=>uX x m0 t0 v10 v11 S K) (bD t3 S K)
theorem JA (x:VE) (m0:Nat) (t0 t3 t4:V) (S:Hp) (K:KV):uX x (m0+1) t0 t3 t4 S K=zJ x m0 t0 t3 t4 S K:=by kernel_rfl
def Ap (x:VE) (a0:V) (S:Hp) (K:KV):Prop:=
 x.call PA [] S fun v0 S=>
 cW aEe 29 S fun v1 S=>
 mL 12 v1 v0 S fun S=>
 bN 12 v1 S fun v2 S=>
 bN 12 v1 S fun v3 S=>
 x.call Ct [a0] S fun v4 S=>
 bN 12 v1 S fun v5 _=>
 aZ v5 v3 (bN 12 v1 S fun v6 _=>aZ v6 v2 (x.call NZ [v3] S fun v7 S=>bN 12 v1 S fun v8 _=>aZ v8 v2 (cV aJo [(0,12,v2),(12,1,v4),(14,5,v7)] fun v9=>bN 12 v1 S fun v10 _=>aZ v10 v2 ((iD 38 v9 S fun v11 S=>True)/\(iD 38 v9 S fun v12 S=>bD v12 S K)))))
theorem Ud (x:VE) (a0:V) (S:Hp) (K:KV):jI PP bI PB x [a0] S K=Ap x a0 S K:=by kernel_rfl
def kH (x:VE) (t4 t6:V) (S:Hp) (K:KV):Prop:=Qv PP bI dP x [.r,.r,.l,.r,.d,.r,.l,.r,.r] [] [t4,t6] S K
def fO (x:VE) (m:Nat) (t0 t4 t8 t9 t10:V) (S:Hp) (K:KV):Prop:=dG PP bI dP x [.r,.r,.l,.r,.d,.r,.r,.r,.r,.r,.l,.r,.r,.l,.r,.d] m [] [t0,t4,t8,t9,t10] S K
def iR (x:VE) (m0:Nat) (t0 t4 t8 t9 t10:V) (S:Hp) (K:KV):Prop:=Qv PP bI dP x [.r,.r,.l,.r,.d,.r,.r,.r,.r,.r,.l,.r,.r,.l,.r,.d,.d,.r,.r] [m0] [t0,t4,t8,t9,t10] S K
def pX (x:VE) (a0 a1:V) (S:Hp) (K:KV):Prop:=
 iD 45 a1 S fun v0 S=>
 cW GH 42 S fun v1 S=>
 aP 7 v0 fun v2=>
 aT v2 S fun v3 S=>
 aH PP .neq 5 v3 (.int .u8 (.ofNat 1)) fun v4=>
 fS v4 (aP 0 v0 fun v5=>bN 7 v5 S fun v6 S=>mL 7 v1 v6 S fun S=>bN 7 v1 S fun v7 _=>bD v7 S K) (aP 0 v0 fun v8=>aP 0 v8 fun v9=>aT v9 S fun v10 S=>aH PP .eql 5 v10 (.int .u8 (.ofNat 1)) fun v11=>fS v11 (oW PP a0 fun v12=>aP 0 v12 fun sO=>bN 12 sO S fun sS S=>aP 0 v0 fun AM=>aP 1 AM fun wU=>aT wU S fun rQ S=>LS .u64 rQ fun yE=>oW PP a0 fun wZ=>aP 0 wZ fun v20=>aP 1 v20 fun v21=>aT v21 S fun MY S=>aH PP .rem 22 yE MY fun FI=>oW PP a0 fun v24=>aP 12 v24 fun TE=>aT TE S fun ZS S=>aT TE S fun Cs _=>aZ Cs ZS (aT v21 S fun v28 _=>aZ v28 MY (aT wU S fun v29 _=>aZ v29 rQ (bN 12 sO S fun v30 _=>aZ v30 sS ((aS 22 2 iC [(0,1,FI),(1,1,(.int .u64 (.ofNat 3)))] S fun v31 S=>True)/\(aS 22 2 iC [(0,1,FI),(1,1,(.int .u64 (.ofNat 3)))] S fun Um S=>x.call yN [sS,Um,ZS] S fun Sv S=>aT v21 S fun Un _=>aZ Un MY (aT wU S fun Rz _=>aZ Rz rQ (tK 0 Sv fun Lz=>tK 1 Sv fun v37=>tK 2 Sv fun Gg=>aH PP .eql 46 Gg (.int .i64 (.ofNat 0)) fun Cv=>gK x true Cv a0 S fun v40 S=>gP x true Cv (oW PP v40) S fun Ma S=>gP x true Cv (aP 14 Ma) S fun v44 S=>gP x true Cv (aP 0 v44) S fun v46 S=>gL x true Cv (aT v46 S) S fun v48 S=>gP x true Cv (aH PP .eql 3 v48 (.int .i64 (.ofNat 0))) S fun v50 S=>gQ x Cv v50 (.bool false) fun v51=>fS v51 (oW PP a0 fun v52=>aP 13 v52 fun v53=>mL 1 v53 Lz S fun S=>kH x v1 v37 S K) (kH x v1 v37 S K))))))))) (aH PP .eql 5 v10 (.int .u8 (.ofNat 3)) fun v54=>fS v54 (oW PP a0 fun v55=>aP 14 v55 fun v56=>aP 0 v56 fun v57=>aT v57 S fun v58 S=>aP 0 v0 fun v59=>aP 5 v59 fun v60=>aT v60 S fun v61 S=>cV GH [(0,1,(.int .u8 (.ofNat 3))),(2,1,v58),(5,1,v61)] fun v62=>mL 7 v1 v62 S fun S=>bN 7 v1 S fun v63 _=>bD v63 S K) (aH PP .eql 5 v10 (.int .u8 (.ofNat 4)) fun v64=>fS v64 (oW PP a0 fun v65=>aP 14 v65 fun v66=>aP 0 v66 fun v67=>aT v67 S fun v68 S=>cV GH [(0,1,(.int .u8 (.ofNat 4))),(2,1,v68)] fun v69=>cW GH 42 S fun v70 S=>mL 7 v70 v69 S fun S=>aP 8 v0 fun v71=>aT v71 S fun v72 S=>LS .u64 v72 fun v73=>oW PP a0 fun v74=>aP 0 v74 fun v75=>aP 5 v75 fun v76=>aT v76 S fun v77 S=>oW PP a0 fun v78=>aP 0 v78 fun v79=>aP 6 v79 fun v80=>aT v80 S fun v81 S=>aH PP .sub 3 v77 v81 fun v82=>LS .u64 v82 fun v83=>aH PP .rem 75 v73 v83 fun v84=>LS .i64 v84 fun v85=>fO x x.most a0 v1 v70 v85 v85 S K) (aP 0 v0 fun v86=>bN 7 v86 S fun v87 S=>mL 7 v1 v87 S fun S=>bN 7 v1 S fun v88 _=>bD v88 S K))))
theorem uY (x:VE) (a0 a1:V) (S:Hp) (K:KV):jI PP bI dP x [a0,a1] S K=pX x a0 a1 S K:=by kernel_rfl
def nO (x:VE) (t4 t6:V) (S:Hp) (K:KV):Prop:=
 cH S fun S=>
 cV GH [(0,1,(.int .u8 (.ofNat 1))),(4,1,t6)] fun v0=>
 mL 7 t4 v0 S fun S=>
 bN 7 t4 S fun v1 _=>
 bD v1 S K
theorem GO (x:VE) (t4 t6:V) (S:Hp) (K:KV):Qw PP bI dP x [.r,.r,.l,.r,.d,.r,.l,.r,.r] [] [t4,t6] S K=nO x t4 t6 S K:=by kernel_rfl
theorem HU (x:VE) (hm:x.most≠0) (t4 t6:V) (S:Hp) (K:KV):kH x t4 t6 S K=nO x t4 t6 S K:=(XS (hm:=hm) ..).trans (GO x t4 t6 S K)
def jM (x:VE) (m0:Nat) (t0 t4 t8 t9 t10:V) (S:Hp) (K:KV):Prop:=
 cH S fun S=>
 oW PP t0 fun v0=>
 aP 0 v0 fun v1=>
 aP 6 v1 fun v2=>
 aT v2 S fun v3 S=>
 aH PP .add 3 t9 v3 fun v4=>
 aH PP .leq 3 t10 v4 fun v5=>
 gK x true v5 t10 S fun v6 S=>gK x true v5 t0 S fun v7 S=>gP x true v5 (oW PP v7) S fun v9 S=>gP x true v5 (aP 13 v9) S fun v11 S=>gL x true v5 (aT v11 S) S fun sO S=>gP x true v5 (bH sO) S fun AM S=>gP x true v5 (aH PP .lss 3 v6 AM) S fun rQ S=>gQ x v5 rQ (.bool false) fun yE=>fS yE (oW PP t0 fun wZ=>aP 0 wZ fun v20=>bN 12 v20 S fun v21 S=>oW PP t0 fun MY=>aP 13 MY fun FI=>aT FI S fun v24 S=>cF 1 v24 t10 fun TE=>aT TE S fun ZS S=>oW PP t0 fun Cs=>aP 0 Cs fun v28=>aP 5 v28 fun v29=>aT v29 S fun v30 S=>oW PP t0 fun v31=>aP 12 v31 fun Um=>aT Um S fun Sv S=>aT Um S fun Un _=>aZ Un Sv (aT v29 S fun Rz _=>aZ Rz v30 (aT TE S fun Lz _=>aZ Lz ZS (aT FI S fun v37 _=>aZ v37 v24 (bN 12 v20 S fun Gg _=>aZ Gg v21 ((cW MH 79 S fun Cv S=>True)/\(x.call uJ [v21,ZS,v30,Sv] S fun v40 S=>aT FI S fun v41 _=>aZ v41 v24 (tK 0 v40 fun Ma=>tK 1 v40 fun v43=>aT FI S fun v44 _=>aZ v44 v24 ((cW MH 79 S fun v45 S=>True)/\(cW MH 79 S fun v46 S=>mL 3 v46 Ma S fun S=>aH PP .eql 46 v43 (.int .i64 (.ofNat 0)) fun v47=>fS v47 (aP 6 t8 fun v48=>aT v48 S fun v49 S=>aH PP .add 3 t10 (.int .i64 (.ofNat 1)) fun v50=>oW PP t0 fun v51=>aP 0 v51 fun v52=>bN 12 v52 S fun v53 S=>aP 0 v46 fun v54=>aT v54 S fun v55 S=>x.call vG [v53,v55,(.int .u64 (.ofNat 0))] S fun v56 S=>aT v48 S fun v57 _=>aZ v57 v49 (cV uZ [(0,1,v50),(1,1,v56)] fun v58=>aT v48 S fun v59 _=>aZ v59 v49 ((aS 68 1 uZ [(0,2,v58)] S fun v60 S=>True)/\(aS 68 1 uZ [(0,2,v58)] S fun v61 S=>jT 68 2 32 v49 v61 S fun v62 S=>aP 6 t8 fun v63=>mL 1 v63 v62 S fun S=>iR x m0 t0 t4 t8 t9 t10 S K)))) (iR x m0 t0 t4 t8 t9 t10 S K))))))))))) (bN 7 t8 S fun v64 S=>mL 7 t4 v64 S fun S=>bN 7 t4 S fun v65 _=>bD v65 S K)
theorem oM (x:VE) (m0:Nat) (t0 t4 t8 t9 t10:V) (S:Hp) (K:KV):fO x (m0+1) t0 t4 t8 t9 t10 S K=jM x m0 t0 t4 t8 t9 t10 S K:=by kernel_rfl
def iK (x:VE) (m0:Nat) (t0 t4 t8 t9 t10:V) (S:Hp) (K:KV):Prop:=
 cH S fun S=>
 aH PP .add 3 t10 (.int .i64 (.ofNat 1)) fun v0=>
 fO x m0 t0 t4 t8 t9 v0 S K
theorem wG (x:VE) (m0:Nat) (t0 t4 t8 t9 t10:V) (S:Hp) (K:KV):Qw PP bI dP x [.r,.r,.l,.r,.d,.r,.r,.r,.r,.r,.l,.r,.r,.l,.r,.d,.d,.r,.r] [m0] [t0,t4,t8,t9,t10] S K=iK x m0 t0 t4 t8 t9 t10 S K:=by kernel_rfl
theorem wY (x:VE) (hm:x.most≠0) (m0:Nat) (t0 t4 t8 t9 t10:V) (S:Hp) (K:KV):iR x m0 t0 t4 t8 t9 t10 S K=iK x m0 t0 t4 t8 t9 t10 S K:=(XS (hm:=hm) ..).trans (wG x m0 t0 t4 t8 t9 t10 S K)
def An (x:VE) (S:Hp) (K:KV):Prop:=
 cW aEe 29 S fun v0 S=>
 cV aEe [(0,1,(.int .u64 (.ofNat 23))),(1,1,(.int .u64 (.ofNat 11))),(2,1,(.int .u64 (.ofNat 4))),(3,1,(.int .u64 (.ofNat 9))),(4,1,(.int .i64 (.ofNat 5))),(5,1,(.int .i64 (.ofNat 4))),(6,1,(.int .i64 (.ofNat 1))),(7,1,(.int .i64 (.ofNat 1))),(8,1,(.int .i64 (.ofNat 1))),(9,1,(.int .i64 (.ofNat 1))),(10,1,(.int .i64 (.ofNat 1))),(11,1,(.int .i64 (.ofNat 1)))] fun v1=>
 mL 12 v0 v1 S fun S=>
 bN 12 v0 S fun v2 _=>
 bD v2 S K
theorem Uc (x:VE) (S:Hp) (K:KV):jI PP bI PA x [] S K=An x S K:=by kernel_rfl
end Go.Am
set_option maxRecDepth 8000
namespace Go.Am
open Go.Proofs.NQ
structure Tu where
 e:En
 of:Nat
 fr:Int
def tuC (t:Tu):List Dt:=[.int .u8 (.ofNat t.e.kind),.int .i64 t.e.id,.int .i64 t.e.ep,.list (iV t.e.x) t.e.x.length,.list (dS t.e.eH) t.e.eH.length,.list (iV t.e.next) t.e.next.length,.list (MX t.e.fB) t.e.fB.length,.int .u8 (.ofNat t.of),.int .i64 t.fr]
def Cr:List Tu->List Dt
 | []=>[]
 | t::l=>tuC t++Cr l
theorem Zt (t:Tu):(tuC t).length=9:=rfl
theorem aFm (l:List Tu):(Cr l).length=l.length*9:=by induction l with | nil=>rfl | cons a l ih=>unfold Cr;rw [jU,ih,Zt,oU];omega
theorem aJm{l:List Tu}:∀{i:Nat} {t:Tu},l[i]? =some t->i*9+9<=(Cr l).length/\((Cr l).drop (i*9)).take 9=tuC t:=by
 induction l with
 | nil=>intro i t h;cases h
 | cons a l ih=>
  intro i t h
  match i,h with
  | 0,h=>
   injection h with h;subst h;refine⟨by rw [aFm,oU];omega,?_⟩;unfold Cr;rw [Bq,xG];exact List.take_left' (Zt a)
  | i+1,h=>
   obtain⟨h1,h2⟩:=ih (i:=i) h;refine⟨by rw [aFm]at h1 ⊢;rw [oU];omega,?_⟩;unfold Cr;rw [show(i+1)*9=9+i*9 by omega,<-Bn,List.drop_left' (Zt a)];exact h2
theorem Nc{l:List Tu}{i k:Nat}{t:Tu}{d:Dt} (h:l[i]? =some t) (hk:(tuC t)[k]? =some d):(Cr l)[i*9+k]? =some d:=by
 obtain⟨h1,h2⟩:=aJm h;have hk9:k<9:=(List.getElem?_eq_some_iff.1 hk).1;rw [<-h2,pK,aJ hk9,oT]at hk;exact hk
structure XN (t:Tu):Prop where
 kind:t.e.kind<256
 of:t.of<256
 id: -9223372036854775808<=t.e.id/\t.e.id<9223372036854775808
 fr: -9223372036854775808<=t.fr/\t.fr<9223372036854775808
 x:t.e.x.length<=140737488355328
 next:t.e.next.length<=140737488355328
 eH:Lo t.e.eH
 fB:t.e.fB.length<=140737488355328
 Qj:∀d∈t.e.fB,Lo d.2
def aGN (t:Tu):Prop:=t.e.x.length<3000/\t.e.next.length<3000/\t.e.fB.length<3000
theorem XN.sz{t:Tu} (h:XN t) (s:aGN t):aBW t.e:=⟨h.kind,by have:=s.1;omega,h.eH,by have:=s.2.1;omega,by have:=s.2.2;omega,h.Qj⟩
section
variable{M n:Nat}{x:VE}{S:Hp}{K:KV}{two:Bool}
theorem aJn (hM:1000000<M) (hx:Deep PP bI gM M (n+1) x){O:Tag}{ls:List (List Nat)} (h:Lo ls) (hK:∀N,N<=200000000000000->K (ni N) S):x.call EB [.list O (dS ls) ls.length] S K:=by
 refine hx.call rfl fun y hy=>?_;rw [Zu];unfold Fw;rw [hy.most];have hl:=h.1
 have go:∀(r N i m:Nat) (S1:Hp),500<=N+r->r<m->N<=200000000000000->bO S S1->uX y m (.list O (dS ls) ls.length) (ni N) (ni i) S1 K:=by
  intro r;induction r with
  | zero=>
   intro N i m S1 hr hm hN hs;obtain⟨m,rfl⟩:=bG (show m≠0 by omega);rw [JA];unfold zJ gP gK gQ;refine tI S hs ?_;rw [cD,aN];by_cases c:i<ls.length
   ·rw [bF c,aF,aM];try dsimp only
    rw [aF,aM];try dsimp only
    show aH PP .lss 3 (ni N) (ni 500) _;rw [aN,iN (by omega)];try dsimp only
    rw [aF,dJ,aW];exact aL (hK N hN)
   ·rw [bJ c,aF,lZ];try dsimp only
    rw [aF,lZ];try dsimp only
    rw [aF,eI,aW];exact aL (hK N hN)
  | succ r ih=>
   intro N i m S1 hr hm hN hs;obtain⟨m,rfl⟩:=bG (show m≠0 by omega);rw [JA];unfold zJ gP gK gQ;refine tI S hs ?_;rw [cD,aN];by_cases c:i<ls.length
   ·rw [bF c,aF,aM];try dsimp only
    rw [aF,aM];try dsimp only
    show aH PP .lss 3 (ni N) (ni 500) _;rw [aN];try dsimp only
    rw [aF,dJ];by_cases c2:N<500
    ·have RE:(dS ls)[i*1]? =some (.list (jK ls[i]) ls[i].length):=by rw [jL];unfold dS;rw [dO,aQ c];rfl
     have hc:=(h.2 _ (cK c)).2;rw [bF c2,bQ,bE (by omega),fH c,sJ,cI RE];show bH (.list (.sub O (i*1)) (jK ls[i]) ls[i].length) _;rw [cD,bE (by omega),bE (by omega)];exact ih _ (i+1) m S (by omega) (by omega) (by omega) (.refl _)
    ·rw [bJ c2,aW]
     exact aL (hK N hN)
   ·rw [bJ c,aF,lZ];try dsimp only
    rw [aF,lZ];try dsimp only
    rw [aF,eI,aW];exact aL (hK N hN)
 exact go 500 0 0 M S (by omega) (by omega) (by omega) (.refl _)
theorem aOO{l:List (Int×List (List Nat))}:∀{i:Nat} {a:Int×List (List Nat)},l[i]? =some a->(MX l)[i*2+1]? =some (.list (dS a.2) a.2.length):=by
 induction l with
 | nil=>intro i a h;cases h
 | cons b l ih=>
  intro i a h
  match i,h with
  | 0,h=>injection h with h;subst h;rfl
  | i+1,h=>
   rw [show(i+1)*2+1=i*2+1+2 by omega];exact ih (i:=i) h
theorem aOP (hM:1000000<M) (hx:Deep PP bI gM M (n+2) x){O:Tag}{ts:List Tu} (hr:∀t∈ts,XN t) (hl:ts.length<=140737488355328) (hK:∀b,(b=false->(∀t∈ts,aGN t)/\ts.length<=150)->K (.bool b) S):x.call EC [.list O (Cr ts) ts.length] S K:=by
 refine hx.call rfl fun y hy=>?_;rw [Zv];unfold Fx;rw [hy.most]
 have fin:∀(N i:Nat) (S1:Hp),bO S S1->N<=4000000000000000->20*i<=N->(N<3000->∀j t,j<i->ts[j]? =some t->aGN t)->(ts.length<=i\/3000<=N)->aH PP .geq 3 (ni N) (.int .i64 (.ofNat 3000)) fun Cs=>bD Cs S1 K:=by
  intro N i S1 hs hN h20 Wc hex;show aH PP .geq 3 (ni N) (ni 3000) _;rw [zE];refine bL hs (hK _ fun hb=>?_);have hb:¬3000<=N:=of_decide_eq_false hb;rcases hex with hex | hex
  ·refine⟨fun t ht=>?_,by omega⟩
   obtain⟨j,hj,rfl⟩:=Bj ht;exact Wc (by omega) j _ (by omega) (aQ hj)
  ·exact aX hex hb
 have go:∀(r N i m:Nat) (S1:Hp),150<=i+r->r<m->N<=4000000000000000->20*i<=N->(N<3000->∀j t,j<i->ts[j]? =some t->aGN t)->i<=ts.length->bO S S1->pU y m (.list O (Cr ts) ts.length) (ni N) (ni i) S1 K:=by
  intro r;induction r with
  | zero=>
   intro N i m S1 hr1 hm hN h20 Wc hil hs;obtain⟨m,rfl⟩:=bG (show m≠0 by omega);rw [JB];unfold zK gP gK gQ;refine aE ?_;rw [cD,aN];by_cases c:i<ts.length
   ·rw [bF c,aF,aM];try dsimp only
    rw [aF,aM];try dsimp only
    show aH PP .lss 3 (ni N) (ni 3000) _;rw [aN,iN (by omega)];try dsimp only
    rw [aF,dJ,aW];exact fin N i S1 hs hN h20 Wc (.inr (by omega))
   ·rw [bJ c,aF,lZ];try dsimp only
    rw [aF,lZ];try dsimp only
    rw [aF,eI,aW];exact fin N i S1 hs hN h20 Wc (.inl (by omega))
  | succ r ih=>
   intro N i m S1 hr1 hm hN h20 Wc hil hs;obtain⟨m,rfl⟩:=bG (show m≠0 by omega);rw [JB];unfold zK gP gK gQ;refine aE ?_;rw [cD,aN];by_cases c:i<ts.length
   ·rw [bF c,aF,aM];try dsimp only
    rw [aF,aM];try dsimp only
    show aH PP .lss 3 (ni N) (ni 3000) _;rw [aN];try dsimp only
    rw [aF,dJ];by_cases c2:N<3000
    ·have ht:ts[i]? =some ts[i]:=aQ c
     have Qk:=hr _ (cK c);generalize ts[i]=t at ht Qk;have h3:(Cr ts)[i*9+0+3]? =some (.list (iV t.e.x) t.e.x.length):=Nc ht rfl;have h5:(Cr ts)[i*9+0+5]? =some (.list (iV t.e.next) t.e.next.length):=Nc ht rfl;have h4:(Cr ts)[i*9+0+4]? =some (.list (dS t.e.eH) t.e.eH.length):=Nc ht rfl;have h6:(Cr ts)[i*9+0+6]? =some (.list (MX t.e.fB) t.e.fB.length):=Nc ht rfl;have lx:=Qk.x;have ln:=Qk.next;have ld:=Qk.fB;have sm:∀{t:Tag} {cs:List Dt} {n:Nat} {p:Prop},aZ (.list t cs n) (.list t cs n) p=p:=fun {t cs n p}=>cR rfl;have e3:∀{S:Hp} {K:KV},aT (.pI O (Cr ts) (i*9+0+3)) S K=K (.list (.sub O (i*9+0+3)) (iV t.e.x) t.e.x.length) S:=fun {S K}=>by rw [sJ,cI h3];rfl
     have e5:∀{S:Hp} {K:KV},aT (.pI O (Cr ts) (i*9+0+5)) S K=K (.list (.sub O (i*9+0+5)) (iV t.e.next) t.e.next.length) S:=fun {S K}=>by rw [sJ,cI h5];rfl
     have e4:∀{S:Hp} {K:KV},aT (.pI O (Cr ts) (i*9+0+4)) S K=K (.list (.sub O (i*9+0+4)) (dS t.e.eH) t.e.eH.length) S:=fun {S K}=>by rw [sJ,cI h4];rfl
     have e6:∀{S:Hp} {K:KV},aT (.pI O (Cr ts) (i*9+0+6)) S K=K (.list (.sub O (i*9+0+6)) (MX t.e.fB) t.e.fB.length) S:=fun {S K}=>by rw [sJ,cI h6];rfl
     rw [bF c2,bQ,bE (by omega),fH c,ED,ED,e3,cD,bE (by omega),fH c,ED,ED,e5,cD,bE (by omega),fH c,ED,ED,e4];refine aJn hM hy Qk.eH fun N1 hN1=>?_;rw [e5,sm,e3,sm,bE (by omega),hy.most]
     have inner:∀(q N2 k m2:Nat) (S2:Hp),3000<=N2+q->q<m2->N2<=4000000000000000->20*(i+1)<=N2->t.e.x.length<=N2->t.e.next.length<=N2->k<=N2->k<=t.e.fB.length->(N2<3000->∀j t,j<i->ts[j]? =some t->aGN t)->bO S S2->mG y m2 m (.list O (Cr ts) ts.length) (ni N2) (ni i) (ni k) S2 K:=by
      intro q;induction q with
      | zero=>
       intro N2 k m2 S2 hq YR hN2 aL6 hx2 hn2 vL hkd aOQ tZ;obtain⟨m2,rfl⟩:=bG (show m2≠0 by omega);rw [xU];unfold pV gP gK gQ;refine aE ?_;have go2:pU y m (.list O (Cr ts) ts.length) (ni N2) (ni (i+1)) S2 K:=ih N2 (i+1) m S2 (by omega) (by omega) hN2 aL6 (fun h=>by omega) (by omega) tZ;rw [fH c,ED,ED,e6,cD,aN];by_cases d:k<t.e.fB.length
       ·rw [bF d,aF,aM];try dsimp only
        rw [aF,aM];try dsimp only
        show aH PP .lss 3 (ni N2) (ni 3000) _;rw [aN,iN (by omega)];try dsimp only
        rw [aF,dJ,aW,bE (by omega)];exact go2
       ·rw [bJ d,aF,lZ];try dsimp only
        rw [aF,lZ];try dsimp only
        rw [aF,eI,aW,bE (by omega)];exact go2
      | succ q ih2=>
       intro N2 k m2 S2 hq YR hN2 aL6 hx2 hn2 vL hkd aOQ tZ;obtain⟨m2,rfl⟩:=bG (show m2≠0 by omega);rw [xU];unfold pV gP gK gQ;refine aE ?_;rw [fH c,ED,ED,e6,cD,aN];by_cases d:k<t.e.fB.length
       ·rw [bF d,aF,aM];try dsimp only
        rw [aF,aM];try dsimp only
        show aH PP .lss 3 (ni N2) (ni 3000) _;rw [aN];try dsimp only
        rw [aF,dJ];by_cases d2:N2<3000
        ·have hdk:=aOO (aQ d)
         have hdl:=Qk.Qj _ (cK d);rw [bF d2,bQ,bE (by omega),fH c,ED,ED,e6,fH d,ED,sJ,cI hdk];refine aJn hM hy hdl fun N3 hN3=>?_;rw [bE (by omega),bE (by omega)];exact ih2 _ (k+1) m2 S2 (by omega) (by omega) (by omega) (by omega) (by omega) (by omega) (by omega) (by omega) (fun h=>aOQ (by omega)) tZ
        ·rw [bJ d2,aW,bE (by omega)]
         exact ih N2 (i+1) m S2 (by omega) (by omega) hN2 aL6 (fun h=>aX h d2) (by omega) tZ
       ·rw [bJ d,aF,lZ];try dsimp only
        rw [aF,lZ];try dsimp only
        rw [aF,eI,aW,bE (by omega)];refine ih N2 (i+1) m S2 (by omega) (by omega) hN2 aL6 (fun h j t' hj ht'=>?_) (by omega) tZ;rcases BF j i with hji | hji
        ·exact aOQ h j t' hji ht'
        ·obtain rfl:j=i:=by omega
         rw [ht]at ht';injection ht' with ht';subst ht';exact⟨by omega,by omega,by omega⟩
     exact inner 3000 _ 0 M S1 (by omega) (by omega) (by omega) (by omega) (by omega) (by omega) (by omega) (by omega) (fun h=>Wc (by omega)) hs
    ·rw [bJ c2,aW]
     exact fin N i S1 hs hN h20 Wc (.inr (by omega))
   ·rw [bJ c,aF,lZ];try dsimp only
    rw [aF,lZ];try dsimp only
    rw [aF,eI,aW];exact fin N i S1 hs hN h20 Wc (.inl (by omega))
 exact go 150 0 0 M S (by omega) (by omega) (by omega) (by omega) (fun _ j t h=>aX h (by omega)) (by omega) (.refl _)
end
end Go.Am
set_option maxRecDepth 100000
namespace Go.Am
open Go.RowKit Go.MapKept Go.Proofs
section
variable{S:St}{C:Nat->Prop}
theorem aHc{α:Type}{f:α->List Dt}{w:Nat} (hf:∀a,(f a).length=w) (l:List α):(l.flatMap f).length=l.length*w:=by
 induction l with
 | nil=>simp
 | cons a l ih=>rw [Np,jU,ih,hf,oU,Bs];omega
theorem aHd{α:Type}{f:α->List Dt}{w:Nat} (hf:∀a,(f a).length=w):∀(l:List α) (j:Nat) (d:Dt),(l.flatMap f)[j]? =some d->0<w->∃k i a,j=k*w+i/\i<w/\l[k]? =some a/\(f a)[i]? =some d:=by
 intro l;induction l with
 | nil=>intro j d h;simp at h
 | cons a l ih=>
  intro j d h hw;rw [Np]at h;by_cases c:j<w
  ·rw [gI (by rw [hf];exact c)]at h
   exact⟨0,j,a,by omega,c,rfl,h⟩
  ·rw [kI (by rw [hf];omega),hf]at h
   obtain⟨k,i,a',h1,h2,h3,h4⟩:=ih _ _ h hw;exact⟨k+1,i,a',by rw [Bs];omega,h2,h3,h4⟩
theorem Ro{its:List It}{v:Value}{d:D} (h:Rd S C (.list its) v d){α:Type} (f:α->List Dt) (g:α->Prop) (hp:0<its.length) (hlen:∀a,(f a).length=its.length)
 (hf:∀(vs:List Value) (ds:List D),RdA S C its vs ds->∃a,(∀(j:Nat) (d:Dt) (v:Value),(f a)[j]? =some d->vs[j]? =some v->ZQ S C d v)/\g a):
 ∃l:List α,ZQ S C (.list (l.flatMap f) l.length) v/\(∀a∈l,g a)/\l.length<=140737488355328/\l.length*aC4 its<=140737488355328:=by
 cases h with
 | empty=>exact⟨[],.nil,(fun a h=>by cases h),BG _,by simp⟩
 | Yj=>exact⟨[],.emp,(fun a h=>by cases h),BG _,by simp⟩
 | @row _ b o n c sp vs e ck es AO hb hC ho hw hn hl hd hN hnc hr=>
  have each:∀k:Nat,k<n->∃a:α,(∀(j:Nat) (d:Dt) (v:Value),(f a)[j]? =some d->vs[o+k*its.length+j]? =some v->ZQ S C d v)/\g a:=by
   intro k hk;have Yb:k<es.length:=by omega
   have hds:=hd es[k] (cK Yb)
   have hle:k*its.length+its.length<=n*its.length:=by
    have:(k+1)*its.length<=n*its.length:=RG _ hk
    rwa [KP,Nat.one_mul]at this
   obtain⟨a,h1,h2⟩:=hf ((vs.drop (o+k*its.length)).take its.length) es[k] ⟨by rw [mP,IG];omega,hds,fun j it v d a1 a2 a3=>by
    rw [pK]at a2;split at a2
    ·rw [oT]at a2
     exact hr k es[k] j it v d (aQ Yb) a1 a2 a3
    ·cases a2⟩
   refine⟨a,fun j d v e1 e2=>h1 j d v e1 ?_,h2⟩;have:j<its.length:=by rw [<-hlen a];exact(List.getElem?_eq_some_iff.1 e1).1
   rw [pK,aJ this,oT];exact e2
  rcases RH n with h0 | h0
  ·subst h0
   exact⟨[],.row AO hb hC ho (by simp;omega) hnc (fun j d v e=>by simp at e),(fun a h=>by cases h),BG _,by simp⟩
  ·obtain⟨a0,_⟩:=each 0 h0
   let F:Nat->α:=fun k=>if h:k<n then(each k h).choose else a0
   have hF:∀k,k<n->(∀(j:Nat) (d:Dt) (v:Value),(f (F k))[j]? =some d->vs[o+k*its.length+j]? =some v->ZQ S C d v)/\g (F k):=fun k h=>by
    show(∀(j:Nat) (d:Dt) (v:Value),(f (if h:k<n then(each k h).choose else a0))[j]? =some d->vs[o+k*its.length+j]? =some v->ZQ S C d v)/\g (if h:k<n then(each k h).choose else a0);rw [dif_pos h];exact(each k h).choose_spec
   refine⟨(List.range n).map F,?_,fun a ha=>?_,by simpa using hN.1,by simpa using hN.2⟩
   ·have:ZQ S C (.list (((List.range n).map F).flatMap f) n) (.slice (some ⟨b,o,sp⟩) n c):=by
     refine .row AO hb hC ho (by rw [aHc hlen];simpa using hl) hnc fun j d v e1 e2=>?_;obtain⟨k,i,a,q1,q2,q3,q4⟩:=aHd hlen _ _ _ e1 hp;rw [dO]at q3;cases hj:(List.range n)[k]? with
     | none=>rw [hj]at q3;cases q3
     | some q=>
      rw [hj]at q3;injection q3 with q3;have hjn:k<n:=by have:=(List.getElem?_eq_some_iff.1 hj).1;simpa using this
      rw [Bi hjn]at hj;injection hj with hj;subst hj q3 q1;exact(hF k hjn).1 i d v q4 (by rw [uO];exact e2)
    simpa using this
   ·obtain⟨k,hk,rfl⟩:=List.mem_map.1 ha
    exact(hF k (by simpa using hk)).2
theorem aKo{α:Type} (f:α->Dt) (l:List α):l.flatMap (fun a=>[f a])=l.map f:=by
 induction l with
 | nil=>rfl
 | cons a l ih=>rw [Np,ih];rfl
theorem RdA.at{its:List It}{vs:List Value}{ds:List D} (h:RdA S C its vs ds){j:Nat}{it:It}{v:Value} (h1:its[j]? =some it) (h2:vs[j]? =some v):∃d,Rd S C it v d:=by
 have:j<ds.length:=by rw [h.Yi];exact(List.getElem?_eq_some_iff.1 h1).1
 exact⟨_,h.rd j it v _ h1 h2 (aQ this)⟩
theorem RdA.ex{its:List It}{vs:List Value}{ds:List D} (h:RdA S C its vs ds){j:Nat}{it:It} (h1:its[j]? =some it):∃v d,vs[j]? =some v/\Rd S C it v d:=by
 have:j<vs.length:=by rw [h.len];exact(List.getElem?_eq_some_iff.1 h1).1
 obtain⟨d,hd⟩:=h.at h1 (aQ this);exact⟨_,d,aQ this,hd⟩
theorem aKp{it:It}{v:Value}{d:D} (h:Rd S C (.list [it]) v d){α:Type} (f:α->Dt) (g:α->Prop) (hf:∀(v:Value) (d:D),Rd S C it v d->∃a,ZQ S C (f a) v/\g a):∃l:List α,ZQ S C (.list (l.map f) l.length) v/\(∀a∈l,g a)/\l.length<=140737488355328/\l.length*wIt it<=140737488355328:=by
 obtain⟨l,h1,h2,h3,h4⟩:=Ro h (fun a=>[f a]) g (Nat.zero_lt_one) (fun _=>rfl) (fun vs ds hr=>by
  obtain⟨u,d,q1,q2⟩:=hr.ex (j:=0) rfl;obtain⟨a,q3,q4⟩:=hf u d q2;refine⟨a,fun j d v e1 e2=>?_,q4⟩
  match j,e1 with
  | 0,e1=>injection e1 with e1;rw [q1]at e2;injection e2 with e2;subst e1 e2;exact q3)
 rw [aKo]at h1;exact⟨l,h1,h2,h3,by simpa [aC4]using h4⟩
theorem aFG{v:Value}{d:D} (h:Rd S C (.list [.int]) v d):∃l:List Int,ZQ S C (.list (iV l) l.length) v/\l.length<=140737488355328:=by
 obtain⟨l,h1,_,h3,_⟩:=aKp h (fun z:Int=>Dt.int .i64 z) (fun _=>True) fun v d q=>by cases q with | @int z h h2=>exact⟨z,.int,trivial⟩
 exact⟨l,h1,h3⟩
theorem aMB{v:Value}{d:D} (h:Rd S C .Ih v d):∃l:List Nat,ZQ S C (.list (jK l) l.length) v/\LP l/\l.length*8<=140737488355328:=by
 cases h with
 | Ih h=>
  obtain⟨l,h1,h2,_,h4⟩:=aKp h (fun z:Nat=>Dt.int .u64 (.ofNat z)) EY fun v d q=>by cases q with | @num z h=>exact⟨z,.int,h⟩
  exact⟨l,h1,h2,h4⟩
theorem aNB{v:Value}{d:D} (h:Rd S C (.list [.Ih]) v d):∃l:List (List Nat),ZQ S C (.list (dS l) l.length) v/\Lo l:=by
 obtain⟨l,h1,h2,_,h4⟩:=aKp h (fun l:List Nat=>Dt.list (jK l) l.length) (fun c=>LP c/\c.length*8<=140737488355328) fun v d q=>aMB q;exact⟨l,h1,h4,h2⟩
def dlC (a:Int×List (List Nat)):List Dt:=[.int .i64 a.1,.list (dS a.2) a.2.length]
theorem aKq (l:List (Int×List (List Nat))):l.flatMap dlC=MX l:=by
 induction l with
 | nil=>rfl
 | cons a l ih=>rw [Np,ih];rfl
theorem aKr (l:List Tu):l.flatMap tuC=Cr l:=by
 induction l with
 | nil=>rfl
 | cons a l ih=>rw [Np,ih];rfl
theorem aKs{v:Value}{d:D} (h:Rd S C (.list [.int,.list [.Ih]]) v d):∃l:List (Int×List (List Nat)),ZQ S C (.list (MX l) l.length) v/\l.length<=140737488355328/\∀a∈l,Lo a.2:=by
 obtain⟨l,h1,h2,h3,_⟩:=Ro h dlC (fun a=>Lo a.2) (by decide) (fun _=>rfl) (fun vs ds hr=>by
  obtain⟨u,d,q1,q2⟩:=hr.ex (j:=0) rfl;obtain⟨u1,d1,p1,p2⟩:=hr.ex (j:=1) rfl;obtain⟨l,p3,p4⟩:=aNB p2;cases q2 with
  | @int z g1 g2=>
   refine⟨(z,l),fun j d v e1 e2=>?_,p4⟩
   match j,e1 with
   | 0,e1=>injection e1 with e1;rw [q1]at e2;injection e2 with e2;subst e1 e2;exact .int
   | 1,e1=>injection e1 with e1;rw [p1]at e2;injection e2 with e2;subst e1 e2;exact p3)
 rw [aKq]at h1;exact⟨l,h1,h3,h2⟩
def aMC:List It:=[.kind,.int,.int,.list [.int],.list [.Ih],.list [.int],.list [.int,.list [.Ih]],.kind,.int]
theorem aMD{vs:List Value}{ds:List D} (hr:RdA S C aMC vs ds):∃t:Tu,(∀(j:Nat) (d:Dt) (v:Value),(tuC t)[j]? =some d->vs[j]? =some v->ZQ S C d v)/\XN t:=by
 obtain⟨u0,d0,a0,b0⟩:=hr.ex (j:=0) rfl;obtain⟨u1,d1,a1,b1⟩:=hr.ex (j:=1) rfl;obtain⟨u2,d2,a2,b2⟩:=hr.ex (j:=2) rfl;obtain⟨u3,d3,a3,b3⟩:=hr.ex (j:=3) rfl;obtain⟨u4,d4,a4,b4⟩:=hr.ex (j:=4) rfl;obtain⟨u5,d5,a5,b5⟩:=hr.ex (j:=5) rfl;obtain⟨u6,d6,a6,b6⟩:=hr.ex (j:=6) rfl;obtain⟨u7,d7,a7,b7⟩:=hr.ex (j:=7) rfl;obtain⟨u8,d8,a8,b8⟩:=hr.ex (j:=8) rfl;obtain⟨kind,rfl,_,hk⟩:=b0.aBv;obtain⟨id,rfl,_,IW,hi2⟩:=b1.Yk;obtain⟨ep,rfl,_,_⟩:=b2.Yk;obtain⟨x,g3,l3⟩:=aFG b3;obtain⟨eH,g4,l4⟩:=aNB b4;obtain⟨next,g5,l5⟩:=aFG b5;obtain⟨fB,g6,l6,l6'⟩:=aKs b6;obtain⟨of,rfl,_,ho⟩:=b7.aBv;obtain⟨fr,rfl,_,hf1,hf2⟩:=b8.Yk;refine⟨⟨⟨kind,id,ep,x,eH,next,fB⟩,of,fr⟩,fun j d v e1 e2=>?_,⟨hk,ho,⟨IW,hi2⟩,⟨hf1,hf2⟩,l3,l5,l4,l6,l6'⟩⟩
 match j,e1 with
 | 0,e1=>injection e1 with e1;rw [a0]at e2;injection e2 with e2;subst e1 e2;exact .int
 | 1,e1=>injection e1 with e1;rw [a1]at e2;injection e2 with e2;subst e1 e2;exact .int
 | 2,e1=>injection e1 with e1;rw [a2]at e2;injection e2 with e2;subst e1 e2;exact .int
 | 3,e1=>injection e1 with e1;rw [a3]at e2;injection e2 with e2;subst e1 e2;exact g3
 | 4,e1=>injection e1 with e1;rw [a4]at e2;injection e2 with e2;subst e1 e2;exact g4
 | 5,e1=>injection e1 with e1;rw [a5]at e2;injection e2 with e2;subst e1 e2;exact g5
 | 6,e1=>injection e1 with e1;rw [a6]at e2;injection e2 with e2;subst e1 e2;exact g6
 | 7,e1=>injection e1 with e1;rw [a7]at e2;injection e2 with e2;subst e1 e2;exact .int
 | 8,e1=>injection e1 with e1;rw [a8]at e2;injection e2 with e2;subst e1 e2;exact .int
theorem aKt{v:Value}{d:D} (h:Rd S C (.list aMC) v d):∃ts:List Tu,ZQ S C (.list (Cr ts) ts.length) v/\(∀t∈ts,XN t)/\ts.length<=140737488355328:=by
 obtain⟨l,h1,h2,h3,_⟩:=Ro h tuC XN (by decide) (fun _=>rfl) (fun vs ds hr=>aMD hr);rw [aKr]at h1;exact⟨l,h1,h2,h3⟩
end
end Go.Am
set_option maxRecDepth 100000
namespace Go.Am
end Go.Am
set_option maxRecDepth 8000
namespace Go.Am
open Go.Proofs.NQ Go.Mq
def Zw:VB:=⟨0,[1,2,3,4],[],[],[]⟩
def VF (two:Bool) (t:Nat) (sh:V) (O:Nat->Tag) (s:VB):List V:=pv two++(.ptr t 0::sh::iH O s)
section
variable{M n:Nat}{x:VE}{S:Hp}{K:KV}{two:Bool}
theorem aL7 (hx:Deep PP bI gM M (n+1) x) (hK:K (.agg (pv true)) S):x.call PA [] S K:=by
 refine hx.call rfl fun y hy=>?_;rw [Uc];unfold An;refine cB rfl fun b hb=>?_;unfold cV rL;show iG _ [nu 0,nu 0,nu 0,nu 0,ni 0,ni 0,ni 0,ni 0,ni 0,ni 0,ni 0,ni 0] _
 iterate 12 (refine⟨rfl,cG rfl,?_⟩)
 show(mL 12 (.ptr b 0) (.agg (pv true)) (aK S b (.row [nu 0,nu 0,nu 0,nu 0,ni 0,ni 0,ni 0,ni 0,ni 0,ni 0,ni 0,ni 0] 29)) fun S=>bN 12 (.ptr b 0) S fun v2 _=>bD v2 S K);refine gV (n:=12) (i:=b) aC jV rfl rfl ?_;refine cO (n:=12) (i:=b) aC rfl ?_;exact bL (fun j o q=>by rw [dU,aB (fun c=>by rw [c,hb]at q;cases q)];exact q) hK
theorem aOR (hM:1000000<M) (hx:Deep PP bI gM M (n+2) x) (hK:∀O,K (.agg (iH O Zw)) S):x.call NZ [.agg (pv two)] S K:=by
 refine hx.call rfl fun y hy=>?_;rw [aBX];unfold Kp;refine cA jV fun p hp=>?_;have dF:bO S (aK S p (.row (pv two) 29)):= .aI hp;have rp:aK S p (.row (pv two) 29) p=some (.row (pv two) 29):=aC;generalize aK S p (.row (pv two) 29)=S1 at dF rp;refine cB (l:=[ni 0,.nil,.nil,.nil,.nil]) rfl fun r hr=>?_;have fG:bO S1 (aK S1 r (.row [ni 0,.nil,.nil,.nil,.nil] 36)):= .aI hr;have rr:aK S1 r (.row [ni 0,.nil,.nil,.nil,.nil] 36) r=some (.row [ni 0,.nil,.nil,.nil,.nil] 36):=aC;have FB:S r=none:=dF.none hr;generalize aK S1 r (.row [ni 0,.nil,.nil,.nil,.nil] 36)=S2 at fG rr;rw [lC (fG _ _ rp)];refine aFd (two:=two) hy ?_;rw [lW,dD,aW];refine cB (l:=[ni 0,.nil,.nil,.nil,.nil]) rfl fun q hq=>?_;have pR:bO S2 (aK S2 q (.row [ni 0,.nil,.nil,.nil,.nil] 36)):= .aI hq;have rq:aK S2 q (.row [ni 0,.nil,.nil,.nil,.nil] 36) q=some (.row [ni 0,.nil,.nil,.nil,.nil] 36):=aC;have hq0:S q=none:=dF.none (fG.none hq);have hqr:q≠r:=fun c=>by rw [c,rr]at hq;cases hq
 have rr3:=pR _ _ rr;have EV:=(dF.trans fG).trans pR;have Lk:=pR _ _ (fG _ _ rp);generalize aK S2 q (.row [ni 0,.nil,.nil,.nil,.nil] 36)=S3 at EV rq rr3 Lk;rw [bA,cQ (o:=0+5) Lk rfl];obtain⟨M',EU⟩:∃k,M=k+1+1+1+1+1:=⟨M-5,by omega⟩;rw [hy.most,EU]
 have step:∀(i m:Nat) (u:V) (acc:List Int) (S4:Hp),i<4->acc.length<=4->bO S S4->GL 3 S S4 u (iV acc)->S4 q=some (.row [ni 0,u,.nil,.nil,.nil] 36)->S4 r=some (.row [ni 0,.nil,.nil,.nil,.nil] 36)->
  (∀u' S',bO S S'->GL 3 S S' u' (iV (acc++[((i+1:Nat):Int)]))->S' q=some (.row [ni 0,u',.nil,.nil,.nil] 36)->S' r=some (.row [ni 0,.nil,.nil,.nil,.nil] 36)->pW y m (.ptr r 0) (.ptr q 0) (ni 4) (ni (i+1)) S' K)->
  pW y (m+1) (.ptr r 0) (.ptr q 0) (ni 4) (ni i) S4 K:=by
  intro i m u acc S4 hi hal hs hg rq4 Nb hk;rw [JC];unfold zM;refine aE ?_;rw [aN,wX hi,bQ,bA,cQ (o:=0+1) rq4 rfl,bE (by omega)];refine hg.app (t:= .root 0) (d:= .int .i64 ((i+1:Nat):Int)) hs (by rw [EE];omega) (zv:=ni 0) rfl (by decide) fun u' S5 DY k5 o5 g5=>?_
  have oJ:∀{b:Nat} {o:Ob},S4 b=some o->(∀vs e m,o≠ .fW vs e m)->S5 b=some o:=fun {b o} e ho=>k5 _ _ e fun m c=>by
   obtain⟨vs,n,q2⟩:=hg.there c;rw [e]at q2;injection q2 with q2;exact ho _ _ _ q2
  have rq5:=oJ rq4 (fun vs e m c=>by cases c);have rr5:=oJ Nb (fun vs e m c=>by cases c);rw [bA,DT rq5 (show 0+1<5 by decide) g5.one,bE (by omega)];have e1:iV acc++[.int .i64 ((i+1:Nat):Int)]=iV (acc++[((i+1:Nat):Int)]):=by unfold iV;rw [RI];rfl
  rw [e1]at g5;exact hk u' _ (fun j o e=>by rw [aB (fun c=>by rw [c,hq0]at e;cases e)];exact DY _ _ e) (g5.set rq5 fun vs m c=>by cases c) aC (by rw [aB (aO hqr)];exact rr5)
 refine step 0 _ .nil [] S3 (by decide) (by decide) EV .nil rq rr3 fun u1 S4 IY g4 q4 r4=>?_;refine step 1 _ u1 [1] S4 (by decide) (by decide) IY g4 q4 r4 fun u2 S5 DY g5 q5 r5=>?_;refine step 2 _ u2 [1,2] S5 (by decide) (by decide) DY g5 q5 r5 fun u3 S6 NW g6 q6 r6=>?_;refine step 3 _ u3 [1,2,3] S6 (by decide) (by decide) NW g6 q6 r6 fun u4 S7 le7 g7 q7 r7=>?_;have g7:GL 3 S S7 u4 (iV Zw.mem):=g7;rw [JC];unfold zM;refine aE ?_;rw [aN,iN (by decide),aW];refine cO (n:=5) (i:=q) q7 rfl ?_;refine gV (n:=5) (i:=r) r7 (by simp only [VM,List.all_nil,g7.one];rfl) rfl rfl ?_;refine cO (n:=5) (i:=r) aC rfl ?_;have fu:=(g7.set (o:= .row [ni 0,u4,.nil,.nil,.nil] 36) r7 fun vs m c=>by cases c).Cm;rw [EE]at fu;refine⟨S,fun O=> .agg (iH O Zw),fun j o e=>by rw [aB (fun c=>by rw [c,FB]at e;cases e)];exact le7 j o e,fun O=> .agg ⟨rfl,fun j v u e1 e2=>?_⟩,fun O=>hK O⟩
 match j with
 | 0=>injection e1 with e1;injection e2 with e2;subst e1 e2;exact .lT _
 | 1=>injection e1 with e1;injection e2 with e2;subst e1 e2;exact .Ao fu
 | 2=>injection e1 with e1;injection e2 with e2;subst e1 e2;exact .Ao .nil
 | 3=>injection e1 with e1;injection e2 with e2;subst e1 e2;exact .Ao .nil
 | 4=>injection e1 with e1;injection e2 with e2;subst e1 e2;exact .Ao .nil
 | j+5=>simp at e1
theorem aOS (hx:Deep PP bI gM M (n+1) x){sd:Nat} (hS:EY sd) (hK:∀t s S',S t=none->bO S S'->jP S' t s [] 0->K (.ptr t 0) S'):x.call Ct [nu sd] S K:=by
 refine hx.call rfl fun y hy=>?_;rw [aDA];unfold Ql;refine⟨rfl,by simp,⟨rfl,rfl,by simp,⟨rfl,fun t ht=>aL (hK t (BitVec.ofNat 64 sd) _ ht (.aI ht) ⟨.nil,?_,.nil⟩)⟩⟩⟩;rw [aQA hS];exact aC
theorem aL8 (hM:1000000<M) (hx:Deep PP bI gM M (n+3) x){sd:Nat} (hS:EY sd) (hK:∀y t s O S',bO S S'->S y=none->S t=none->y≠t->S' y=some (.row (VF true t .nil O Zw) 38)->jP S' t s [] 0->K (.ptr y 0) S'):x.call PB [nu sd] S K:=by
 refine hx.call rfl fun y hy=>?_;rw [Ud];unfold Ap;refine aL7 (n:=n+1) hy ?_;refine cB rfl fun b hb=>?_;refine gV (n:=12) (i:=b) aC jV rfl rfl ?_;rw [dU];have dF:bO S (aK S b (.row (pv true) 29)):= .aI hb;have rb:aK S b (.row (pv true) 29) b=some (.row (pv true) 29):=aC;generalize aK S b (.row (pv true) 29)=S1 at dF rb;have smp:∀{p:Prop},aZ (.agg (pv true)) (.agg (pv true)) p=p:=fun {p}=>cR rfl;rw [lC rb,lC rb];refine aOS (n:=n+1) hy hS fun t s S2 ht fG tp=>?_;rw [lC (fG _ _ rb),smp,lC (fG _ _ rb),smp];refine aOR (n:=n) hM hy fun O=>?_;rw [lC (fG _ _ rb),smp]
 have hbl:∀{k:V->Prop},k (.agg (VF true t .nil O Zw))->cV aJo [(0,12,.agg (pv true)),(12,1,.ptr t 0),(14,5,.agg (iH O Zw))] k:=fun {k} hk=>
  ⟨jV,rfl,cG rfl,rfl,cG rfl,HT,rfl,cG rfl,hk⟩
 refine hbl ?_;rw [lC (fG _ _ rb),smp];refine⟨cA rfl fun _ _=>trivial,cA rfl fun q hq=>?_⟩;have pR:bO S2 (aK S2 q (.row (VF true t .nil O Zw) 38)):= .aI hq
 have hqt:q≠t:=fun c=>by
  obtain⟨w,h1,_⟩:=tp;rw [c,h1]at hq;cases hq
 refine aL (hK q t s O _ ((dF.trans fG).trans pR) (dF.none (fG.none hq)) (dF.none ht) hqt aC (tp.at (by rw [aB (aO hqt)])))
end
set_option maxRecDepth 8000
theorem aBY (z:Int):∃N,N<18446744073709551616/\(0<=z->z<18446744073709551616->N=z.toNat)/\∀k:V->Prop,LS .u64 (.int .i64 z) k=k (nu N):=by
 have h:∃N:Nat,N<18446744073709551616/\IntKind.u64.wrap z= .ofNat N/\(0<=z->z<18446744073709551616->N=z.toNat):=by
  refine⟨(z%18446744073709551616).toNat,by omega,?_,fun h1 h2=>by omega⟩;simp [IntKind.wrap,IntKind.bits,IntKind.signed];omega
 obtain⟨N,h1,h2,h3⟩:=h;refine⟨N,h1,h3,fun k=>?_⟩;show k (.int .u64 (sH .u64 z))=_;rw [KW,h2]
theorem aOT{N:Nat} (h:N<4611686018427387904){k:V->Prop}:LS .i64 (nu N) k=k (ni N):=by
 show k (.int .i64 (sH .i64 (.ofNat N)))=_;rw [aGx (by omega)]
def shC (sh:List (List (Nat×Nat))):List Dt:=sh.map fun l=> .list (pds l) l.length
inductive Shs:V->List (List (Nat×Nat))->Prop
 | no:Shs .nil []
 | four {O:Tag} {sh:List (List (Nat×Nat))} (h4:sh.length=4) (h:∀l∈sh,l.length=2/\∀p∈l,EY p.1/\EY p.2):Shs (.list O (shC sh) sh.length) sh
theorem Shs.same{v:V}{sh:List (List (Nat×Nat))} (h:Shs v sh):DS v=true:=by cases h<;>rfl
theorem Shs.len{v:V}{sh:List (List (Nat×Nat))} (h:Shs v sh){k:V->Prop}:bH v k=k (ni sh.length):=by cases h<;>rfl
def Wd (x:Nat) (fs rs:List (List Nat)):Prop:=∃D:List Nat,D.length=6/\(∀c∈D,c<11)/\fs=fsR 1 [x,3] D/\rs=rsR 1 2 D
def Aq (fs rs:List (List Nat)):List (List (Nat×Nat)):=(List.range 4).map fun i=>shL fs rs (i+1)
def aJp (fs rs:List (List Nat)):En:=⟨1,0,0,[],iO fs rs,[],[]⟩
def aOU (s:VB) (l:List Int):En:=⟨3,0,s.ep,[],[],l,[]⟩
def aJq (s:VB) (ds:List (Int×List (List Nat))):En:=⟨4,0,s.ep,[],[],[],ds⟩
def aDB (l:List (Nat×Nat)) (c:List (List Nat)):Prop:=∃D:List Nat,D.length=12/\(∀c∈D,c<11)/\c=KB (tG (fT true l D) (bT true l D)) 0
theorem YS{α β γ:Type}{g:α->β->γ}{A:List α}{B:List β}{p:γ->Prop} (h:∀a∈A,∀b∈B,p (g a b)):∀c∈List.zipWith g A B,p c:=by
 induction A generalizing B with
 | nil=>intro c hc;simp at hc
 | cons a A ih=>
  cases B with
  | nil=>intro c hc;simp at hc
  | cons b B=>
   intro c hc;rw [List.zipWith_cons_cons]at hc;rcases List.mem_cons.1 hc with rfl | hc
   ·exact h _ (.head _) _ (.head _)
   ·exact ih (fun a ha b hb=>h a (.tail _ ha) b (.tail _ hb)) c hc
theorem aOV (i:Nat):∀(l:List Nat) (x e:Nat),x<23->atF i l x e<23:=by
 intro l;induction l with
 | nil=>intro x e h;exact h
 | cons y l ih=>intro x e _;exact ih _ _ (QO _)
theorem aOW (l:List Nat) (i:Nat):atG l i<23:=aOV i l _ _ (QO _)
theorem We{x:Nat}{fs rs:List (List Nat)} (h:Wd x fs rs):fs.length=2/\rs.length=2/\(∀q∈fs,q.length=2/\∀c∈q,c<11)/\∀q∈rs,q.length=2/\∀c∈q,c<11:=by
 obtain⟨D,h1,h2,rfl,rfl⟩:=h;have a:=aE9 (T:=1) [x,3] D (by rw [h1];exact bR 6) h2;have b:=aFa (T:=1) 2 D (by rw [h1];decide) h2;exact⟨aE7 1 _ _,aE8 1 _ _,a,b⟩
theorem aFn{x:Nat}{fs rs:List (List Nat)} (h:Wd x fs rs):(iO fs rs).length=2/\∀c∈iO fs rs,c.length=2/\∀a∈c,a<23:=by
 obtain⟨h1,h2,h3,h4⟩:=We h;refine⟨by unfold iO;rw [uM,h1,h2];rfl,?_⟩;refine YS fun f hf r hr=>⟨?_,?_⟩
 ·unfold BR;rw [uM,(h3 f hf).1,(h4 r hr).1];rfl
 ·exact YS fun a _ b _=>aIV a b
theorem aJr{l:List (Nat×Nat)} (hl:l.length=2){D:List Nat} (hD:D.length=12) (hc:∀c∈D,c<11):(tG (fT true l D) (bT true l D)).length=2/\∀m∈tG (fT true l D) (bT true l D),m.length=2/\∀c∈m,c.length=2/\∀a∈c,a<23:=by
 obtain⟨s1,s2⟩:=aJj (n:=2) (Q:=3) rfl l D (by rw [hD,hl];decide) hc;have e1:(fT true l D).length=2:=by unfold fT;rw [aJf,hl]
 have e2:(bT true l D).length=2:=by unfold bT;rw [aJg,hl]
 refine⟨by unfold tG;rw [uM,e1,e2];rfl,YS fun f hf b hb=>?_⟩;have q1:=s1 f hf;have q2:=s2 b hb;refine⟨by unfold iO;rw [uM,q1.1,q2.1];rfl,YS fun r hr t ht=>⟨?_,YS fun a _ b _=>aIV a b⟩⟩;unfold BR;rw [uM,(q1.2 r hr).1,(q2.2 t ht).1];rfl
theorem aL9{l:List (Nat×Nat)} (hl:l.length=2){c:List (List Nat)} (h:aDB l c):c.length=2/\∀q∈c,q.length=2/\∀a∈q,a<23:=by
 obtain⟨D,h1,h2,rfl⟩:=h;obtain⟨m1,m2⟩:=aJr hl h1 h2;refine⟨by unfold KB;rw [lR];exact m1,fun q hq=>?_⟩;unfold KB at hq;obtain⟨m,hm,rfl⟩:=List.mem_map.1 hq;refine⟨by unfold zN;rw [lR];exact(m2 m hm).1,fun a ha=>?_⟩;unfold zN at ha;obtain⟨r,_,rfl⟩:=List.mem_map.1 ha;exact aOW _ _
theorem aOX{x:Nat}{fs rs:List (List Nat)} (h:Wd x fs rs):(Aq fs rs).length=4/\∀l∈Aq fs rs,l.length=2/\∀p∈l,EY p.1/\EY p.2:=by
 obtain⟨h1,h2,h3,h4⟩:=We h;refine⟨by simp [Aq],fun l hl=>?_⟩;unfold Aq at hl;obtain⟨i,_,rfl⟩:=List.mem_map.1 hl
 have aFe:∀(l:List Nat) (X:Nat),ev 11 l X<11:=fun l X=>by
  unfold ev;cases l with
  | nil=>show 0<11;decide
  | cons a l=>exact iY _ (by decide)
 refine⟨by unfold shL;rw [uM,h1,h2];rfl,?_⟩;unfold shL;exact YS fun a _ b _=>⟨lE (aFe a _),lE (aFe b _)⟩
def tuV (O:Nat->Tag) (t:Tu):List V:=OA O t.e++[n8 t.of,.int .i64 t.fr]
theorem aOY (O:Tag) (o:Nat) (t:Tu):Tl O o (tuC t)=tuV (fun k=> .sub O (o+k)) t:=rfl
section
variable{M n:Nat}{x:VE}{S:Hp}{K:KV}{O:Nat->Tag}
theorem Qm (hx:Deep PP bI gM M (n+1) x){y:Nat}{u:Tu} (hr:u.of≠1\/u.e.kind≠1/\u.e.kind≠3/\u.e.kind≠4) (hK:∀O,K (.agg (OA O u.e)) S):x.call dP [.ptr y 0,.agg (tuV O u)] S K:=by
 refine hx.call rfl fun w hw=>?_;rw [uY];unfold pX gP gL gK gQ;refine cA rfl fun b hb=>?_;have dF:bO S (aK S b (.row (tuV O u) 45)):= .aI hb;have rb:aK S b (.row (tuV O u) 45) b=some (.row (tuV O u) 45):=aC;generalize aK S b (.row (tuV O u) 45)=S1 at dF rb;refine cB (l:=[n8 0,ni 0,ni 0,.nil,.nil,.nil,.nil]) rfl fun r hr'=>?_;have fG:bO S1 (aK S1 r (.row [n8 0,ni 0,ni 0,.nil,.nil,.nil,.nil] 42)):= .aI hr';have rr:aK S1 r (.row [n8 0,ni 0,ni 0,.nil,.nil,.nil,.nil] 42) r=some (.row [n8 0,ni 0,ni 0,.nil,.nil,.nil,.nil] 42):=aC;have Ar:=fG _ _ rb;have EV:=dF.trans fG;have FB:S r=none:=dF.none hr';generalize aK S1 r (.row [n8 0,ni 0,ni 0,.nil,.nil,.nil,.nil] 42)=S2 at EV rr Ar
 have fin:bN 7 (.ptr b 0) S2 fun v6 S=>mL 7 (.ptr r 0) v6 S fun S=>bN 7 (.ptr r 0) S fun v7 _=>bD v7 S K:=by
  rw [tC Ar,dL (cG rfl)];show mL 7 (.ptr r 0) (.agg (OA O u.e)) S2 _;refine gV (n:=7) (i:=r) rr Fy rfl rfl ?_;refine cO (n:=7) (i:=r) aC rfl ?_;exact bL (fun j o q=>by rw [aB (fun c=>by rw [c,FB]at q;cases q)];exact EV j o q) (hK O)
 rw [bA,cQ (o:=0+7) (v:=n8 u.of) Ar rfl];show aH PP .neq 5 (n8 u.of) (n8 1) _;rw [show ∀k:V->Prop,aH PP .neq 5 (n8 u.of) (n8 1) k=k (.bool (!decide (u.of=1)))from fun k=>by rw [KJ];congr 3;simp;omega];by_cases c:u.of=1
 ·have hr:=hr.resolve_left (fun h=>h c)
  rw [bF c,dD,aW,aU,aU,cQ (o:=0) (v:=n8 u.e.kind) Ar rfl];show aH PP .eql 5 (n8 u.e.kind) (n8 1) _;rw [GF,bJ hr.1,aW];show aH PP .eql 5 (n8 u.e.kind) (n8 3) _;rw [GF,bJ hr.2.1,aW];show aH PP .eql 5 (n8 u.e.kind) (n8 4) _;rw [GF,bJ hr.2.2,aW,aU];exact fin
 ·rw [bJ c,uN,bQ,aU]
  exact fin
end
set_option maxRecDepth 8000
section
variable{M n:Nat}{x:VE}{S:Hp}{K:KV}{O:Nat->Tag}
theorem aDC{t:TypeId}{a b:Nat}{k:V->Prop}:aH PP .neq t (n8 a) (n8 b) k=k (.bool (!decide (a=b))):=by rw [KJ];congr 3;simp;omega
theorem aJs{s:VB}{t:Nat}{sh:V}{k:Nat}:(VF true t sh O s)[0+14+k]? =(iH O s)[k]? :=by
 unfold VF;rw [kI (by rw [BP];omega),BP,show 0+14+k-12=k+1+1 by omega];rfl
theorem aBZ (hM:1000000<M) (hx:Deep PP bI gM M (n+17) x){y t:Nat}{cs:List V}{id fr:Int}{aQJ:List V} (vX:cs.length=9) (ho:cs.all fR=true) (h0:cs[0]? =some (n8 1)) (h1:cs[1]? =some (.int .i64 id)) (h7:cs[7]? =some (n8 1)){s:VB}{XO:V}{sh:List (List (Nat×Nat))} (hsh:Shs XO sh)
 (ry:S y=some (.row (VF true t XO O s) 38)) {s0:BitVec 64} {ah:List Nat} {d:Nat} (hd:d<300000) (tp:jP S t s0 ah d)
 (hK:∀N fs rs PC O' S',(0<=id->id<18446744073709551616->N=id.toNat)->Wd (N%11) fs rs->(∀j o,j≠t->j≠y->S j=some o->S' j=some o)->S' y=some (.row (VF true t PC O s) 38)->Shs PC (if s.ep=0 then Aq fs rs else sh)->(∃s' TX,jP S' t s' TX (d+6))->K (.agg (OA O' (aJp fs rs))) S'):
 x.call dP [.ptr y 0,.agg cs] S K:=by
 refine hx.call rfl fun w hw=>?_;rw [uY];unfold pX gP gL gK gQ;refine cA ho fun b hb=>?_;have dF:bO S (aK S b (.row cs 45)):= .aI hb;have rb:aK S b (.row cs 45) b=some (.row cs 45):=aC;generalize aK S b (.row cs 45)=S1 at dF rb;refine cB (l:=[n8 0,ni 0,ni 0,.nil,.nil,.nil,.nil]) rfl fun r hr=>?_;have fG:bO S1 (aK S1 r (.row [n8 0,ni 0,ni 0,.nil,.nil,.nil,.nil] 42)):= .aI hr;have rr:aK S1 r (.row [n8 0,ni 0,ni 0,.nil,.nil,.nil,.nil] 42) r=some (.row [n8 0,ni 0,ni 0,.nil,.nil,.nil,.nil] 42):=aC;have Ar:=fG _ _ rb;have EV:=dF.trans fG;have FB:S r=none:=dF.none hr;have Ss:=EV _ _ ry;have hry:r≠y:=fun c=>by rw [c,ry]at FB;cases FB
 have hby:b≠y:=fun c=>by rw [c,ry]at hb;cases hb
 have tpc:=tp;obtain⟨wt,ht1,ht2⟩:=tpc;have hrt:r≠t:=fun c=>by rw [c,ht1]at FB;cases FB
 have hbt:b≠t:=fun c=>by rw [c,ht1]at hb;cases hb
 have hyt:y≠t:=fun c=>by rw [c,ht1]at ry;injection ry with ry;injection ry with _ ry;cases ry
 generalize aK S1 r (.row [n8 0,ni 0,ni 0,.nil,.nil,.nil,.nil] 42)=S2 at EV rr Ar Ss;have tp2:jP S2 t s0 ah d:=⟨wt,EV _ _ ht1,ht2⟩;obtain⟨N,hN,hN0,vN⟩:=aBY id;have lq:∀{S':Hp} {K:KV},S' y=some (.row (VF true t XO O s) 38)->aT (.ptr y (0+1)) S' K=K (nu 11) S':=fun {S' K} h=>cQ h rfl;have lt:∀{S':Hp} {K:KV},S' y=some (.row (VF true t XO O s) 38)->aT (.ptr y (0+12)) S' K=K (.ptr t 0) S':=fun {S' K} h=>cQ h rfl;have lp:∀{S':Hp} {K:KV},S' y=some (.row (VF true t XO O s) 38)->bN 12 (.ptr y 0) S' K=K (.agg (pv true)) S':=fun {S' K} h=>by rw [tC h,dL (by show 0+12<=19;decide)];rfl
 have li:∀{S':Hp} {K:KV},S' b=some (.row cs 45)->aT (.ptr b (0+1)) S' K=K (.int .i64 id) S':=fun {S' K} h=>cQ h (by rw [eG];exact h1);have smi:∀{z:Int} {p:Prop},aZ (.int .i64 z) (.int .i64 z) p=p:=fun {z p}=>cR rfl;have smp:∀{i o:Nat} {p:Prop},aZ (.ptr i o) (.ptr i o) p=p:=fun {i o p}=>cR rfl;have sma:∀{p:Prop},aZ (.agg (pv true)) (.agg (pv true)) p=p:=fun {p}=>cR rfl;rw [bA,cQ (o:=0+7) Ar (by rw [eG];exact h7)];show aH PP .neq 5 (n8 1) (n8 1) _;rw [aDC,bF rfl,dD,aW,aU,aU,cQ (o:=0) Ar h0];show aH PP .eql 5 (n8 1) (n8 1) _;rw [GF,bF rfl,bQ,dA,aU,lp Ss,aU,bA,li Ar,vN,dA,aU,bA,lq Ss,Ai (by decide),dA,bA,lt Ss,lt Ss,smp,lq Ss,cS,li Ar,smi,lp Ss,sma];have NH:∀{K:KV},(∀j,S2 j=none->K (.own j 0 2 2) (aK S2 j (.row (nY [N%11,3]) 22)))->aS 22 2 iC [(0,1,nu (N%11)),(1,1,nu 3)] S2 K:=fun {K} hk=>Iu hk;refine⟨NH fun _ _=>trivial,NH fun q hq=>?_⟩;have hqt:q≠t:=fun c=>by rw [c,EV _ _ ht1]at hq;cases hq
 have hqy:q≠y:=fun c=>by rw [c,Ss]at hq;cases hq
 have hqb:q≠b:=fun c=>by rw [c,Ar]at hq;cases hq
 have hqr:q≠r:=fun c=>by rw [c,rr]at hq;cases hq
 have pR:bO S2 (aK S2 q (.row (nY [N%11,3]) 22)):= .aI hq;have rq:aK S2 q (.row (nY [N%11,3]) 22) q=some (.row (nY [N%11,3]) 22):=aC;have tp3:jP (aK S2 q (.row (nY [N%11,3]) 22)) t s0 ah d:=tp2.at (by rw [aB (aO hqt)]);have ry3:=pR _ _ Ss;have rb3:=pR _ _ Ar;have rr3:=pR _ _ rr;have leB:=EV.trans pR;generalize aK S2 q (.row (nY [N%11,3]) 22)=S3 at rq tp3 ry3 rb3 rr3 leB;have nv:NV (del S3 t) (.own q 0 2 2) [N%11,3]:= .own (l:=[N%11,3]) (by rw [SN hqt];exact rq) (fun i z h=>by rw [eG];exact IP h) (by rw [nZ];simp);refine aMa (n:=n) (two:=true) (l:=[N%11,3]) hM hw nv (fun c hc=>?_) rfl (by omega) tp3 fun S4 fs rs but tp4 hfs hrs O1 O2z=>?_
 ·rcases List.mem_cons.1 hc with rfl | hc
  ·exact lE (iY _ (by decide))
  ·rcases List.mem_cons.1 hc with rfl | hc
   ·decide
   ·cases hc
 have aOZ:Wd (N%11) fs rs:=⟨_,vV _ ah s0,QI _ ah s0,hfs,hrs⟩;have YT:S4 y=some (.row (VF true t XO O s) 38):=by rw [but _ hyt];exact ry3
 have Qn:S4 b=some (.row cs 45):=by rw [but _ hbt];exact rb3
 have Nb:S4 r=some (.row [n8 0,ni 0,ni 0,.nil,.nil,.nil,.nil] 42):=by rw [but _ hrt];exact rr3
 have kp4:∀j o,j≠t->S j=some o->S4 j=some o:=fun j o hj e=>by rw [but _ hj];exact leB _ _ e
 obtain⟨CU,YR⟩:=aFn aOZ
 have fin:∀S5 PC,(∀j o,j≠t->j≠y->S j=some o->S5 j=some o)->S5 y=some (.row (VF true t PC O s) 38)->Shs PC (if s.ep=0 then Aq fs rs else sh)->(∃s' TX,jP S5 t s' TX (d+6))->S5 r=some (.row [n8 0,ni 0,ni 0,.nil,.nil,.nil,.nil] 42)->kH w (.ptr r 0) (.list O2z (dS (iO fs rs)) (iO fs rs).length) S5 K:=by
  intro S5 PC kp ry5 hs5 tp5 rr5;rw [HU _ (by rw [hw.most];omega)];unfold nO;refine aE ?_;refine⟨rfl,cG rfl,rfl,cG rfl,?_⟩;show(mL 7 (.ptr r 0) (.agg [n8 1,ni 0,ni 0,.nil,.list O2z (dS (iO fs rs)) (iO fs rs).length,.nil,.nil]) S5 fun S=>bN 7 (.ptr r 0) S fun v1 _=>bD v1 S K);refine gV (n:=7) (i:=r) rr5 rfl rfl rfl ?_;refine cO (n:=7) (i:=r) aC rfl ?_;have kp6:∀j o,j≠t->j≠y->S j=some o->aK S5 r (.row [n8 1,ni 0,ni 0,.nil,.list O2z (dS (iO fs rs)) (iO fs rs).length,.nil,.nil] 42) j=some o:=fun j o h1 h2 e=>by rw [aB (fun c=>by rw [c,FB]at e;cases e)];exact kp j o h1 h2 e
  obtain⟨s9,ah9,tp9⟩:=tp5;refine⟨_,fun O'=> .agg (OA (fun k=>if k=4 then O2z else O' k) (aJp fs rs)),.refl _,fun O'=> .agg ⟨rfl,fun j v u e1 e2=>?_⟩,fun O'=>hK N fs rs PC _ _ hN0 aOZ kp6 (by rw [aB (aO hry)];exact ry5) hs5 ⟨s9,ah9,tp9.at (by rw [aB (aO hrt)])⟩⟩
  match j with
  | 0=>injection e1 with e1;injection e2 with e2;subst e1 e2;exact .lT _
  | 1=>injection e1 with e1;injection e2 with e2;subst e1 e2;exact .lT _
  | 2=>injection e1 with e1;injection e2 with e2;subst e1 e2;exact .lT _
  | 3=>injection e1 with e1;injection e2 with e2;subst e1 e2;exact .Ao .nil
  | 4=>injection e1 with e1;injection e2 with e2;subst e1 e2;exact .lT _
  | 5=>injection e1 with e1;injection e2 with e2;subst e1 e2;exact .Ao .nil
  | 6=>injection e1 with e1;injection e2 with e2;subst e1 e2;exact .Ao .nil
  | j+7=>simp at e1
 rw [lq YT,cS,li Qn,smi];refine cJ (v:= .list O1 (shD fs rs (tN true)) (tN true)) rfl ?_;refine cJ (v:= .list O2z (dS (iO fs rs)) (iO fs rs).length) rfl ?_;refine cJ (v:=ni 0) rfl ?_;rw [uV,bF rfl];have lep:∀{K:KV},aT (.ptr y (0+14+0)) S4 K=K (ni s.ep) S4:=fun {K}=>cQ YT (by rw [aJs];rfl);rw [aF,aM];try dsimp only
 rw [aF,aM,dA];try dsimp only
 rw [aF,aM,bA];try dsimp only
 rw [aF,aM,bA];try dsimp only
 rw [aF,aM,lep];try dsimp only
 rw [aF,aM];try dsimp only
 rw [uV,aF,dJ];by_cases c:s.ep=0
 ·rw [bF c,bQ,dA,bA,DT YT (show 0+13<19 by decide) rfl]
  obtain⟨s5,ah5,w5,q5,u5⟩:=tp4
  have hsd:Shs (.list O1 (shD fs rs (tN true)) (tN true)) (if s.ep=0 then Aq fs rs else sh):=by
   rw [aJ c];obtain⟨g1,g2⟩:=aOX aOZ;have:=Shs.four (O:=O1) g1 g2;rw [g1]at this;have e:shC (Aq fs rs)=shD fs rs (tN true):=by unfold shC Aq shD;rw [List.map_map];rfl
   rw [e]at this;exact this
  refine fin _ (.list O1 (shD fs rs (tN true)) (tN true)) (fun j o h1 h2 e=>by rw [aB h2];exact kp4 j o h1 e) aC hsd ⟨s5,ah5,w5,by rw [aB (aO hyt)];exact q5,u5⟩ (by rw [aB hry];exact Nb)
 ·rw [bJ c,aW]
  refine fin S4 XO (fun j o h1 _ e=>kp4 j o h1 e) YT (by rw [aG c];exact hsh) tp4 Nb
theorem Zx (hx:Deep PP bI gM M (n+1) x){y t:Nat}{cs:List V} (vX:cs.length=9) (ho:cs.all fR=true) (h0:cs[0]? =some (n8 3)) (h7:cs[7]? =some (n8 1)){s:VB}{XO:V} (ry:S y=some (.row (VF true t XO O s) 38)){Sb:Hp}{vn:V}{l:List Int} (hle:bO Sb S) (h5:cs[5]? =some vn) (hvo:fR vn=true) (hf:∀{S':Hp},bO S S'->Fi Sb S' vn (.list (iV l) l.length))
 (hK:∀O',K (.agg (OA O' (aOU s l))) Sb):x.call dP [.ptr y 0,.agg cs] S K:=by
 refine hx.call rfl fun w hw=>?_;rw [uY];unfold pX gP gL gK gQ;refine cA ho fun b hb=>?_;have dF:bO S (aK S b (.row cs 45)):= .aI hb;have rb:aK S b (.row cs 45) b=some (.row cs 45):=aC;generalize aK S b (.row cs 45)=S1 at dF rb;refine cB (l:=[n8 0,ni 0,ni 0,.nil,.nil,.nil,.nil]) rfl fun r hr=>?_;have fG:bO S1 (aK S1 r (.row [n8 0,ni 0,ni 0,.nil,.nil,.nil,.nil] 42)):= .aI hr;have rr:aK S1 r (.row [n8 0,ni 0,ni 0,.nil,.nil,.nil,.nil] 42) r=some (.row [n8 0,ni 0,ni 0,.nil,.nil,.nil,.nil] 42):=aC;have Ar:=fG _ _ rb;have EV:=dF.trans fG;have FB:S r=none:=dF.none hr;have Ss:=EV _ _ ry;generalize aK S1 r (.row [n8 0,ni 0,ni 0,.nil,.nil,.nil,.nil] 42)=S2 at EV rr Ar Ss;rw [bA,cQ (o:=0+7) Ar (by rw [eG];exact h7)];show aH PP .neq 5 (n8 1) (n8 1) _;rw [aDC,bF rfl,dD,aW,aU,aU,cQ (o:=0) Ar h0];show aH PP .eql 5 (n8 3) (n8 1) _;rw [GF,bJ (by decide),aW];show aH PP .eql 5 (n8 3) (n8 3) _;rw [GF,bF rfl,bQ,dA,bA,bA,cQ (o:=0+14+0) (v:=ni s.ep) Ss (by rw [aJs];rfl),aU,bA,cQ (o:=0+5) Ar (by rw [eG];exact h5)]
 have hbl:∀{k:V->Prop},k (.agg [n8 3,ni 0,ni s.ep,.nil,.nil,vn,.nil])->cV GH [(0,1,n8 3),(2,1,ni s.ep),(5,1,vn)] k:=fun {k} hk=>by
  unfold cV rL;show iG [(0,1,n8 3),(2,1,ni s.ep),(5,1,vn)] [n8 0,ni 0,ni 0,.nil,.nil,.nil,.nil] _;unfold iG iG iG iG;rw [vc1 (v:=n8 3) rfl,vc1 (v:=ni s.ep) rfl,vc1 hvo];exact⟨rfl,by simp,rfl,by simp [aY],rfl,by simp [aY],hk⟩
 refine hbl ?_;refine gV (n:=7) (i:=r) rr (by simp only [VM,List.all_nil,hvo];rfl) rfl rfl ?_;refine cO (n:=7) (i:=r) aC rfl ?_;have leX:bO Sb (aK S2 r (.row [n8 3,ni 0,ni s.ep,.nil,.nil,vn,.nil] 42)):=fun j o q=>by rw [aB (fun c=>by rw [c]at q;have:=hle _ _ q;rw [FB]at this;cases this)];exact EV _ _ (hle _ _ q)
 have hfz:Fi Sb (aK S2 r (.row [n8 3,ni 0,ni s.ep,.nil,.nil,vn,.nil] 42)) vn (.list (iV l) l.length):=hf fun j o q=>by rw [aB (fun c=>by rw [c,FB]at q;cases q)];exact EV _ _ q
 refine⟨Sb,fun O'=> .agg (OA O' (aOU s l)),leX,fun O'=> .agg ⟨rfl,fun j v u e1 e2=>?_⟩,fun O'=>hK _⟩
 match j with
 | 0=>injection e1 with e1;injection e2 with e2;subst e1 e2;exact .lT _
 | 1=>injection e1 with e1;injection e2 with e2;subst e1 e2;exact .lT _
 | 2=>injection e1 with e1;injection e2 with e2;subst e1 e2;exact .lT _
 | 3=>injection e1 with e1;injection e2 with e2;subst e1 e2;exact .Ao .nil
 | 4=>injection e1 with e1;injection e2 with e2;subst e1 e2;exact .Ao .nil
 | 5=>injection e1 with e1;injection e2 with e2;subst e1 e2;exact .Ao hfz
 | 6=>injection e1 with e1;injection e2 with e2;subst e1 e2;exact .Ao .nil
 | j+7=>simp at e1
end
set_option maxRecDepth 8000
theorem SL.aDD{el:TypeId}{S0 S1 S:Hp}{v:V}{ds:List Dt}{n:Nat} (h:SL el S0 S v ds n) (hs:∀i vs m,S i=some (.fW vs el m)->S0 i=none->S1 i=none):SL el S1 S v ds n:=by
 cases h with
 | nil=>exact .nil
 | acc h0 h hl hv=>exact .acc (hs _ _ _ h h0) h hl hv
def PD (sh:List (List (Nat×Nat))):Nat->List (Int×List (List Nat))->Prop
 | _,[]=>True
 | i,d::ds=>(∃l,sh[i]? =some l/\d.1=((i+1:Nat):Int)/\aDB l d.2)/\PD sh (i+1) ds
theorem PD.app{sh:List (List (Nat×Nat))}{e:Int×List (List Nat)}{l:List (Nat×Nat)}:∀{ds:List (Int×List (List Nat))} {i:Nat},PD sh i ds->sh[i+ds.length]? =some l->e.1=((i+ds.length+1:Nat):Int)->aDB l e.2->PD sh i (ds++[e]):=by
 intro ds;induction ds with
 | nil=>intro i _ h1 h2 h3;exact⟨⟨l,h1,h2,h3⟩,trivial⟩
 | cons d ds ih=>
  intro i h h1 h2 h3;refine⟨h.1,ih h.2 ?_ ?_ h3⟩
  ·rw [oU]at h1;rw [show i+1+ds.length=i+(ds.length+1)by omega];exact h1
  ·rw [oU]at h2;rw [h2];congr 1;omega
section
variable{M n:Nat}{x:VE}{S:Hp}{K:KV}{O:Nat->Tag}
theorem aJt{t:TypeId}{a b:Nat}{k:V->Prop}:aH PP .leq t (ni a) (ni b) k=k (.bool (decide (a<=b))):=by rw [KL];congr 2;simp
theorem aQK{t:TypeId}{a b:Nat} (h:b≠0){k:V->Prop}:aH PP .rem t (nu a) (nu b) k=k (nu (a%b)):=Ai h
theorem aB0 (hM:1000000<M) (hx:Deep PP bI gM M (n+23) x){y t:Nat}{cs:List V}{fr:Int} (vX:cs.length=9) (ho:cs.all fR=true) (h0:cs[0]? =some (n8 4)) (h7:cs[7]? =some (n8 1)) (h8:cs[8]? =some (.int .i64 fr)){s:VB}{XO:V}{sh:List (List (Nat×Nat))} (hsh:Shs XO sh)
 (ry:S y=some (.row (VF true t XO O s) 38)) {s0:BitVec 64} {ah:List Nat} {d:Nat} (hd:d<300000) (tp:jP S t s0 ah d)
 (hK:∀N ds O' S',N<3->PD sh N ds->ds.length=(if sh.length=4 then 2 else 0)->(∀j o,j≠t->j≠y->S j=some o->S' j=some o)->S' y=some (.row (VF true t XO O s) 38)->(∃s' TX d',d'<=d+24/\jP S' t s' TX d')->K (.agg (OA O' (aJq s ds))) S'):
 x.call dP [.ptr y 0,.agg cs] S K:=by
 refine hx.call rfl fun w hw=>?_;rw [uY];unfold pX gP gL gK gQ;refine cA ho fun b hb=>?_;have dF:bO S (aK S b (.row cs 45)):= .aI hb;have rb:aK S b (.row cs 45) b=some (.row cs 45):=aC;generalize aK S b (.row cs 45)=S1 at dF rb;refine cB (l:=[n8 0,ni 0,ni 0,.nil,.nil,.nil,.nil]) rfl fun r hr=>?_;have fG:bO S1 (aK S1 r (.row [n8 0,ni 0,ni 0,.nil,.nil,.nil,.nil] 42)):= .aI hr;have rr:aK S1 r (.row [n8 0,ni 0,ni 0,.nil,.nil,.nil,.nil] 42) r=some (.row [n8 0,ni 0,ni 0,.nil,.nil,.nil,.nil] 42):=aC;have Ar:=fG _ _ rb;have EV:=dF.trans fG;have FB:S r=none:=dF.none hr;have Ss:=EV _ _ ry;have hry:r≠y:=fun c=>by rw [c,ry]at FB;cases FB
 have tpc:=tp;obtain⟨wt,ht1,ht2⟩:=tpc;have hrt:r≠t:=fun c=>by rw [c,ht1]at FB;cases FB
 have hyt:y≠t:=fun c=>by rw [c,ht1]at ry;injection ry with ry;injection ry with _ ry;cases ry
 generalize aK S1 r (.row [n8 0,ni 0,ni 0,.nil,.nil,.nil,.nil] 42)=S2 at EV rr Ar Ss;obtain⟨N,hN,hN0,vN⟩:=aBY fr;have lp:∀{S':Hp} {K:KV},S' y=some (.row (VF true t XO O s) 38)->bN 12 (.ptr y 0) S' K=K (.agg (pv true)) S':=fun {S' K} h=>by rw [tC h,dL (by show 0+12<=19;decide)];rfl
 have l5:∀{S':Hp} {K:KV},S' y=some (.row (VF true t XO O s) 38)->aT (.ptr y (0+5)) S' K=K (ni 4) S':=fun {S' K} h=>cQ h rfl;have l6:∀{S':Hp} {K:KV},S' y=some (.row (VF true t XO O s) 38)->aT (.ptr y (0+6)) S' K=K (ni 1) S':=fun {S' K} h=>cQ h rfl;have lt:∀{S':Hp} {K:KV},S' y=some (.row (VF true t XO O s) 38)->aT (.ptr y (0+12)) S' K=K (.ptr t 0) S':=fun {S' K} h=>cQ h rfl;have ls:∀{S':Hp} {K:KV},S' y=some (.row (VF true t XO O s) 38)->aT (.ptr y (0+13)) S' K=K XO S':=fun {S' K} h=>cQ h rfl;have smp:∀{i o:Nat} {p:Prop},aZ (.ptr i o) (.ptr i o) p=p:=fun {i o p}=>cR rfl;have sma:∀{p:Prop},aZ (.agg (pv true)) (.agg (pv true)) p=p:=fun {p}=>cR rfl;have sms:∀{p:Prop},aZ XO XO p=p:=fun {p}=>cR hsh.same;rw [bA,cQ (o:=0+7) Ar (by rw [eG];exact h7)];show aH PP .neq 5 (n8 1) (n8 1) _;rw [aDC,bF rfl,dD,aW,aU,aU,cQ (o:=0) Ar h0];show aH PP .eql 5 (n8 4) (n8 1) _;rw [GF,bJ (by decide),aW];show aH PP .eql 5 (n8 4) (n8 3) _;rw [GF,bJ (by decide),aW];show aH PP .eql 5 (n8 4) (n8 4) _;rw [GF,bF rfl,bQ,dA,bA,bA,cQ (o:=0+14+0) (v:=ni s.ep) Ss (by rw [aJs];rfl)]
 have hbl:∀{k:V->Prop},k (.agg [n8 4,ni 0,ni s.ep,.nil,.nil,.nil,.nil])->cV GH [(0,1,n8 4),(2,1,ni s.ep)] k:=fun {k} hk=>by
  unfold cV rL;show iG [(0,1,n8 4),(2,1,ni s.ep)] [n8 0,ni 0,ni 0,.nil,.nil,.nil,.nil] _;unfold iG iG iG;rw [vc1 (v:=n8 4) rfl,vc1 (v:=ni s.ep) rfl];exact⟨rfl,by simp,rfl,by simp [aY],hk⟩
 refine hbl ?_;refine cB (l:=[n8 0,ni 0,ni 0,.nil,.nil,.nil,.nil]) rfl fun e he=>?_;refine gV (n:=7) (i:=e) aC rfl rfl rfl ?_;rw [dU];have pR:bO S2 (aK S2 e (.row [n8 4,ni 0,ni s.ep,.nil,.nil,.nil,.nil] 42)):= .aI he;have re:aK S2 e (.row [n8 4,ni 0,ni s.ep,.nil,.nil,.nil,.nil] 42) e=some (.row [n8 4,ni 0,ni s.ep,.nil,.nil,.nil,.nil] 42):=aC;have he0:S e=none:=EV.none he;have hey:e≠y:=fun c=>by rw [c,ry]at he0;cases he0
 have het:e≠t:=fun c=>by rw [c,ht1]at he0;cases he0
 have her:e≠r:=fun c=>by rw [c,rr]at he;cases he
 have ry3:=pR _ _ Ss;have rb3:=pR _ _ Ar;have rr3:=pR _ _ rr;have leB:=EV.trans pR;generalize aK S2 e (.row [n8 4,ni 0,ni s.ep,.nil,.nil,.nil,.nil] 42)=S3 at re ry3 rb3 rr3 leB;have tp3:jP S3 t s0 ah d:=⟨wt,leB _ _ ht1,ht2⟩;rw [bA,cQ (o:=0+8) rb3 (by rw [eG];exact h8),vN,dA,aU,bA,l5 ry3,dA,aU,bA,l6 ry3,Zk (by decide) (by decide)];show LS .u64 (ni 3) _;rw [Iq (by decide),aQK (by decide),aOT (by have:=iY N (show 3>0 by decide);omega)];have hF:N%3<3:=iY _ (by decide);generalize N%3=F at hF;rw [hw.most]
 have fin:∀(u:V) (acc:List (Int×List (List Nat))) (S4:Hp),acc.length=(if sh.length=4 then 2 else 0)->(∀j o,j≠t->j≠y->S j=some o->S4 j=some o)->S4 y=some (.row (VF true t XO O s) 38)->(∃s' TX d',d'<=d+24/\jP S4 t s' TX d')->S4 r=some (.row [n8 0,ni 0,ni 0,.nil,.nil,.nil,.nil] 42)->
  S4 e=some (.row [n8 4,ni 0,ni s.ep,.nil,.nil,.nil,u] 42)->SL 68 S S4 u (MX acc) acc.length->PD sh F acc->bN 7 (.ptr e 0) S4 fun v64 S=>mL 7 (.ptr r 0) v64 S fun S=>bN 7 (.ptr r 0) S fun v65 _=>bD v65 S K:=by
  intro u acc S4 hal kp YT tp4 Nb re4 XC PL;refine cO (n:=7) (i:=e) re4 rfl ?_;refine gV (n:=7) (i:=r) Nb (by simp only [VM,List.all_nil,XC.one];rfl) rfl rfl ?_;refine cO (n:=7) (i:=r) aC rfl ?_;obtain⟨s9,ah9,d9,hd9,w9,q9,u9⟩:=tp4
  let SE:Hp:=fun j=>if j=t then S4 t else if j=y then S4 y else S j
  have eT:SE t=S4 t:=aJ rfl;have eY:SE y=S4 y:=by show(if y=t then _ else if y=y then _ else _)=_;rw [aG hyt,aJ rfl]
  have eO:∀j,j≠t->j≠y->SE j=S j:=fun j h1 h2=>by show(if j=t then _ else if j=y then _ else _)=_;rw [aG h1,aG h2]
  have leE:bO SE (aK S4 r (.row [n8 4,ni 0,ni s.ep,.nil,.nil,.nil,u] 42)):=fun j o hj=>by
   by_cases c1:j=t
   ·rw [c1,eT]at hj;rw [c1,aB (aO hrt)];exact hj
   ·by_cases c2:j=y
    ·rw [c2,eY]at hj;rw [c2,aB (aO hry)];exact hj
    ·rw [eO j c1 c2]at hj
     rw [aB (fun c=>by rw [c,FB]at hj;cases hj)];exact kp j o c1 c2 hj
  have aOG:SL 68 SE (aK S4 r (.row [n8 4,ni 0,ni s.ep,.nil,.nil,.nil,u] 42)) u (MX acc) acc.length:=by
   have h2:=XC.set (o:= .row [n8 4,ni 0,ni s.ep,.nil,.nil,.nil,u] 42) Nb fun vs m c=>by cases c
   refine h2.aDD fun i' vs m g1 g0=>?_;have hit:i'≠t:=fun c=>by rw [c,aB (aO hrt),q9]at g1;cases g1
   have hiy:i'≠y:=fun c=>by rw [c,aB (aO hry),YT]at g1;cases g1
   rw [eO _ hit hiy];exact g0
  refine⟨SE,fun O'=> .agg (OA O' (aJq s acc)),leE,fun O'=> .agg ⟨rfl,fun j v u e1 e2=>?_⟩,fun O'=>hK F acc O' SE hF PL hal (fun j o h1 h2 h3=>by rw [eO j h1 h2];exact h3) (by rw [eY];exact YT) ⟨s9,ah9,d9,by omega,w9,by rw [eT];exact q9,u9⟩⟩
  match j with
  | 0=>injection e1 with e1;injection e2 with e2;subst e1 e2;exact .lT _
  | 1=>injection e1 with e1;injection e2 with e2;subst e1 e2;exact .lT _
  | 2=>injection e1 with e1;injection e2 with e2;subst e1 e2;exact .lT _
  | 3=>injection e1 with e1;injection e2 with e2;subst e1 e2;exact .Ao .nil
  | 4=>injection e1 with e1;injection e2 with e2;subst e1 e2;exact .Ao .nil
  | 5=>injection e1 with e1;injection e2 with e2;subst e1 e2;exact .Ao .nil
  | 6=>injection e1 with e1;injection e2 with e2;subst e1 e2;exact .Ao aOG.Cm
  | j+7=>simp at e1
 have go:∀(q i m:Nat) (u:V) (acc:List (Int×List (List Nat))) (S4:Hp),i+q=F+2->q<m->F<=i->(∀j o,j≠t->j≠y->S j=some o->S4 j=some o)->S4 y=some (.row (VF true t XO O s) 38)->(∃s' TX d',d'<=d+12*(i-F)/\jP S4 t s' TX d')->S4 r=some (.row [n8 0,ni 0,ni 0,.nil,.nil,.nil,.nil] 42)->
  S4 e=some (.row [n8 4,ni 0,ni s.ep,.nil,.nil,.nil,u] 42)->SL 68 S S4 u (MX acc) acc.length->PD sh F acc->acc.length=(if sh.length=4 then i-F else 0)->fO w m (.ptr y 0) (.ptr r 0) (.ptr e 0) (ni F) (ni i) S4 K:=by
  intro q;induction q with
  | zero=>
   intro i m u acc S4 hi hm hFi kp YT tp4 Nb re4 XC PL hal;obtain⟨m,rfl⟩:=bG (show m≠0 by omega);rw [oM];unfold jM gP gL gK gQ;refine aE ?_;rw [dA,aU,bA,l6 YT,bE (by omega)];rw [aJt];rw [bJ (by omega)]
   iterate 7 (rw [aF,lZ];try dsimp only)
   rw [aF,eI,aW];exact fin u acc S4 (by rw [hal];split<;>omega) kp YT (by obtain⟨a1,a2,a3,a4,a5⟩:=tp4;exact⟨a1,a2,a3,by omega,a5⟩) Nb re4 XC PL
  | succ q ih=>
   intro i m u acc S4 hi hm hFi kp YT tp4 Nb re4 XC PL hal;obtain⟨m,rfl⟩:=bG (show m≠0 by omega);rw [oM];unfold jM gP gL gK gQ;refine aE ?_;rw [dA,aU,bA,l6 YT,bE (by omega)];rw [aJt];rw [bF (by omega),aF,aM];try dsimp only
   rw [aF,aM];try dsimp only
   rw [aF,aM,dA];try dsimp only
   rw [aF,aM,bA];try dsimp only
   rw [aF,aM,ls YT];try dsimp only
   rw [aF,aM,hsh.len];try dsimp only
   rw [aF,aM,aN];try dsimp only
   rw [aF,dJ];cases hsh with
   | no=>
    rw [iN (by simp),aW];exact fin u acc S4 hal kp YT (by obtain⟨a1,a2,a3,a4,a5⟩:=tp4;exact⟨a1,a2,a3,by omega,a5⟩) Nb re4 XC PL
   | @four Osz sh h4 aSv=>
    have hi4:i<sh.length:=by omega
    obtain⟨DK,aQL⟩:=aSv _ (cK hi4);have hgl:sh[i]? =some sh[i]:=aQ hi4;have RE:(shC sh)[i*1]? =some (.list (pds sh[i]) sh[i].length):=by rw [jL];unfold shC;rw [dO,hgl];rfl
    generalize sh[i]=L at DK aQL hgl RE;have lL:∀{S':Hp} {K:KV},aT (.pI Osz (shC sh) (i*1)) S' K=K (.list (.sub Osz (i*1)) (pds L) L.length) S':=fun {S' K}=>by rw [sJ,cI RE];rfl
    have sml:∀{t:Tag} {cs:List Dt} {n:Nat} {p:Prop},aZ (.list t cs n) (.list t cs n) p=p:=fun {t cs n p}=>cR rfl;obtain⟨s4,ah4,d4,hd4,tp4⟩:=tp4;rw [wX hi4,bQ,dA,aU,lp YT,dA,bA,ls YT,fH hi4,lL,dA,aU,bA,l5 YT,dA,bA,lt YT,lt YT,smp,l5 YT,cS,lL,sml,ls YT,sms,lp YT,sma];refine⟨cB (l:=[.nil,.nil,.nil]) rfl fun _ _=>trivial,?_⟩;refine aO0 (n:=n) (two:=true) hM hw DK aQL (by omega) tp4 fun D Sb S5 vr vc t1 but tpb hD DY gr gc=>?_;have hDl:D.length=12:=by rw [hD,vV,DK];rfl
    have hDc:∀c∈D,c<11:=by rw [hD];exact QI _ _ _
    have up5:∀{j:Nat} {o:Ob},j≠t->S4 j=some o->S5 j=some o:=fun {j o} h e=>DY _ _ (by rw [but _ h];exact e);have ry5:=up5 hyt YT;have rr5:=up5 hrt Nb;have re5:=up5 het re4;have kp5:∀j o,j≠t->j≠y->S j=some o->S5 j=some o:=fun j o h1 h2 h3=>up5 h1 (kp j o h1 h2 h3);obtain⟨w4,q4,u4⟩:=tp4;have aSw:SL 68 S S5 u (MX acc) acc.length:=XC.but fun j vs m hj=>up5 (fun c=>by rw [c,q4]at hj;cases hj) hj;obtain⟨s5,ah5,w5,q5,u5⟩:=tpb;have ht5:=DY _ _ q5;rw [ls ry5,sms];refine cJ (v:= .agg [.list t1 (mD (tG (fT true L D) (bT true L D))) (tG (fT true L D) (bT true L D)).length,vr,vc]) rfl ?_;refine cJ (v:=ni 0) rfl ?_;rw [ls ry5,sms];refine⟨cB (l:=[.nil,.nil,.nil]) rfl fun _ _=>trivial,?_⟩;refine cB (l:=[.nil,.nil,.nil]) rfl fun g hg=>?_;refine gV (n:=3) (i:=g) aC (by simp only [VM,List.all_nil,gr.one,gc.one];rfl) rfl rfl ?_;rw [dU];have NW:bO S5 (aK S5 g (.row [.list t1 (mD (tG (fT true L D) (bT true L D))) (tG (fT true L D) (bT true L D)).length,vr,vc] 79)):= .aI hg;have rg:aK S5 g (.row [.list t1 (mD (tG (fT true L D) (bT true L D))) (tG (fT true L D) (bT true L D)).length,vr,vc] 79) g=some (.row [.list t1 (mD (tG (fT true L D) (bT true L D))) (tG (fT true L D) (bT true L D)).length,vr,vc] 79):=aC;generalize aK S5 g (.row [.list t1 (mD (tG (fT true L D) (bT true L D))) (tG (fT true L D) (bT true L D)).length,vr,vc] 79)=S6 at NW rg;have ry6:=NW _ _ ry5;have rr6:=NW _ _ rr5;have re6:=NW _ _ re5;have ht6:=NW _ _ ht5;have aSx:=aSw.up NW;have lu:∀{S':Hp} {K:KV},S' e=some (.row [n8 4,ni 0,ni s.ep,.nil,.nil,.nil,u] 42)->aT (.ptr e (0+6)) S' K=K u S':=fun {S' K} h=>cQ h rfl;have smu:∀{p:Prop},aZ u u p=p:=fun {p}=>cR XC.same;rw [uV,bF rfl,bQ,bA,lu re6,bE (by omega),dA,aU,lp ry6,aU,cQ (o:=0) rg rfl];obtain⟨m1,m2⟩:=aJr DK hDl hDc;have b23:∀{a:Nat},a<23->EY a:=fun {a} h=>show a<18446744073709551616 by omega
    refine aO1 (n:=n+16) (two:=true) hM hw (show(0:Nat)<18446744073709551616 by decide) (fun ls hls=>?_) (by omega) fun t7=>?_
    ·obtain⟨z1,z2⟩:=m2 ls hls
     refine⟨fun c hc=>?_,by omega⟩;obtain⟨z3,z4⟩:=z2 c hc;exact⟨fun a ha=>b23 (z4 a ha),by omega⟩
    rw [lu re6,smu];show cV uZ [(0,1,.int .i64 ((i+1:Nat):Int)),(1,1,T t7 (.list (dS (KB (tG (fT true L D) (bT true L D)) 0)) (KB (tG (fT true L D) (bT true L D)) 0).length))] _;rw [Qo,lu re6,smu];have tso:Lp [.int .i64 ((i+1:Nat):Int),T t7 (.list (dS (KB (tG (fT true L D) (bT true L D)) 0)) (KB (tG (fT true L D) (bT true L D)) 0).length)] [.int .i64 ((i+1:Nat):Int),.list (dS (KB (tG (fT true L D) (bT true L D)) 0)) (KB (tG (fT true L D) (bT true L D)) 0).length]:= .cons t7 (.int .i64 ((i+1:Nat):Int)) (.cons t7 (.list (dS (KB (tG (fT true L D) (bT true L D)) 0)) (KB (tG (fT true L D) (bT true L D)) 0).length) .nil);refine⟨HP (z:=[ni 0,.nil]) rfl rfl rfl tso.one fun _ _=>trivial,?_⟩;have aTk:acc.length<=2:=by rw [hal];split<;>omega
    let SE:Hp:=fun j=>if j=t then S6 t else if j=y then S6 y else S j
    have eT:SE t=S6 t:=aJ rfl;have eY:SE y=S6 y:=by show(if y=t then _ else if y=y then _ else _)=_;rw [aG hyt,aJ rfl]
    have eO:∀j,j≠t->j≠y->SE j=S j:=fun j h1 h2=>by show(if j=t then _ else if j=y then _ else _)=_;rw [aG h1,aG h2]
    have leE:bO SE S6:=fun j o hj=>by
     by_cases c1:j=t
     ·rw [c1,eT]at hj;rw [c1];exact hj
     ·by_cases c2:j=y
      ·rw [c2,eY]at hj;rw [c2];exact hj
      ·rw [eO j c1 c2]at hj
       exact NW _ _ (kp5 j o c1 c2 hj)
    have aQM:SL 68 SE S6 u (MX acc) acc.length:=by
     refine aSx.aDD fun i' vs m g1 g0=>?_;have hit:i'≠t:=fun c=>by rw [c,ht6]at g1;cases g1
     have hiy:i'≠y:=fun c=>by rw [c,ry6]at g1;cases g1
     rw [eO _ hit hiy];exact g0
    refine aQM.app leE (by omega) (aFo acc) (zv:=[ni 0,.nil]) rfl rfl tso rfl (by decide) fun u7 S7 le7 k7 o7 sl7=>?_;have oJ:∀{b:Nat} {o:Ob},S6 b=some o->(∀vs e m,o≠ .fW vs e m)->S7 b=some o:=fun {b o} h1 h2=>k7 _ _ h1 (aQM.ne h1 h2);have ry7:=oJ ry6 (fun vs e m c=>by cases c);have rr7:=oJ rr6 (fun vs e m c=>by cases c);have re7:=oJ re6 (fun vs e m c=>by cases c);have ht7:=oJ ht6 (fun vs e m c=>by cases c);rw [bA,DT re7 (show 0+6<7 by decide) sl7.one];rw [wY _ (by rw [hw.most];omega)];unfold iK;refine aE ?_;rw [bE (by omega)];have e2:MX acc++[.int .i64 ((i+1:Nat):Int),.list (dS (KB (tG (fT true L D) (bT true L D)) 0)) (KB (tG (fT true L D) (bT true L D)) 0).length]=MX (acc++[(((i+1:Nat):Int),KB (tG (fT true L D) (bT true L D)) 0)]):=by rw [aFp];rfl
    rw [e2]at sl7;have sl8:=sl7.set (o:= .row [n8 4,ni 0,ni s.ep,.nil,.nil,.nil,u7] 42) re7 fun vs m c=>by cases c
    have hiF:acc.length=i-F:=by rw [hal,aJ h4]
    refine ih (i+1) m u7 (acc++[(((i+1:Nat):Int),KB (tG (fT true L D) (bT true L D)) 0)]) _ (by omega) (by omega) (by omega) (fun j o h1 h2 h3=>?_) (by rw [aB (aO hey)];exact ry7) ⟨s5,ah5,_,?_,w5,by rw [aB (aO het)];exact ht7,u5⟩ (by rw [aB (aO her)];exact rr7) aC ?_ (PL.app (l:=L) (by rw [hiF,show F+(i-F)=i by omega];exact hgl) ?_ ⟨D,hDl,hDc,rfl⟩) ?_
    ·rw [aB (fun c=>by rw [c,he0]at h3;cases h3)]
     exact le7 _ _ (by rw [eO j h1 h2];exact h3)
    ·have:(tQ true+tQ true)*L.length=12:=by rw [DK];rfl
     rw [this];omega
    ·rw [jU]
     refine sl8.aDD fun i' vs m g1 g0=>?_;have hit:i'≠t:=fun c=>by rw [c,aB (aO het),ht7]at g1;cases g1
     have hiy:i'≠y:=fun c=>by rw [c,aB (aO hey),ry7]at g1;cases g1
     rw [<-eO _ hit hiy];exact g0
    ·show((i+1:Nat):Int)=_;rw [hiF];congr 1;omega
    ·rw [jU,hiF,aJ h4];show i-F+1=_;omega
 refine go 2 F M .nil [] S3 (by omega) (by omega) (by omega) (fun j o _ _ e=>leB _ _ e) ry3 ⟨s0,ah,d,by omega,tp3⟩ rr3 re .nil trivial (by rw [Nat.sub_self];split<;>rfl)
end
set_option maxRecDepth 8000
inductive Qp (s:VB) (sh:List (List (Nat×Nat))) (u:Tu):En->List (List (Nat×Nat))->Prop
 | raw (h:u.of≠1\/u.e.kind≠1/\u.e.kind≠3/\u.e.kind≠4):Qp s sh u u.e sh
 | load (N:Nat) (fs rs:List (List Nat)) (h1:u.of=1) (h2:u.e.kind=1) (h3:0<=u.e.id->u.e.id<18446744073709551616->N=u.e.id.toNat) (h:Wd (N%11) fs rs):Qp s sh u (aJp fs rs) (if s.ep=0 then Aq fs rs else sh)
 | beg (h1:u.of=1) (h2:u.e.kind=3):Qp s sh u (aOU s u.e.next) sh
 | aJu (N:Nat) (ds:List (Int×List (List Nat))) (h1:u.of=1) (h2:u.e.kind=4) (hN:N<3) (h:PD sh N ds) (hl:ds.length=(if sh.length=4 then 2 else 0)):Qp s sh u (aJq s ds) sh
theorem aJv{c:List Nat} (h:∀a∈c,a<23):LP c:=fun a ha=>by have:=h a ha;show a<18446744073709551616;omega
theorem aNs{ls:List (List Nat)} (h1:ls.length=2) (h2:∀c∈ls,c.length=2/\∀a∈c,a<23):Lo ls:=⟨by omega,fun c hc=>⟨aJv (h2 c hc).2,by have:=(h2 c hc).1;omega⟩⟩
theorem PD.sz{sh:List (List (Nat×Nat))} (hs:∀l∈sh,l.length=2):∀{ds:List (Int×List (List Nat))} {i:Nat},PD sh i ds->∀d∈ds,d.2.length=2/\∀c∈d.2,c.length=2/\∀a∈c,a<23:=by
 intro ds;induction ds with
 | nil=>intro i _ d hd;cases hd
 | cons e ds ih=>
  intro i h d hd;rcases List.mem_cons.1 hd with rfl | hd
  ·obtain⟨⟨l,h1,h2,h3⟩,_⟩:=h
   exact aL9 (hs l (CW h1)) h3
  ·exact ih h.2 d hd
theorem Shs.two{v:V}{sh:List (List (Nat×Nat))} (h:Shs v sh):∀l∈sh,l.length=2:=by
 cases h with
 | no=>intro l hl;cases hl
 | four h4 h=>exact fun l hl=>(h l hl).1
theorem Qp.sz{s:VB}{v:V}{sh sh':List (List (Nat×Nat))}{u:Tu}{e:En} (h:Qp s sh u e sh') (hs:Shs v sh) (hu:aBW u.e):aBW e:=by
 cases h with
 | raw h=>exact hu
 | load N fs rs h1 h2 h3 h=>
  obtain⟨g1,g2⟩:=aFn h;exact⟨(by decide:1<256),(by decide:0<1000000),aNs g1 g2,(by decide:0<1000000),(by decide:0<1000000),fun d hd=>by cases hd⟩
 | beg h1 h2=>exact⟨(by decide:3<256),(by decide:0<1000000),⟨(by decide:0*24<=140737488355328),fun c hc=>by cases hc⟩,hu.next,(by decide:0<1000000),fun d hd=>by cases hd⟩
 | aJu N ds h1 h2 hN h hl=>
  have hz:=h.sz hs.two;refine⟨(by decide:4<256),(by decide:0<1000000),⟨(by decide:0*24<=140737488355328),fun c hc=>by cases hc⟩,(by decide:0<1000000),?_,fun d hd=>aNs (hz d hd).1 (hz d hd).2⟩;show ds.length<1000000;rw [hl];split<;>omega
theorem aO2 (s:VB) (e:En):(xD s e).1.ep<=s.ep+1:=by
 unfold xD
 repeat' (split<;>try (first | exact RJ _ | exact bR _))
 all_goals first | (show 1<=_;omega) | (show s.ep<=s.ep+1;omega) | skip
theorem XP.sz{s:VB} (h:XP s) (he:s.ep<1000000):Wf s:=by
 have hm:=YU h.mem
 have vX:s.eH.length<=2/\∀c∈s.eH,c.length=2/\∀a∈c,a<23:=by
  rcases RH s.ep with h0 | h0
  ·rw [(h.c0 h0).1];exact⟨by decide,fun c hc=>by cases hc⟩
  ·obtain⟨g1,g2⟩:=GI.1 (h.c1 h0)
   exact⟨by omega,fun c hc=>⟨(g2 c hc).1,fun a ha=>Iz ((g2 c hc).2 a ha)⟩⟩
 refine⟨he,by omega,by omega,fun c hc=>⟨aJv (vX.2 c hc).2,by have:=(vX.2 c hc).1;omega⟩,?_,by have:=h.few;omega,fun a ha=>?_⟩
 ·rcases h.nx with q | q
  ·rw [q];decide
  ·have:=YU q;omega
 ·obtain⟨x,_,_,hx⟩:=h.ask
  rw [hx a ha];exact(by decide:1<1000000)
section
variable{M n:Nat}{x:VE}{S:Hp}{K:KV}{O:Nat->Tag}
theorem aMb (hM:1000000<M) (hx:Deep PP bI gM M (n+23) x){y t:Nat}{Ou:Nat->Tag}{u:Tu}{s:VB}{XO:V}{sh:List (List (Nat×Nat))} (hsh:Shs XO sh) (ry:S y=some (.row (VF true t XO O s) 38)){s0:BitVec 64}{ah:List Nat}{d:Nat} (hd:d<300000) (tp:jP S t s0 ah d)
 (hK:∀e sh' PC O' S',Qp s sh u e sh'->(∀j o,j≠t->j≠y->S j=some o->S' j=some o)->S' y=some (.row (VF true t PC O s) 38)->Shs PC sh'->(∃s' TX d',d'<=d+24/\jP S' t s' TX d')->K (.agg (OA O' e)) S'):
 x.call dP [.ptr y 0,.agg (tuV Ou u)] S K:=by
 by_cases h1:u.of=1
 ·have e7:(tuV Ou u)[7]? =some (n8 1):=by show some (n8 u.of)=_;rw [h1]
  by_cases k1:u.e.kind=1
  ·have e0:(tuV Ou u)[0]? =some (n8 1):=by show some (n8 u.e.kind)=_;rw [k1]
   refine aBZ (n:=n+6) (aQJ:=[]) hM hx rfl rfl e0 (id:=u.e.id) rfl e7 (fr:=0) hsh ry hd tp fun N fs rs PC O' S' hN hm kp ry' hs' tp'=>?_;obtain⟨s9,ah9,tp9⟩:=tp';exact hK _ _ PC O' S' (.load N fs rs h1 k1 hN hm) kp ry' hs' ⟨s9,ah9,d+6,by omega,tp9⟩
  by_cases k3:u.e.kind=3
  ·have e0:(tuV Ou u)[0]? =some (n8 3):=by show some (n8 u.e.kind)=_;rw [k3]
   refine Zx (n:=n+22) hx rfl rfl e0 e7 ry (Sb:=S) (vn:= .list (Ou 5) (iV u.e.next) u.e.next.length) (l:=u.e.next) (.refl _) rfl rfl (fun _=> .list) fun O'=>?_;exact hK _ _ XO O' S (.beg h1 k3) (fun j o _ _ e=>e) ry hsh ⟨s0,ah,d,by omega,tp⟩
  by_cases k4:u.e.kind=4
  ·have e0:(tuV Ou u)[0]? =some (n8 4):=by show some (n8 u.e.kind)=_;rw [k4]
   refine aB0 (n:=n) hM hx rfl rfl e0 e7 (fr:=u.fr) rfl hsh ry hd tp fun N ds O' S' hN PL hl kp ry' tp'=>?_;exact hK _ _ XO O' S' (.aJu N ds h1 k4 hN PL hl) kp ry' hsh tp'
  ·exact Qm (n:=n+22) hx (.inr ⟨k1,k3,k4⟩) fun O'=>hK _ _ XO O' S (.raw (.inr ⟨k1,k3,k4⟩)) (fun j o _ _ e=>e) ry hsh ⟨s0,ah,d,by omega,tp⟩
 ·exact Qm (n:=n+22) hx (.inl h1) fun O'=>hK _ _ XO O' S (.raw (.inl h1)) (fun j o _ _ e=>e) ry hsh ⟨s0,ah,d,by omega,tp⟩
end
set_option maxRecDepth 8000
section
variable{M n:Nat}{x:VE}{S:Hp}{K:KV}{O:Nat->Tag}
theorem aFq (hx:Deep PP bI gM M (n+1) x) (hK:K (.bool true) S):x.call AE [] S K:=hx.IQ (g:=aLO) rfl ⟨rfl,hK⟩
theorem aMc{s:VB}{t:Nat}{sh:V}{y:Nat}{S1:Hp} (ry:S1 y=some (.row (VF true t sh O s) 38)):bN 5 (.ptr y (0+14)) S1 K=K (.agg (iH O s)) S1:=by
 rw [tC ry,dL (cG rfl)];rfl
theorem Ue{s:VB}{t:Nat}{sh:V}{y:Nat}{S1:Hp} (ry:S1 y=some (.row (VF true t sh O s) 38)):bN 12 (.ptr y 0) S1 K=K (.agg (pv true)) S1:=by
 rw [tC ry,dL (cG rfl)];rfl
theorem aSy{O':Nat->Tag}{s s':VB}{t:Nat}{sh:V}{y:Nat}{S1:Hp}{k:Hp->Prop} (ry:S1 y=some (.row (VF true t sh O s) 38)) (hk:k (aK S1 y (.row (VF true t sh O' s') 38))):mL 5 (.ptr y (0+14)) (.agg (iH O' s')) S1 k:=by
 unfold mL;simp only [ry];exact⟨rfl,rfl,cG rfl,hk⟩
theorem tu9{O:Tag}{ts:List Tu}{i:Nat}{u:Tu} (h:ts[i]? =some u):bN 9 (.pI O (Cr ts) (i*9)) S K=K (.agg (tuV (fun k=> .sub O (i*9+k)) u)) S:=by
 obtain⟨h1,h2⟩:=aJm h;rw [SU,dL h1,h2,aOY]
theorem aMd{p:Prop}{u:Tu}:aZ (.agg (tuV O u)) (.agg (tuV O u)) p=p:=cR rfl
theorem zp5{K:KV} (hk:∀i,S i=none->K (.ptr i 0) (aK S i (.row [ni 0,.nil,.nil,.nil,.nil] 36))):cW wC 36 S K:=cB (l:=[ni 0,.nil,.nil,.nil,.nil]) rfl hk
theorem ze7{K:KV} (hk:∀i,S i=none->K (.ptr i 0) (aK S i (.row [n8 0,ni 0,ni 0,.nil,.nil,.nil,.nil] 42))):cW GH 42 S K:=cB (l:=[n8 0,ni 0,ni 0,.nil,.nil,.nil,.nil]) rfl hk
theorem Ja{i:Nat} (h:S i=some (.row [ni 0,.nil,.nil,.nil,.nil] 36)){s:VB}{k:Hp->Prop} (hk:k (aK S i (.row (iH O s) 36))):mL 5 (.ptr i 0) (.agg (iH O s)) S k:=gV (n:=5) (i:=i) h rfl rfl rfl hk
theorem aQN{i:Nat} (h:S i=some (.row [n8 0,ni 0,ni 0,.nil,.nil,.nil,.nil] 42)){e:En}{k:Hp->Prop} (hk:k (aK S i (.row (OA O e) 42))):mL 7 (.ptr i 0) (.agg (OA O e)) S k:=gV (n:=7) (i:=i) h rfl rfl rfl hk
theorem aO3{l:List Int} (h:l.Pairwise fun a b=>a<=b):FZ l=l:=by
 unfold FZ;exact List.mergeSort_of_pairwise (h.imp fun h=>bF h)
theorem aJw:HV [1,2,3,4]=true:=by
 unfold HV;rw [aO3 (by decide)];decide
theorem aMe:XP Zw:=⟨aJw,fun _=>⟨rfl,rfl⟩,fun h=>aX h (by decide),.inl rfl,⟨0,by decide,by decide,fun a ha=>by cases ha⟩,by decide⟩
end
end Go.Am
set_option maxRecDepth 100000
namespace Go.Am
open Go.RowKit Go.MapKept Go.Proofs
def c0 (ws:List Value) (n:Nat):Cx:=⟨fun _=>none,fun _ _=>none,fun k=>ws[k]?,n⟩
theorem aKu (P:Program) (S:St) (ws:List Value):VS P (fun _=>False) S (c0 ws S.n) (fun _=>none) S:=by
 refine⟨.refl S,fun b h=>h.elim,(fun i o e _=>by cases e),(fun i vs t n e=>by cases e),fun i j b l _=>?_,(fun i n w e=>by cases e),⟨0,fun i _=>⟨rfl,rfl,fun n=>rfl⟩⟩,⟨ws.length,fun k hk=>FK hk⟩,(fun i vs t n m b e=>by cases e),(fun i vs t n b w e o e1=>by cases e1)⟩;rcases l with ⟨o,e,_⟩ | ⟨vs,t,n,m,e,_⟩<;>cases e
theorem aHe{ws:List Value}{n b:Nat}:¬dI (fun _=>False) (c0 ws n) (fun _=>none) b:=by
 rintro(h | ⟨i,⟨o,e,_⟩ | ⟨vs,t,n,m,e,_⟩⟩)
 ·exact h
 ·cases e
 ·cases e
theorem aKv{ws:List Value} (S:St):EX (fun _=>False) S S (dI (fun _=>False) (c0 ws S.n) (fun _=>none)):=⟨bR _,fun _ _ _=>rfl,fun b hb=>(aHe hb).elim⟩
theorem Lay.none{P:Program}{w:World} (hsz:P.globals.size<=w.heap.size):Lay P w (Rn.globals P.globals.size) (St.none P.globals.size):=by
 refine⟨Rel.none hsz,fun i o h=>?_⟩;have:(St.none P.globals.size).obj i=Option.none:=rfl;rw [this]at h;cases h
def aAu:V->Prop
 | .bool b=>b=true
 | _=>False
theorem aHf{W:World}{U:Rn}{S:St} (hsz:PP.globals.size<=W.heap.size) (hg:Laid gs W) (hl:Lay PP W U S) (roots:List Value){f:FuncId}{va:List V}{us vs:List Value}{M m:Nat} (ra:lN (c0 roots S.n) S (dI (fun _=>False) (c0 roots S.n) (fun _=>none)) va us) (hu:lM U us vs)
 (hv:(aAh PP bI gM M m).call f va (fun _=>none) (fun v _=>aAu v)):Calls PP f ⟨vs⟩ W (fun e w'=>e= .returned (.bool true)/\Below W.heap.size W w'):=by
 have hk:=(aKh (P:=PP) (B:=fun _=>False) (Sb:=S) (tb:=bI) aOB M m).aFA f (aKu PP S roots) ra (K:=fun v _=>isTrue v) (fun c' h' S' v w _ _ _ r hb=>by
  cases r with
  | bool=>exact hb
  | _=>cases hb) hv
 obtain⟨_,TR⟩:=(aDk (P:=PP) (w0:=W) (tb:=bI) (most:=M) (aLM (w:=W) hsz hg) Qc Qb m).1 f us S (fun v _=>isTrue v) U W vs hk hl.1 hu;refine Calls.mono (callsIn_wide.1 TR) ?_
 rintro e w' ⟨v',rfl,U3,v,S3,vL,hv,hrel,_⟩
 cases v with
 | bool b=>
  have hb:b=true:=vL;subst hb;rw [hv.of_flat rfl];exact⟨rfl,hrel.base⟩
 | _=>cases vL
theorem aPh:aGo PP 8 23=some [.list aMC]:=by kernel_rfl
theorem aHg{H:Type}{enc:TypeId×Value->H}{W:World}{v:Value}{d:DataW H}{p:List MemPlace} (hc:v.cells= #[v]) (h:DataW.Trod enc PP W 0 (fun _=>true) true 23 v d p) (hz:∀b off,MemPlace.cell b off∈p->W.frozen? ⟨b,off,none⟩=false) (hw:∀x∈d.weights PP 23,x<=reachBytes)
 {U:Rn} {S:St} (hl:Lay PP W U S):∃U' S' u ts,Ext U U'/\Lay PP W U' S'/\SJ S S'/\VR U' u v/\ZQ S' (fun _=>False) (.list (Cr ts) ts.length) u/\(∀t∈ts,XN t)/\ts.length<=140737488355328:=by
 obtain⟨F,hF⟩:=h;obtain⟨U',S',vs,ds,e1,l1,x1,LB,hr⟩:=lay (P:=PP) (w:=W) (fun _=>true) (fun _=>rfl) F 8 23 v.cells.toList d p hF hz hw [.list aMC] aPh U S hl;rw [hc]at LB;have hlen:vs.length=1:=hr.len
 match vs,hlen,LB,hr with
 | [u],_,LB,hr=>
  have hd:ds.length=1:=hr.Yi
  match ds,hd,hr with
  | [d1],_,hr=>
   obtain⟨l,h1,h2,h3⟩:=aKt (hr.rd 0 _ _ _ rfl rfl rfl);exact⟨U',S',u,l,e1,l1,x1,LB.2 0 u v rfl rfl,h1,h2,h3⟩
theorem called_turns{H:Type}{enc:TypeId×Value->H}{W:World} (hsz:PP.globals.size<=W.heap.size) (hg:Laid gs W){f:FuncId}
 (law:∀{M n:Nat} {x:VE} {sd:Nat} {O:Tag} {ts:List Tu},140737488355328<M->Deep PP bI gM M (n+40) x->EY sd->(∀t∈ts,XN t)->ts.length<=140737488355328->x.call f [nu sd,.list O (Cr ts) ts.length] (fun _=>none) (fun v _=>aAu v))
 {sd:Nat} (hS:sd<18446744073709551616) {v:Value} {d2:DataW H} {p2:List MemPlace} (hc:v.cells= #[v]) (h:DataW.Trod enc PP W 0 (fun _=>true) true 23 v d2 p2)
 (hz:∀b off,MemPlace.cell b off∈p2->W.frozen? ⟨b,off,none⟩=false) (hw:∀x∈d2.weights PP 23,x<=reachBytes):
 Calls PP f ⟨[.int .u64 (.ofNat sd),v]⟩ W (fun e w'=>e= .returned (.bool true)/\Below W.heap.size W w'):=by
 obtain⟨U,S,u,ts,_,hl,_,hu,hr,h8,hll⟩:=aHg hc h hz hw (Lay.none hsz);obtain⟨M,hM⟩:∃M:Nat,140737488355328<M:=⟨140737488355329,by omega⟩;obtain⟨m,-⟩:∃m:Nat,m=0:=⟨0,rfl⟩
 refine aHf (M:=M) (m:=m+40) hsz hg hl [u] (va:=[nu sd,.list (.root 0) (Cr ts) ts.length]) (us:=[.int .u64 (.ofNat sd),u])
  (.cons .int (.cons (.list (.root rfl) (hr.mono (aKv S))) .nil))
  (.cons (VR.flat rfl) (.cons hu (.nil _))) ?_
 exact law (n:=m) hM (aGT (m+40)) hS h8 hll
end Go.Am
set_option maxRecDepth 100000
namespace Go.Am
def Gf (x:VE) (a0 a1:V) (S:Hp) (K:KV):Prop:=
 iD 36 a0 S fun v0 S=>
 iD 36 a1 S fun v1 S=>
 aP 0 v0 fun v2=>
 aT v2 S fun v3 S=>
 aP 0 v1 fun v4=>
 aT v4 S fun v5 S=>
 aH PP .eql 3 v3 v5 fun v6=>
 gP x true v6 (aP 1 v0) S fun v8 S=>gL x true v6 (aT v8 S) S fun v10 S=>gP x true v6 (aP 1 v1) S fun v12 S=>gL x true v6 (aT v12 S) S fun sS S=>gL x true v6 (x.call EG [v10,sS] S) S fun wU S=>gQ x v6 wU (.bool false) fun rQ=>gP x true rQ (aP 2 v0) S fun wZ S=>gL x true rQ (aT wZ S) S fun v21 S=>gP x true rQ (aP 2 v1) S fun FI S=>gL x true rQ (aT FI S) S fun TE S=>gL x true rQ (x.call GZ [v21,TE] S) S fun Cs S=>gQ x rQ Cs (.bool false) fun v28=>gP x true v28 (aP 3 v0) S fun v30 S=>gL x true v28 (aT v30 S) S fun Um S=>gP x true v28 (aP 3 v1) S fun Un S=>gL x true v28 (aT Un S) S fun Lz S=>gL x true v28 (x.call EG [Um,Lz] S) S fun Gg S=>gQ x v28 Gg (.bool false) fun Cv=>gP x true Cv (aP 4 v0) S fun v41 S=>gL x true Cv (aT v41 S) S fun v43 S=>gP x true Cv (aP 4 v1) S fun v45 S=>gL x true Cv (aT v45 S) S fun v47 S=>gL x true Cv (x.call KE [v43,v47] S) S fun v49 S=>gQ x Cv v49 (.bool false) fun v50=>bD v50 S K
theorem aAd (x:VE) (a0 a1:V) (S:Hp) (K:KV):jI PP bI SV x [a0,a1] S K=Gf x a0 a1 S K:=by kernel_rfl
def vA (x:VE) (m:Nat) (t0 t1 t5:V) (S:Hp) (K:KV):Prop:=dG PP bI EG x [.r,.r,.l,.r,.d] m [] [t0,t1,t5] S K
def Ga (x:VE) (a0 a1:V) (S:Hp) (K:KV):Prop:=
 bH a0 fun v0=>
 bH a1 fun v1=>
 aH PP .neq 3 v0 v1 fun v2=>
 fS v2 (bD (.bool false) S K) (vA x x.most a0 a1 (.int .i64 (.ofNat 0)) S K)
theorem Zz (x:VE) (a0 a1:V) (S:Hp) (K:KV):jI PP bI EG x [a0,a1] S K=Ga x a0 a1 S K:=by kernel_rfl
def zO (x:VE) (m0:Nat) (t0 t1 t5:V) (S:Hp) (K:KV):Prop:=
 cH S fun S=>
 bH t0 fun v0=>
 aH PP .lss 3 t5 v0 fun v1=>
 fS v1 (cF 1 t0 t5 fun v2=>aT v2 S fun v3 S=>cF 1 t1 t5 fun v4=>aT v4 S fun v5 S=>aH PP .neq 3 v3 v5 fun v6=>fS v6 (bD (.bool false) S K) (aH PP .add 3 t5 (.int .i64 (.ofNat 1)) fun v7=>vA x m0 t0 t1 v7 S K)) (bD (.bool true) S K)
theorem JD (x:VE) (m0:Nat) (t0 t1 t5:V) (S:Hp) (K:KV):vA x (m0+1) t0 t1 t5 S K=zO x m0 t0 t1 t5 S K:=by kernel_rfl
def sW (x:VE) (m:Nat) (t0 t1 t5:V) (S:Hp) (K:KV):Prop:=dG PP bI GZ x [.r,.r,.l,.r,.d] m [] [t0,t1,t5] S K
def As (x:VE) (a0 a1:V) (S:Hp) (K:KV):Prop:=
 bH a0 fun v0=>
 bH a1 fun v1=>
 aH PP .neq 3 v0 v1 fun v2=>
 fS v2 (bD (.bool false) S K) (sW x x.most a0 a1 (.int .i64 (.ofNat 0)) S K)
theorem Uf (x:VE) (a0 a1:V) (S:Hp) (K:KV):jI PP bI GZ x [a0,a1] S K=As x a0 a1 S K:=by kernel_rfl
def xV (x:VE) (m0:Nat) (t0 t1 t5:V) (S:Hp) (K:KV):Prop:=
 cH S fun S=>
 bH t0 fun v0=>
 aH PP .lss 3 t5 v0 fun v1=>
 fS v1 (cF 1 t0 t5 fun v2=>aT v2 S fun v3 S=>cF 1 t1 t5 fun v4=>aT v4 S fun v5 S=>x.call KD [v3,v5] S fun v6 S=>SO .not v6 fun v7=>fS v7 (bD (.bool false) S K) (aH PP .add 3 t5 (.int .i64 (.ofNat 1)) fun v8=>sW x m0 t0 t1 v8 S K)) (bD (.bool true) S K)
theorem HW (x:VE) (m0:Nat) (t0 t1 t5:V) (S:Hp) (K:KV):sW x (m0+1) t0 t1 t5 S K=xV x m0 t0 t1 t5 S K:=by kernel_rfl
def vC (x:VE) (m:Nat) (t0 t1 t5:V) (S:Hp) (K:KV):Prop:=dG PP bI KD x [.r,.r,.l,.r,.d] m [] [t0,t1,t5] S K
def Gd (x:VE) (a0 a1:V) (S:Hp) (K:KV):Prop:=
 bH a0 fun v0=>
 bH a1 fun v1=>
 aH PP .neq 3 v0 v1 fun v2=>
 fS v2 (bD (.bool false) S K) (vC x x.most a0 a1 (.int .i64 (.ofNat 0)) S K)
theorem aAb (x:VE) (a0 a1:V) (S:Hp) (K:KV):jI PP bI KD x [a0,a1] S K=Gd x a0 a1 S K:=by kernel_rfl
def zQ (x:VE) (m0:Nat) (t0 t1 t5:V) (S:Hp) (K:KV):Prop:=
 cH S fun S=>
 bH t0 fun v0=>
 aH PP .lss 3 t5 v0 fun v1=>
 fS v1 (cF 1 t0 t5 fun v2=>aT v2 S fun v3 S=>cF 1 t1 t5 fun v4=>aT v4 S fun v5 S=>aH PP .neq 22 v3 v5 fun v6=>fS v6 (bD (.bool false) S K) (aH PP .add 3 t5 (.int .i64 (.ofNat 1)) fun v7=>vC x m0 t0 t1 v7 S K)) (bD (.bool true) S K)
theorem JF (x:VE) (m0:Nat) (t0 t1 t5:V) (S:Hp) (K:KV):vC x (m0+1) t0 t1 t5 S K=zQ x m0 t0 t1 t5 S K:=by kernel_rfl
def vB (x:VE) (m:Nat) (t0 t1 t5:V) (S:Hp) (K:KV):Prop:=dG PP bI KC x [.r,.r,.l,.r,.d] m [] [t0,t1,t5] S K
def Gc (x:VE) (a0 a1:V) (S:Hp) (K:KV):Prop:=
 bH a0 fun v0=>
 bH a1 fun v1=>
 aH PP .neq 3 v0 v1 fun v2=>
 fS v2 (bD (.bool false) S K) (vB x x.most a0 a1 (.int .i64 (.ofNat 0)) S K)
theorem aAa (x:VE) (a0 a1:V) (S:Hp) (K:KV):jI PP bI KC x [a0,a1] S K=Gc x a0 a1 S K:=by kernel_rfl
def zP (x:VE) (m0:Nat) (t0 t1 t5:V) (S:Hp) (K:KV):Prop:=
 cH S fun S=>
 bH t0 fun v0=>
 aH PP .lss 3 t5 v0 fun v1=>
 fS v1 (cF 1 t0 t5 fun v2=>aT v2 S fun v3 S=>cF 1 t1 t5 fun v4=>aT v4 S fun v5 S=>aH PP .neq 2 v3 v5 fun v6=>fS v6 (bD (.bool false) S K) (aH PP .add 3 t5 (.int .i64 (.ofNat 1)) fun v7=>vB x m0 t0 t1 v7 S K)) (bD (.bool true) S K)
theorem JE (x:VE) (m0:Nat) (t0 t1 t5:V) (S:Hp) (K:KV):vB x (m0+1) t0 t1 t5 S K=zP x m0 t0 t1 t5 S K:=by kernel_rfl
def vE (x:VE) (m:Nat) (t0 t1 t5:V) (S:Hp) (K:KV):Prop:=dG PP bI KE x [.r,.r,.l,.r,.d] m [] [t0,t1,t5] S K
def Ge (x:VE) (a0 a1:V) (S:Hp) (K:KV):Prop:=
 bH a0 fun v0=>
 bH a1 fun v1=>
 aH PP .neq 3 v0 v1 fun v2=>
 fS v2 (bD (.bool false) S K) (vE x x.most a0 a1 (.int .i64 (.ofNat 0)) S K)
theorem aAc (x:VE) (a0 a1:V) (S:Hp) (K:KV):jI PP bI KE x [a0,a1] S K=Ge x a0 a1 S K:=by kernel_rfl
def zR (x:VE) (m0:Nat) (t0 t1 t5:V) (S:Hp) (K:KV):Prop:=
 cH S fun S=>
 bH t0 fun v0=>
 aH PP .lss 3 t5 v0 fun v1=>
 fS v1 (cF 2 t0 t5 fun v2=>aP 0 v2 fun v3=>aT v3 S fun v4 S=>cF 2 t1 t5 fun v5=>aP 0 v5 fun v6=>aT v6 S fun v7 S=>aH PP .neq 3 v4 v7 fun v8=>gK x false v8 t0 S fun v9 S=>gK x false v8 t5 S fun v10 S=>gP x false v8 (cF 2 v9 v10) S fun v12 S=>gP x false v8 (aP 1 v12) S fun sS S=>gL x false v8 (aT sS S) S fun wU S=>gK x false v8 t1 S fun rQ S=>gK x false v8 t5 S fun yE S=>gP x false v8 (cF 2 rQ yE) S fun v20 S=>gP x false v8 (aP 1 v20) S fun MY S=>gL x false v8 (aT MY S) S fun v24 S=>gL x false v8 (x.call KC [wU,v24] S) S fun ZS S=>aT v6 S fun Cs _=>aZ Cs v7 (aT v3 S fun v28 _=>aZ v28 v4 (gP x false v8 (SO .not ZS) S fun v30 S=>gQ x v8 (.bool true) v30 fun v31=>fS v31 (bD (.bool false) S K) (aH PP .add 3 t5 (.int .i64 (.ofNat 1)) fun Um=>vE x m0 t0 t1 Um S K)))) (bD (.bool true) S K)
theorem JG (x:VE) (m0:Nat) (t0 t1 t5:V) (S:Hp) (K:KV):vE x (m0+1) t0 t1 t5 S K=zR x m0 t0 t1 t5 S K:=by kernel_rfl
end Go.Am
set_option maxRecDepth 8000
namespace Go.Am
open Go.Proofs.NQ Go.Mq
section
variable{M n:Nat}{x:VE}{S:Hp}{K:KV}{O O':Tag}
theorem aJx{t:TypeId}{a:Int}{k:V->Prop}:aH PP .neq t (.int .i64 a) (.int .i64 a) k=k (.bool false):=by rw [KJ,bF rfl];rfl
theorem aO4{l:List Int}{i:Nat} (h:i<l.length):(iV l)[i*1]? =some (.int .i64 l[i]):=by
 rw [jL];unfold iV;rw [dO,aQ h];rfl
theorem aMf{l:List Nat}{i:Nat} (h:i<l.length):(jK l)[i*1]? =some (.int .u64 (.ofNat l[i])):=by
 rw [jL];unfold jK;rw [dO,aQ h];rfl
theorem aMg{l:List (List Nat)}{i:Nat} (h:i<l.length):(dS l)[i*1]? =some (.list (jK l[i]) l[i].length):=by
 rw [jL];unfold dS;rw [dO,aQ h];rfl
theorem Zy{l:List Int}{i:Nat} (h:i<l.length){O:Tag}{K:KV}:aT (.pI O (iV l) (i*1)) S K=K (.int .i64 l[i]) S:=by rw [sJ,cI (aO4 h)];rfl
theorem aJy{l:List Nat}{i:Nat} (h:i<l.length){O:Tag}{K:KV}:aT (.pI O (jK l) (i*1)) S K=K (nu l[i]) S:=by rw [sJ,cI (aMf h)];rfl
theorem aJz{l:List (List Nat)}{i:Nat} (h:i<l.length){O:Tag}{K:KV}:aT (.pI O (dS l) (i*1)) S K=K (.list (.sub O (i*1)) (jK l[i]) l[i].length) S:=by rw [sJ,cI (aMg h)];rfl
theorem aFr (hM:1000000<M) (hx:Deep PP bI gM M (n+1) x){l:List Int} (hl:l.length<1000000) (hK:K (.bool true) S):x.call EG [.list O (iV l) l.length,.list O' (iV l) l.length] S K:=by
 refine hx.call rfl fun y hy=>?_;rw [Zz];unfold Ga;rw [cD,cD,lV,bF rfl,dD,aW,hy.most]
 have go:∀(r i m:Nat),i+r=l.length->r<m->vA y m (.list O (iV l) l.length) (.list O' (iV l) l.length) (ni i) S K:=by
  intro r;induction r with
  | zero=>
   intro i m hi hm;obtain⟨m,rfl⟩:=bG (show m≠0 by omega);rw [JD];unfold zO;refine aE ?_;rw [cD,aN,iN (by omega),aW];exact aL hK
  | succ r ih=>
   intro i m hi hm;obtain⟨m,rfl⟩:=bG (show m≠0 by omega);rw [JD];unfold zO;refine aE ?_;have h:i<l.length:=by omega
   rw [cD,aN,wX h,bQ,fH h,Zy h,fH h,Zy h,aJx,aW,bE (by omega)];exact ih (i+1) m (by omega) (by omega)
 exact go l.length 0 M (by omega) (by omega)
theorem aMh (hM:1000000<M) (hx:Deep PP bI gM M (n+1) x){l:List Int} (hl:l.length<1000000) (hK:K (.bool true) S):x.call KC [.list O (iV l) l.length,.list O' (iV l) l.length] S K:=by
 refine hx.call rfl fun y hy=>?_;rw [aAa];unfold Gc;rw [cD,cD,lV,bF rfl,dD,aW,hy.most]
 have go:∀(r i m:Nat),i+r=l.length->r<m->vB y m (.list O (iV l) l.length) (.list O' (iV l) l.length) (ni i) S K:=by
  intro r;induction r with
  | zero=>
   intro i m hi hm;obtain⟨m,rfl⟩:=bG (show m≠0 by omega);rw [JE];unfold zP;refine aE ?_;rw [cD,aN,iN (by omega),aW];exact aL hK
  | succ r ih=>
   intro i m hi hm;obtain⟨m,rfl⟩:=bG (show m≠0 by omega);rw [JE];unfold zP;refine aE ?_;have h:i<l.length:=by omega
   rw [cD,aN,wX h,bQ,fH h,Zy h,fH h,Zy h,aJx,aW,bE (by omega)];exact ih (i+1) m (by omega) (by omega)
 exact go l.length 0 M (by omega) (by omega)
theorem aMi (hM:1000000<M) (hx:Deep PP bI gM M (n+1) x){l:List Nat} (hl:l.length<1000000) (hK:K (.bool true) S):x.call KD [.list O (jK l) l.length,.list O' (jK l) l.length] S K:=by
 refine hx.call rfl fun y hy=>?_;rw [aAb];unfold Gd;rw [cD,cD,lV,bF rfl,dD,aW,hy.most]
 have go:∀(r i m:Nat),i+r=l.length->r<m->vC y m (.list O (jK l) l.length) (.list O' (jK l) l.length) (ni i) S K:=by
  intro r;induction r with
  | zero=>
   intro i m hi hm;obtain⟨m,rfl⟩:=bG (show m≠0 by omega);rw [JF];unfold zQ;refine aE ?_;rw [cD,aN,iN (by omega),aW];exact aL hK
  | succ r ih=>
   intro i m hi hm;obtain⟨m,rfl⟩:=bG (show m≠0 by omega);rw [JF];unfold zQ;refine aE ?_;have h:i<l.length:=by omega
   rw [cD,aN,wX h,bQ,fH h,aJy h,fH h,aJy h,aFc,bF rfl,dD,aW,bE (by omega)];exact ih (i+1) m (by omega) (by omega)
 exact go l.length 0 M (by omega) (by omega)
theorem aMj (hM:1000000<M) (hx:Deep PP bI gM M (n+2) x){l:List (List Nat)} (hl:l.length<1000000) (DK:∀c∈l,c.length<1000000) (hK:K (.bool true) S):x.call GZ [.list O (dS l) l.length,.list O' (dS l) l.length] S K:=by
 refine hx.call rfl fun y hy=>?_;rw [Uf];unfold As;rw [cD,cD,lV,bF rfl,dD,aW,hy.most]
 have go:∀(r i m:Nat),i+r=l.length->r<m->sW y m (.list O (dS l) l.length) (.list O' (dS l) l.length) (ni i) S K:=by
  intro r;induction r with
  | zero=>
   intro i m hi hm;obtain⟨m,rfl⟩:=bG (show m≠0 by omega);rw [HW];unfold xV;refine aE ?_;rw [cD,aN,iN (by omega),aW];exact aL hK
  | succ r ih=>
   intro i m hi hm;obtain⟨m,rfl⟩:=bG (show m≠0 by omega);rw [HW];unfold xV;refine aE ?_;have h:i<l.length:=by omega
   rw [cD,aN,wX h,bQ,fH h,aJz h,fH h,aJz h];refine aMi (n:=n) hM hy (DK _ (cK h)) ?_;rw [lW,dD,aW,bE (by omega)];exact ih (i+1) m (by omega) (by omega)
 exact go l.length 0 M (by omega) (by omega)
theorem aQO{l:List (Int×List Int)}{i:Nat} (h:i<l.length):(aD l)[i*2]? =some (.int .i64 l[i].1):=by
 obtain⟨h1,h2⟩:=aB1 (aQ h);have:=iZ (fun l:List Dt=>l[0]?) h2;simpa [pK,oT]using this
theorem aQP{l:List (Int×List Int)}{i:Nat} (h:i<l.length):(aD l)[i*2+1]? =some (.list (iV l[i].2) l[i].2.length):=by
 obtain⟨h1,h2⟩:=aB1 (aQ h);have:=iZ (fun l:List Dt=>l[1]?) h2;simpa [pK,oT]using this
theorem aDE{l:List (Int×List Int)}{i:Nat} (h:i<l.length){O:Tag}{K:KV}:aT (.pI O (aD l) (i*2)) S K=K (.int .i64 l[i].1) S:=by rw [sJ,cI (aQO h)];rfl
theorem aO5{l:List (Int×List Int)}{i:Nat} (h:i<l.length){O:Tag}{K:KV}:aT (.pI O (aD l) (i*2+1)) S K=K (.list (.sub O (i*2+1)) (iV l[i].2) l[i].2.length) S:=by rw [sJ,cI (aQP h)];rfl
theorem aFs{o:Nat}{O:Tag}{cs:List Dt}{k:V->Prop}:aP 0 (.pI O cs o) k=k (.pI O cs o):=rfl
theorem aMk (hM:1000000<M) (hx:Deep PP bI gM M (n+2) x){l:List (Int×List Int)} (hl:l.length<1000000) (DK:∀a∈l,a.2.length<1000000) (hK:K (.bool true) S):x.call KE [.list O (aD l) l.length,.list O' (aD l) l.length] S K:=by
 refine hx.call rfl fun y hy=>?_;rw [aAc];unfold Ge;rw [cD,cD,lV,bF rfl,dD,aW,hy.most]
 have go:∀(r i m:Nat),i+r=l.length->r<m->vE y m (.list O (aD l) l.length) (.list O' (aD l) l.length) (ni i) S K:=by
  intro r;induction r with
  | zero=>
   intro i m hi hm;obtain⟨m,rfl⟩:=bG (show m≠0 by omega);rw [JG];unfold zR gP gL gK gQ;refine aE ?_;rw [cD,aN,iN (by omega),aW];exact aL hK
  | succ r ih=>
   intro i m hi hm;obtain⟨m,rfl⟩:=bG (show m≠0 by omega);rw [JG];unfold zR gP gL gK gQ;refine aE ?_;have h:i<l.length:=by omega
   have ix:∀{t:Tag} {k:V->Prop},cF 2 (.list t (aD l) l.length) (ni i) k=k (.pI t (aD l) (i*2)):=fun {t k}=>fH h;rw [cD,aN,wX h,bQ,ix,aFs,aDE h,ix,aFs,aDE h,aJx]
   repeat (first | (rw [aF,aM];try dsimp only) | (rw [aF,tJ];try dsimp only) | rw [ix] | rw [ED] | rw [aO5 h])
   refine aMh (n:=n) hM hy (DK _ (cK h)) ?_
   repeat (first | (rw [aF,aM];try dsimp only) | (rw [aF,eI];try dsimp only) | rw [aDE h] | rw [cS] | rw [lW,dD])
   rw [aW,bE (by omega)];exact ih (i+1) m (by omega) (by omega)
 exact go l.length 0 M (by omega) (by omega)
theorem aMl (hM:1000000<M) (hx:Deep PP bI gM M (n+3) x){s:VB} (hz:Wf s){O O':Nat->Tag} (hK:K (.bool true) S):x.call SV [.agg (iH O s),.agg (iH O' s)] S K:=by
 refine hx.call rfl fun y hy=>?_;rw [aAd];unfold Gf gP gL gQ;refine cA HT fun a ha=>?_;have dF:bO S (aK S a (.row (iH O s) 36)):= .aI ha;have ra:aK S a (.row (iH O s) 36) a=some (.row (iH O s) 36):=aC;generalize aK S a (.row (iH O s) 36)=S1 at dF ra;refine cA HT fun b hb=>?_;have fG:bO S1 (aK S1 b (.row (iH O' s) 36)):= .aI hb;have rb:aK S1 b (.row (iH O' s) 36) b=some (.row (iH O' s) 36):=aC;have ra:=fG _ _ ra;have le:=dF.trans fG;generalize aK S1 b (.row (iH O' s) 36)=S2 at le ra rb;have p0:∀{K:KV},aT (.ptr a 0) S2 K=K (ni s.ep) S2:=cQ ra rfl;have p1:∀{K:KV},aT (.ptr a (0+1)) S2 K=K (.list (O 1) (iV s.mem) s.mem.length) S2:=cQ ra rfl;have p2:∀{K:KV},aT (.ptr a (0+2)) S2 K=K (.list (O 2) (dS s.eH) s.eH.length) S2:=cQ ra rfl;have p3:∀{K:KV},aT (.ptr a (0+3)) S2 K=K (.list (O 3) (iV s.next) s.next.length) S2:=cQ ra rfl;have p4:∀{K:KV},aT (.ptr a (0+4)) S2 K=K (.list (O 4) (aD s.asked) s.asked.length) S2:=cQ ra rfl;have q0:∀{K:KV},aT (.ptr b 0) S2 K=K (ni s.ep) S2:=cQ rb rfl;have q1:∀{K:KV},aT (.ptr b (0+1)) S2 K=K (.list (O' 1) (iV s.mem) s.mem.length) S2:=cQ rb rfl;have q2:∀{K:KV},aT (.ptr b (0+2)) S2 K=K (.list (O' 2) (dS s.eH) s.eH.length) S2:=cQ rb rfl;have q3:∀{K:KV},aT (.ptr b (0+3)) S2 K=K (.list (O' 3) (iV s.next) s.next.length) S2:=cQ rb rfl;have q4:∀{K:KV},aT (.ptr b (0+4)) S2 K=K (.list (O' 4) (aD s.asked) s.asked.length) S2:=cQ rb rfl;rw [aU,p0,aU,q0,uV,bF rfl]
 repeat (first | (rw [aF,aM];try dsimp only) | (rw [aF,dJ];try dsimp only) | rw [bA] | rw [p1] | rw [p2] | rw [p3] | rw [p4] | rw [q1] | rw [q2] | rw [q3] | rw [q4])
 refine aFr (n:=n+1) hM hy hz.mem ?_
 repeat (first | (rw [aF,aM];try dsimp only) | (rw [aF,dJ];try dsimp only) | rw [bA] | rw [p1] | rw [p2] | rw [p3] | rw [p4] | rw [q1] | rw [q2] | rw [q3] | rw [q4])
 refine aMj (n:=n) hM hy hz.eH (fun c h=>(hz.iO c h).2) ?_
 repeat (first | (rw [aF,aM];try dsimp only) | (rw [aF,dJ];try dsimp only) | rw [bA] | rw [p1] | rw [p2] | rw [p3] | rw [p4] | rw [q1] | rw [q2] | rw [q3] | rw [q4])
 refine aFr (n:=n+1) hM hy hz.next ?_
 repeat (first | (rw [aF,aM];try dsimp only) | (rw [aF,dJ];try dsimp only) | rw [bA] | rw [p1] | rw [p2] | rw [p3] | rw [p4] | rw [q1] | rw [q2] | rw [q3] | rw [q4])
 refine aMk (n:=n) hM hy hz.asked hz.aJA ?_
 repeat (first | (rw [aF,aM];try dsimp only) | (rw [aF,dJ];try dsimp only) | rw [bA] | rw [p1] | rw [p2] | rw [p3] | rw [p4] | rw [q1] | rw [q2] | rw [q3] | rw [q4])
 exact bL le hK
end
set_option maxRecDepth 8000
theorem did{s:VB} (h:XP s){e:En} (h0:(xD s e).2=0):
 (e.kind=1/\s.ep=0/\(xD s e).1.ep=1/\s.next.length=0/\(xD s e).1.next.length=0/\(xD s e).1.asked.length=s.asked.length)\/
 (e.kind=2/\(xD s e).1.ep=s.ep/\(xD s e).1.next.length=s.next.length/\(xD s e).1.asked.length=s.asked.length+1)\/
 (e.kind=3/\(xD s e).1.ep=s.ep/\(xD s e).1.next.length=4/\(xD s e).1.asked.length=s.asked.length)\/
 (e.kind=4/\(xD s e).1.ep=s.ep+1/\(xD s e).1.next.length=0/\(xD s e).1.asked.length=s.asked.length):=by
 revert h0;unfold xD;split
 ·rename_i k
  split
  ·intro h0;cases h0
  ·split
   ·intro h0;cases h0
   ·rename_i c1 c2
    have c1:s.ep=0:=Classical.not_not.1 c1;obtain⟨q1,q2⟩:=h.c0 c1;exact fun _=> .inl ⟨k,c1,rfl,by rw [q2];rfl,by show s.next.length=0;rw [q2];rfl,rfl⟩
 ·split
  ·rename_i k
   split
   ·intro h0;cases h0
   ·split
    ·exact fun _=> .inr (.inl ⟨k,rfl,rfl,by show(s.asked++[_]).length=_;rw [jU];rfl⟩)
    ·rename_i c;exact fun h0=>aX h0 c
  ·split
   ·rename_i k
    split
    ·intro h0;cases h0
    ·split
     ·intro h0;cases h0
     ·split
      ·intro h0;cases h0
      ·rename_i c
       exact fun _=> .inr (.inr (.inl ⟨k,rfl,YU (by simpa using c),rfl⟩))
   ·split
    ·rename_i k
     split
     ·intro h0;cases h0
     ·split
      ·intro h0;cases h0
      ·split
       ·intro h0;cases h0
       ·exact fun _=> .inr (.inr (.inr ⟨k,rfl,rfl,rfl⟩))
    ·intro h0;cases h0
section
variable{M n:Nat}{x:VE}{S:Hp}{K:KV}{O:Nat->Tag}
theorem aFt{a:Bool}{k:V->Prop}:aH PP .neq 4 (.bool a) (.bool a) k=k (.bool false):=propext ⟨fun h=>by have h2:k (.bool (!decide (a=a))):=h.2;rw [show(!decide (a=a))=false by simp]at h2;exact h2,fun h=>⟨by kernel_rfl,by show k (.bool (!decide (a=a)));rw [show(!decide (a=a))=false by simp];exact h⟩⟩
theorem aMm{S1:Hp}{w g:Nat}{a b:Ob} (hw:S1 w=none) (hg:aK S1 w a g=none) (a' b':Ob):bO S1 (aK (aK S1 w a') g b')/\w≠g/\S1 g=none:=by
 have hwg:w≠g:=fun c=>by rw [<-c,aC]at hg;cases hg
 have hg0:S1 g=none:=by rw [aB (aO hwg)]at hg;exact hg
 refine⟨fun j o q=>?_,hwg,hg0⟩;rw [aB (fun c=>by rw [c,hg0]at q;cases q),aB (fun c=>by rw [c,hw]at q;cases q)];exact q
theorem aGO (Cu:140737488355328<M) (hx:Deep PP bI gM M (n+23) x){Ol:Tag}{ts:List Tu} (Qk:∀u∈ts,XN u) (Wc:∀u∈ts,aGN u) (hl:ts.length<=150) (hK:∀S',K (.bool true) S'){y t:Nat} (hyt:y≠t):
 ∀(q i m:Nat) (s:VB) (sh:List (List (Nat×Nat))) (XO:V) (O:Nat->Tag) (S:Hp),i+q=ts.length->q<m->XP s->s.ep<=i->Shs XO sh->S y=some (.row (VF true t XO O s) 38)->(∃s' TX d',d'<=24*i/\jP S t s' TX d')->lG x m (.list Ol (Cr ts) ts.length) (.ptr y 0) (ni i) S K:=by
 have hM:1000000<M:=by omega
 have aQQ:x.most≠0:=by rw [hx.most];omega
 intro q;induction q with
 | zero=>
  intro i m s sh XO O S hi hm PL hep hsh ry tp;obtain⟨m,rfl⟩:=bG (show m≠0 by omega);rw [wQ];unfold oY gP gL gK gQ;refine aE ?_;rw [cD,aN,iN (by omega),aW];exact aL (hK _)
 | succ q ih=>
  intro i m s sh XO O S hi hm PL hep hsh ry tp;obtain⟨m,rfl⟩:=bG (show m≠0 by omega);rw [wQ];unfold oY gP gL gK gQ;refine aE ?_;have hlt:i<ts.length:=by omega
  have hu:ts[i]? =some ts[i]:=aQ hlt;have hur:=(Qk _ (cK hlt)).sz (Wc _ (cK hlt));generalize ts[i]=u at hu hur;obtain⟨s0,ah0,d0,hd0,tp⟩:=tp;rw [cD,aN,wX hlt,bQ,dA,bA,aMc ry,fH hlt,tu9 hu,tu9 hu,aMd,aMc ry,EH];refine⟨zp5 fun _ _=>trivial,ze7 fun _ _=>trivial,?_⟩;refine aMb (n:=n) hM hx hsh ry (by omega) tp fun e sh' PC Oe S1 hen kp ry1 aSz tp1=>?_;have aJB:=hen.sz hsh hur;rw [aMc ry1,EH,aMc ry1,EH];refine⟨zp5 fun _ _=>trivial,ze7 fun _ _=>trivial,?_⟩;refine zp5 fun w hw=>?_;refine ze7 fun g hg=>?_;obtain⟨leW,hwg,hg0⟩:=aMm (b:= .row [] 0) hw hg (.row (iH O s) 36) (.row (OA Oe e) 42);refine Ja (i:=w) (by rw [aB hwg];exact aC) ?_;refine aQN (i:=g) (by rw [aB (aO hwg)];exact aC) ?_
  have eq3:aK (aK (aK (aK S1 w (.row [ni 0,.nil,.nil,.nil,.nil] 36)) g (.row [n8 0,ni 0,ni 0,.nil,.nil,.nil,.nil] 42)) w (.row (iH O s) 36)) g (.row (OA Oe e) 42)=aK (aK S1 w (.row (iH O s) 36)) g (.row (OA Oe e) 42):=by
   funext j
   by_cases c1:j=g
   ·rw [c1,aC,aC]
   ·rw [aB c1,aB c1]
    by_cases c2:j=w
    ·rw [c2,aC,aC]
    ·rw [aB c2,aB c2,aB c1,aB c2]
  rw [eq3];have rw2:aK (aK S1 w (.row (iH O s) 36)) g (.row (OA Oe e) 42) w=some (.row (iH O s) 36):=by rw [aB hwg];exact aC
  have rg2:aK (aK S1 w (.row (iH O s) 36)) g (.row (OA Oe e) 42) g=some (.row (OA Oe e) 42):=aC;have Ss:=leW _ _ ry1;obtain⟨s9,ah9,d9,hd9,w9,q9,u9⟩:=tp1;have rt2:=leW _ _ q9;have hwy:w≠y:=fun c=>by rw [c,ry1]at hw;cases hw
  have hgy:g≠y:=fun c=>by rw [c,ry1]at hg0;cases hg0
  clear eq3 leW hg;generalize aK (aK S1 w (.row (iH O s) 36)) g (.row (OA Oe e) 42)=S2 at rw2 rg2 Ss rt2;rw [dA,aU,Ue Ss];refine cO (n:=5) (i:=w) rw2 rfl ?_;refine cO (n:=7) (i:=g) rg2 rfl ?_;refine cO (n:=7) (i:=g) rg2 rfl ?_;rw [OB];refine cO (n:=5) (i:=w) rw2 rfl ?_;rw [EH,Ue Ss,OC];refine⟨zp5 fun _ _=>trivial,?_⟩;have hz:=PL.sz (show s.ep<1000000 by omega);refine aJC (n:=n+9) (two:=true) Cu hx PL hz aJB fun O2z=>?_;have aDF:=PL.step e;have aSA:=aO2 s e;have HH:=aJD s e;have aMn:=did PL (e:=e);have htw:=aGP PL e;refine cJ (v:= .agg (iH O2z (xD s e).1)) rfl ?_;refine cJ (v:=ni (xD s e).2) rfl ?_;generalize (xD s e).1=s' at aDF aSA HH aMn htw;generalize (xD s e).2=code at HH aMn htw;refine⟨zp5 fun _ _=>trivial,?_⟩;refine zp5 fun b hb=>?_;refine Ja aC ?_;rw [dU];have dF:bO S2 (aK S2 b (.row (iH O2z s') 36)):= .aI hb;have rb:aK S2 b (.row (iH O2z s') 36) b=some (.row (iH O2z s') 36):=aC;have hby:b≠y:=fun c=>by rw [c,Ss]at hb;cases hb
  have rw3:=dF _ _ rw2;have rg3:=dF _ _ rg2;have ry3:=dF _ _ Ss;have rt3:=dF _ _ rt2;generalize aK S2 b (.row (iH O2z s') 36)=S3 at rb rw3 rg3 ry3 rt3;refine cO (n:=5) (i:=b) rb rfl ?_;rw [dA,bA];refine aSy (O':=O2z) (s':=s') ry3 ?_;have YT:aK S3 y (.row (VF true t PC O2z s') 38) y=some (.row (VF true t PC O2z s') 38):=aC;have Qn:aK S3 y (.row (VF true t PC O2z s') 38) b=some (.row (iH O2z s') 36):=by rw [aB hby];exact rb
  have rw4:aK S3 y (.row (VF true t PC O2z s') 38) w=some (.row (iH O s) 36):=by rw [aB hwy];exact rw3
  have rg4:aK S3 y (.row (VF true t PC O2z s') 38) g=some (.row (OA Oe e) 42):=by rw [aB hgy];exact rg3
  have rt4:aK S3 y (.row (VF true t PC O2z s') 38) t=some (.row [vb s9,w9,ni d9] 140):=by rw [aB (aO hyt)];exact rt3
  generalize aK S3 y (.row (VF true t PC O2z s') 38)=S4 at YT Qn rw4 rg4 rt4;have hz':=aDF.sz (show s'.ep<1000000 by omega)
  have join:∀S5,bO S4 S5->gB x m (.list Ol (Cr ts) ts.length) (.ptr y 0) (ni i) S5 K:=by
   intro S5 DY;rw [GJ _ aQQ];unfold mS;refine aE ?_;rw [bE (by omega)];exact ih (i+1) m s' sh' PC O2z S5 (by omega) (by omega) aDF (by omega) aSz (DY _ _ YT) ⟨s9,ah9,d9,by omega,w9,DY _ _ rt4,u9⟩
  show aH PP .neq 46 (ni code) (ni 0) _;rw [lV];by_cases hcd:code=0
  ·rw [bF hcd,dD,aW]
   have hd:=aMn hcd;have htw:=(htw hcd).2;clear HH aMn;have w0:∀{K:KV},aT (.ptr w 0) S4 K=K (ni s.ep) S4:=cQ rw4 rfl;have w3:∀{K:KV},aT (.ptr w (0+3)) S4 K=K (.list (O 3) (iV s.next) s.next.length) S4:=cQ rw4 rfl;have w4:∀{K:KV},aT (.ptr w (0+4)) S4 K=K (.list (O 4) (aD s.asked) s.asked.length) S4:=cQ rw4 rfl;have b0:∀{K:KV},aT (.ptr b 0) S4 K=K (ni s'.ep) S4:=cQ Qn rfl;have b3:∀{K:KV},aT (.ptr b (0+3)) S4 K=K (.list (O2z 3) (iV s'.next) s'.next.length) S4:=cQ Qn rfl;have b4:∀{K:KV},aT (.ptr b (0+4)) S4 K=K (.list (O2z 4) (aD s'.asked) s'.asked.length) S4:=cQ Qn rfl;have w3n:∀{K:KV},aT (.ptr w 3) S4 K=K (.list (O 3) (iV s.next) s.next.length) S4:=cQ rw4 rfl;have w4n:∀{K:KV},aT (.ptr w 4) S4 K=K (.list (O 4) (aD s.asked) s.asked.length) S4:=cQ rw4 rfl;have b3n:∀{K:KV},aT (.ptr b 3) S4 K=K (.list (O2z 3) (iV s'.next) s'.next.length) S4:=cQ Qn rfl;have b4n:∀{K:KV},aT (.ptr b 4) S4 K=K (.list (O2z 4) (aD s'.asked) s'.asked.length) S4:=cQ Qn rfl;have lg:∀{K:KV},aT (.ptr g 0) S4 K=K (n8 e.kind) S4:=cQ rg4 rfl;have kd:∀(j:Nat) {k:V->Prop},aH PP .eql 5 (n8 e.kind) (.int .u8 (.ofNat j)) k=k (.bool (decide (e.kind=j))):=fun j {k}=>GF;have ad:∀{k:V->Prop},aH PP .add 3 (ni s.ep) (.int .i64 (.ofNat 1)) k=k (ni (s.ep+1)):=fun {k}=>by show aH PP .add 3 (ni s.ep) (ni 1) k=_;rw [bE (by omega)]
   have al:∀{k:V->Prop},aH PP .add 3 (ni s.asked.length) (.int .i64 (.ofNat 1)) k=k (ni (s.asked.length+1)):=fun {k}=>by have:=hz.asked;show aH PP .add 3 (ni s.asked.length) (ni 1) k=_;rw [bE (by omega)]
   have ez:∀{k:V->Prop},aH PP .neq 3 (ni s.ep) (.int .i64 (.ofNat 0)) k=k (.bool (!decide (s.ep=0))):=fun {k}=>by show aH PP .neq 3 (ni s.ep) (ni 0) k=_;rw [lV]
   have gw:∀{k:V->Prop},aH PP .gtr 3 (ni s.next.length) (.int .i64 (.ofNat 0)) k=k (.bool (decide (0<s.next.length))):=fun {k}=>by show aH PP .gtr 3 (ni s.next.length) (ni 0) k=_;rw [LR]
   have gb:∀{k:V->Prop},aH PP .gtr 3 (ni s'.next.length) (.int .i64 (.ofNat 0)) k=k (.bool (decide (0<s'.next.length))):=fun {k}=>by show aH PP .gtr 3 (ni s'.next.length) (ni 0) k=_;rw [LR]
   rw [aU,lg];rcases hd with ⟨k,e1,e2,e3,e4,e5⟩ | ⟨k,e2,e4,e5⟩ | ⟨k,e2,e4,e5⟩ | ⟨k,e2,e4,e5⟩
   ·skip
    have k1:∀{k:V->Prop},aH PP .eql 5 (n8 e.kind) (.int .u8 (.ofNat 1)) k=k (.bool true):=fun {_}=>by rw [kd 1,k];rfl
    have k2:∀{k:V->Prop},aH PP .eql 5 (n8 e.kind) (.int .u8 (.ofNat 2)) k=k (.bool false):=fun {_}=>by rw [kd 2,k];rfl
    have k3:∀{k:V->Prop},aH PP .eql 5 (n8 e.kind) (.int .u8 (.ofNat 3)) k=k (.bool false):=fun {_}=>by rw [kd 3,k];rfl
    have k4:∀{k:V->Prop},aH PP .eql 5 (n8 e.kind) (.int .u8 (.ofNat 4)) k=k (.bool false):=fun {_}=>by rw [kd 4,k];rfl
    have ee:decide (s'.ep=s.ep+1)=true:=bF (by omega);have ez0:decide (s.ep=0)=true:=bF e1;have gn:decide (0<s'.next.length)=false:=bJ (by omega);have ea:decide (s'.asked.length=s.asked.length+1)=false:=bJ (by omega)
    repeat (first | (rw [aF,aM];try dsimp only) | (rw [aF,lZ];try dsimp only) | (rw [aF,EI];try dsimp only) | (rw [aF,QP];try dsimp only) | (rw [aF,dJ];try dsimp only) | (rw [aF,eI];try dsimp only) | rw [aU] | rw [bA] | rw [lg] | rw [w0] | rw [w3] | rw [w4] | rw [b0] | rw [b3] | rw [b4] | rw [w3n] | rw [w4n] | rw [b3n] | rw [b4n] | rw [cD] | rw [k1] | rw [k2] | rw [k3] | rw [k4] | rw [ad] | rw [al] | rw [ez] | rw [gw] | rw [gb] | rw [uV] | rw [lV] | rw [ee] | rw [gn] | rw [ea] | rw [ez0] | rw [dD] | rw [uN] | rw [lW] | rw [aFt])
    rw [aW,aW,dA,aU,Ue YT];refine cO (n:=5) (i:=b) Qn rfl ?_;refine cO (n:=7) (i:=g) rg4 rfl ?_;refine cO (n:=7) (i:=g) rg4 rfl ?_;rw [OB];refine cO (n:=5) (i:=b) Qn rfl ?_;rw [EH,Ue YT,OC];refine⟨zp5 fun _ _=>trivial,?_⟩;refine aJC (n:=n+9) (two:=true) Cu hx aDF hz' aJB fun O3=>?_;refine cJ (v:= .agg (iH O3 (xD s' e).1)) rfl ?_;refine cJ (v:=ni (xD s' e).2) rfl ?_;refine⟨zp5 fun _ _=>trivial,?_⟩;refine zp5 fun c hc=>?_;refine Ja aC ?_;rw [dU];have NW:bO S4 (aK S4 c (.row (iH O3 (xD s' e).1) 36)):= .aI hc;show aH PP .eql 46 (ni (xD s' e).2) (ni 0) _;rw [uV,bJ htw,aW];exact join _ NW
   ·skip
    have k1:∀{k:V->Prop},aH PP .eql 5 (n8 e.kind) (.int .u8 (.ofNat 1)) k=k (.bool false):=fun {_}=>by rw [kd 1,k];rfl
    have k2:∀{k:V->Prop},aH PP .eql 5 (n8 e.kind) (.int .u8 (.ofNat 2)) k=k (.bool true):=fun {_}=>by rw [kd 2,k];rfl
    have k3:∀{k:V->Prop},aH PP .eql 5 (n8 e.kind) (.int .u8 (.ofNat 3)) k=k (.bool false):=fun {_}=>by rw [kd 3,k];rfl
    have k4:∀{k:V->Prop},aH PP .eql 5 (n8 e.kind) (.int .u8 (.ofNat 4)) k=k (.bool false):=fun {_}=>by rw [kd 4,k];rfl
    have ee:decide (s'.ep=s.ep+1)=false:=bJ (by omega);have en:decide (s'.ep=s.ep)=true:=bF e2;have gn:decide (0<s'.next.length)=decide (0<s.next.length):=by rw [e4]
    have ea:decide (s'.asked.length=s.asked.length+1)=true:=bF e5
    repeat (first | (rw [aF,aM];try dsimp only) | (rw [aF,lZ];try dsimp only) | (rw [aF,EI];try dsimp only) | (rw [aF,QP];try dsimp only) | (rw [aF,dJ];try dsimp only) | (rw [aF,eI];try dsimp only) | rw [aU] | rw [bA] | rw [lg] | rw [w0] | rw [w3] | rw [w4] | rw [b0] | rw [b3] | rw [b4] | rw [w3n] | rw [w4n] | rw [b3n] | rw [b4n] | rw [cD] | rw [k1] | rw [k2] | rw [k3] | rw [k4] | rw [ad] | rw [al] | rw [ez] | rw [gw] | rw [gb] | rw [uV] | rw [lV] | rw [ee] | rw [gn] | rw [ea] | rw [en] | rw [dD] | rw [uN] | rw [lW] | rw [aFt])
    rw [aW,aW,dA,aU,Ue YT];refine cO (n:=5) (i:=b) Qn rfl ?_;refine cO (n:=7) (i:=g) rg4 rfl ?_;refine cO (n:=7) (i:=g) rg4 rfl ?_;rw [OB];refine cO (n:=5) (i:=b) Qn rfl ?_;rw [EH,Ue YT,OC];refine⟨zp5 fun _ _=>trivial,?_⟩;refine aJC (n:=n+9) (two:=true) Cu hx aDF hz' aJB fun O3=>?_;refine cJ (v:= .agg (iH O3 (xD s' e).1)) rfl ?_;refine cJ (v:=ni (xD s' e).2) rfl ?_;refine⟨zp5 fun _ _=>trivial,?_⟩;refine zp5 fun c hc=>?_;refine Ja aC ?_;rw [dU];have NW:bO S4 (aK S4 c (.row (iH O3 (xD s' e).1) 36)):= .aI hc;show aH PP .eql 46 (ni (xD s' e).2) (ni 0) _;rw [uV,bJ htw,aW];exact join _ NW
   ·skip
    have k1:∀{k:V->Prop},aH PP .eql 5 (n8 e.kind) (.int .u8 (.ofNat 1)) k=k (.bool false):=fun {_}=>by rw [kd 1,k];rfl
    have k2:∀{k:V->Prop},aH PP .eql 5 (n8 e.kind) (.int .u8 (.ofNat 2)) k=k (.bool false):=fun {_}=>by rw [kd 2,k];rfl
    have k3:∀{k:V->Prop},aH PP .eql 5 (n8 e.kind) (.int .u8 (.ofNat 3)) k=k (.bool true):=fun {_}=>by rw [kd 3,k];rfl
    have k4:∀{k:V->Prop},aH PP .eql 5 (n8 e.kind) (.int .u8 (.ofNat 4)) k=k (.bool false):=fun {_}=>by rw [kd 4,k];rfl
    have ee:decide (s'.ep=s.ep+1)=false:=bJ (by omega);have en:decide (s'.ep=s.ep)=true:=bF e2;have gn:decide (0<s'.next.length)=true:=bF (by omega);have ea:decide (s'.asked.length=s.asked.length+1)=false:=bJ (by omega)
    repeat (first | (rw [aF,aM];try dsimp only) | (rw [aF,lZ];try dsimp only) | (rw [aF,EI];try dsimp only) | (rw [aF,QP];try dsimp only) | (rw [aF,dJ];try dsimp only) | (rw [aF,eI];try dsimp only) | rw [aU] | rw [bA] | rw [lg] | rw [w0] | rw [w3] | rw [w4] | rw [b0] | rw [b3] | rw [b4] | rw [w3n] | rw [w4n] | rw [b3n] | rw [b4n] | rw [cD] | rw [k1] | rw [k2] | rw [k3] | rw [k4] | rw [ad] | rw [al] | rw [ez] | rw [gw] | rw [gb] | rw [uV] | rw [lV] | rw [ee] | rw [gn] | rw [ea] | rw [en] | rw [dD] | rw [uN] | rw [lW] | rw [aFt])
    rw [aW,aW,dA,aU,Ue YT];refine cO (n:=5) (i:=b) Qn rfl ?_;refine cO (n:=7) (i:=g) rg4 rfl ?_;refine cO (n:=7) (i:=g) rg4 rfl ?_;rw [OB];refine cO (n:=5) (i:=b) Qn rfl ?_;rw [EH,Ue YT,OC];refine⟨zp5 fun _ _=>trivial,?_⟩;refine aJC (n:=n+9) (two:=true) Cu hx aDF hz' aJB fun O3=>?_;refine cJ (v:= .agg (iH O3 (xD s' e).1)) rfl ?_;refine cJ (v:=ni (xD s' e).2) rfl ?_;refine⟨zp5 fun _ _=>trivial,?_⟩;refine zp5 fun c hc=>?_;refine Ja aC ?_;rw [dU];have NW:bO S4 (aK S4 c (.row (iH O3 (xD s' e).1) 36)):= .aI hc;show aH PP .eql 46 (ni (xD s' e).2) (ni 0) _;rw [uV,bJ htw,aW];exact join _ NW
   ·skip
    have k1:∀{k:V->Prop},aH PP .eql 5 (n8 e.kind) (.int .u8 (.ofNat 1)) k=k (.bool false):=fun {_}=>by rw [kd 1,k];rfl
    have k2:∀{k:V->Prop},aH PP .eql 5 (n8 e.kind) (.int .u8 (.ofNat 2)) k=k (.bool false):=fun {_}=>by rw [kd 2,k];rfl
    have k3:∀{k:V->Prop},aH PP .eql 5 (n8 e.kind) (.int .u8 (.ofNat 3)) k=k (.bool false):=fun {_}=>by rw [kd 3,k];rfl
    have k4:∀{k:V->Prop},aH PP .eql 5 (n8 e.kind) (.int .u8 (.ofNat 4)) k=k (.bool true):=fun {_}=>by rw [kd 4,k];rfl
    have ee:decide (s'.ep=s.ep+1)=true:=bF e2;have gn:decide (0<s'.next.length)=false:=bJ (by omega);have ea:decide (s'.asked.length=s.asked.length+1)=false:=bJ (by omega)
    repeat (first | (rw [aF,aM];try dsimp only) | (rw [aF,lZ];try dsimp only) | (rw [aF,EI];try dsimp only) | (rw [aF,QP];try dsimp only) | (rw [aF,dJ];try dsimp only) | (rw [aF,eI];try dsimp only) | rw [aU] | rw [bA] | rw [lg] | rw [w0] | rw [w3] | rw [w4] | rw [b0] | rw [b3] | rw [b4] | rw [w3n] | rw [w4n] | rw [b3n] | rw [b4n] | rw [cD] | rw [k1] | rw [k2] | rw [k3] | rw [k4] | rw [ad] | rw [al] | rw [ez] | rw [gw] | rw [gb] | rw [uV] | rw [lV] | rw [ee] | rw [gn] | rw [ea] | rw [dD] | rw [uN] | rw [lW] | rw [aFt])
    rw [aW,aW,dA,aU,Ue YT];refine cO (n:=5) (i:=b) Qn rfl ?_;refine cO (n:=7) (i:=g) rg4 rfl ?_;refine cO (n:=7) (i:=g) rg4 rfl ?_;rw [OB];refine cO (n:=5) (i:=b) Qn rfl ?_;rw [EH,Ue YT,OC];refine⟨zp5 fun _ _=>trivial,?_⟩;refine aJC (n:=n+9) (two:=true) Cu hx aDF hz' aJB fun O3=>?_;refine cJ (v:= .agg (iH O3 (xD s' e).1)) rfl ?_;refine cJ (v:=ni (xD s' e).2) rfl ?_;refine⟨zp5 fun _ _=>trivial,?_⟩;refine zp5 fun c hc=>?_;refine Ja aC ?_;rw [dU];have NW:bO S4 (aK S4 c (.row (iH O3 (xD s' e).1) 36)):= .aI hc;show aH PP .eql 46 (ni (xD s' e).2) (ni 0) _;rw [uV,bJ htw,aW];exact join _ NW
  ·rw [bJ hcd,uN,bQ]
   refine cO (n:=5) (i:=b) Qn rfl ?_;refine cO (n:=5) (i:=w) rw4 rfl ?_;have hs:s'=s:=HH hcd;have sp:=aMl (n:=n+20) hM hx (S:=S4) (K:=fun Gg S=>SO .not Gg fun Cv=>fS Cv (bD (.bool false) S K) (gB x m (.list Ol (Cr ts) ts.length) (.ptr y 0) (ni i) S K)) hz (O:=O2z) (O':=O) (by rw [lW,dD,aW];exact join S4 (.refl _));rw [hs];exact sp
theorem aGQ (Cu:140737488355328<M) (hx:Deep PP bI gM M (n+24) x){sd:Nat} (hS:EY sd){Ol:Tag}{ts:List Tu} (Qk:∀u∈ts,XN u) (hl:ts.length<=140737488355328) (hK:∀S',K (.bool true) S'):x.call lJ [nu sd,.list Ol (Cr ts) ts.length] S K:=by
 have hM:1000000<M:=by omega
 refine hx.call rfl fun y hy=>?_;rw [ZN];unfold JH gP gL gQ;refine aOP (n:=n+21) hM hy Qk hl fun b hb=>?_;rw [hy.most];cases b with
 | true=>
  rw [aF,EI];try dsimp only
  rw [aF,EI];try dsimp only
  rw [aF,dJ,bQ];refine aFq (n:=n+22) hy ?_;exact aL (hK _)
 | false=>
  obtain⟨Wc,DK⟩:=hb rfl;rw [aF,aM];refine aFq (n:=n+22) hy ?_
  try dsimp only
  rw [aF,aM,lW];try dsimp only
  rw [aF,eI,dD,aW];refine aL8 (n:=n+20) hM hy hS fun p t s O S' hs hp ht Vk rp tp=>?_;exact aGO (n:=n) Cu hy Qk Wc DK hK Vk ts.length 0 M Zw [] .nil O S' (by omega) (by omega) aMe (bR 0) .no rp ⟨s,[],0,bR 0,tp⟩
end
end Go.Am
namespace Go.Am
theorem law_vepochs{M n:Nat}{x:VE}{sd:Nat}{O:Tag}{ts:List Tu} (hM:140737488355328<M) (hx:Deep PP bI gM M (n+40) x) (hS:EY sd) (h:∀t∈ts,XN t) (hl:ts.length<=140737488355328):x.call lJ [nu sd,.list O (Cr ts) ts.length] (fun _=>none) (fun v _=>aAu v):=aGQ (n:=n+16) hM hx hS h hl fun _=>rfl
end Go.Am
