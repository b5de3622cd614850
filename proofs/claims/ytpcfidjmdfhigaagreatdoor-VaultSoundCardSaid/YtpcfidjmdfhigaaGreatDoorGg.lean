/- vault: weights of two places at 0. -/
import Derived.Test.YtpcfidjmdfhigaaGreatDoorGf
import Derived.Test.YtpcfidjmdfhigaaGreatDoorGe
import Derived.Test.YtpcfidjmdfhigaaGreatDoorGd

noncomputable section
set_option linter.unusedVariables false
set_option maxRecDepth 4000
namespace Go.Am
open Go.Proofs.OG
section
variable{M n:Nat}{x:VE}{S S0:Hp}{K:KV}{two:Bool}{t:Tag}{a b:Nat}
theorem aKN:gM OE=none:=rfl
theorem aGV:gM wC=none:=rfl
theorem aGW:gM dU=none:=rfl
theorem aGX:gM yK=none:=rfl
theorem aKO:gM AY=none:=rfl
structure Cap (S:Hp) (t:Tag) (a b i:Nat) (p0 p1 p3 p2:Nat):Prop where
 xs:S p0=some (.row [.list t (kK [a,b]) 2] 51)
 i:S p1=some (.row [ni i] 3)
 q:S p3=some (.row [nu 11] 22)
 at0:S p2=some (.row [nu 0] 22)
theorem Cap.up{S S':Hp}{i p0 p1 p3 p2:Nat} (h:Cap S t a b i p0 p1 p3 p2) (hs:∀j o,S j=some o->j=p0\/j=p1\/j=p3\/j=p2->S' j=some o):Cap S' t a b i p0 p1 p3 p2:=
 ⟨hs _ _ h.xs (.inl rfl),hs _ _ h.i (.inr (.inl rfl)),hs _ _ h.q (.inr (.inr (.inl rfl))),hs _ _ h.at0 (.inr (.inr (.inr rfl)))⟩
theorem aB7{k:Nat} (hk:k<2){c:V->Prop}:cV 1 (.list t (kK [a,b]) 2) (ni k) c=c (.uB t (kK [a,b]) k):=by rw [jL hk,kX]
theorem aB8{k:Nat} (hk:k<2):aW (.uB t (kK [a,b]) k) S K=K (nu (fZ k a b)) S:=by
 match k,hk with
 | 0,_=>rfl
 | 1,_=>rfl
theorem Qu{y:VE}{l i m p0 p1 p3 p2:Nat} (hi:i<2) (h:Cap S t a b i p0 p1 p3 p2) (hk:gL y m (.yield l) (.ptr p0 0) (.ptr p1 0) (.ptr p3 0) (.ptr p2 0) (.list t (kK [a,b]) 2) (ni 2) (ni (i+1)) S K):
 gL y (m+1) (.yield l) (.ptr p0 0) (.ptr p1 0) (.ptr p3 0) (.ptr p2 0) (.list t (kK [a,b]) 2) (ni 2) (ni i) S K:=by
 rw [AL];unfold tA;refine aF ?_;have li:∀{K:KV},aW (.ptr p1 0) S K=K (ni i) S:=cT h.i rfl;rw [aQ,zJ hi,bW,aB7 hi,aB8 hi,li,yB,bI rfl,fL]
 repeat (rw [aE,iS];try dsimp only)
 repeat (rw [aE,kM])
 rw [li,cE]
 repeat (rw [aE,iS];try dsimp only)
 repeat (rw [aE,kM])
 rw [li,cE]
 repeat (rw [aE,iS];try dsimp only)
 repeat (rw [aE,kM])
 rw [li,cE]
 repeat (rw [aE,iS];try dsimp only)
 rw [aE,dJ,bE,bG (by omega)];exact hk
theorem Jp{y:VE} (hy:Deep PP bK gM M (n+1) y){l i k m p0 p1 p3 p2:Nat} (hi:i<2) (vO:k<2) (oM:k≠i) (ha:a<11) (hb:b<11) (h:Cap S t a b i p0 p1 p3 p2)
 (hk:∀K':KV,(∀S',Cap S' t a b i p0 p1 p3 p2->gL y m (.yield l) (.ptr p0 0) (.ptr p1 0) (.ptr p3 0) (.ptr p2 0) (.list t (kK [a,b]) 2) (ni 2) (ni (k+1)) S' K->K' (.bool true) S')->y.R l [nu (iD (fZ i a b) (fZ k a b) 11),nu (iD 0 (fZ k a b) 11)] S K'):
 gL y (m+1) (.yield l) (.ptr p0 0) (.ptr p1 0) (.ptr p3 0) (.ptr p2 0) (.list t (kK [a,b]) 2) (ni 2) (ni k) S K:=by
 rw [AL];unfold tA;refine aF ?_;have li:∀{K:KV},aW (.ptr p1 0) S K=K (ni i) S:=cT h.i rfl;have lx:∀{K:KV},aW (.ptr p0 0) S K=K (.list t (kK [a,b]) 2) S:=cT h.xs rfl;have lq:∀{K:KV},aW (.ptr p3 0) S K=K (nu 11) S:=cT h.q rfl;have la:∀{K:KV},aW (.ptr p2 0) S K=K (nu 0) S:=cT h.at0 rfl;have sm:∀{p:Prop},aU (.list t (kK [a,b]) 2) (.list t (kK [a,b]) 2) p=p:=fun {p}=>cN rfl;rw [aQ,zJ vO,bW,aB7 vO,aB8 vO,li,yB,bO oM,DB];rw [aE,aN];try dsimp only
 rw [aE,aN,lx];try dsimp only
 rw [aE,aN,li];try dsimp only
 rw [aE,aN,aB7 hi];try dsimp only
 rw [aE,aN,aB8 hi];try dsimp only
 rw [aE,aN];try dsimp only
 rw [aE,aN,lq];try dsimp only
 rw [aE,aN,la];try dsimp only
 rw [aE,aN];try dsimp only
 rw [aE,aN,lq];try dsimp only
 rw [aE,aN];try dsimp only
 refine aBc hy (lJ (MD ha hb)) (lJ (MD ha hb)) qQ ?_
 try dsimp only
 rw [aE,iL,lq,cE,aE,iL,la,cE,aE,iL,li,cE,aE,iL,lx,sm,li,cE];rw [aE,aN];try dsimp only
 refine aBc hy (by decide) (lJ (MD ha hb)) qQ ?_
 try dsimp only
 rw [aE,iL,li,cE,aE,iL,lx,sm,li,cE];rw [aE,aN];try dsimp only
 refine hk _ fun S' h' hn=>?_;have li':∀{K:KV},aW (.ptr p1 0) S' K=K (ni i) S':=cT h'.i rfl;have lx':∀{K:KV},aW (.ptr p0 0) S' K=K (.list t (kK [a,b]) 2) S':=cT h'.xs rfl
 try dsimp only
 rw [aE,iL,li',cE,aE,iL,lx',sm,li',cE];rw [aE,aN];try dsimp only
 rw [rC,fL,aE,dI,bE,bG (by omega)];exact hn
def Sy (q u o:Nat) (st:LoopState):Ob:= .loop [7,11,12] [.ptr q 0,.ptr u 0,.ptr o 0] 45 (DY PP dU [.r,.r,.l,.r,.d]) (DZ PP dU [.r,.r,.l,.r,.d]) (yU PP dU [.r,.r,.l,.r,.d]) st none
theorem aQi{y:VE} (hy:Deep PP bK gM M (n+2) y){l q u o own far uu oo:Nat} (hl:S l=some (Sy q u o .ready)) (rq:S q=some (.row [nu 11] 22)) (ru:S u=some (.row [nu uu] 22)) (ro:S o=some (.row [nu oo] 22)) (huo:u≠o) (hU:uu<11) (hO:oo<11) (h1:own<11) (h2:far<11)
 (hK:K (.bool true) (aL (aL (aL (aL S l (Sy q u o .busy)) u (.row [nu (uu*own%11)] 22)) o (.row [nu (oo*far%11)] 22)) l (Sy q u o .ready))):y.R l [nu own,nu far] S K:=by
 refine hy.round fun z hz=>?_;refine PE (st:= .ready) (pe:=none) hl Bw ?_;rw [Bv];unfold JG;refine WD hl ?_;have hlu:l≠u:=fun e=>by subst e;rw [ru]at hl;cases hl
 have hlo:l≠o:=fun e=>by subst e;rw [ro]at hl;cases hl
 have hlq:l≠q:=fun e=>by subst e;rw [rq]at hl;cases hl
 show(aW (.ptr u 0) (aL S l (Sy q u o .busy)) fun v0 S=>aW (.ptr q 0) S fun v1 S=>_);have rq1:aL S l (Sy q u o .busy) q=some (.row [nu 11] 22):=by rw [aC (aP hlq)];exact rq
 have ru1:aL S l (Sy q u o .busy) u=some (.row [nu uu] 22):=by rw [aC (aP hlu)];exact ru
 have ro1:aL S l (Sy q u o .busy) o=some (.row [nu oo] 22):=by rw [aC (aP hlo)];exact ro
 have Zy:aL S l (Sy q u o .busy) l=some (Sy q u o .busy):=aB;generalize aL S l (Sy q u o .busy)=S1 at hK rq1 ru1 ro1 Zy;have lq:∀{K:KV},aW (.ptr q 0) S1 K=K (nu 11) S1:=cT rq1 rfl;have lo:∀{K:KV},aW (.ptr o 0) S1 K=K (nu oo) S1:=cT ro1 rfl;rw [cT ru1 rfl,lq,lo,lq];refine PA hz (lJ hU) (lJ h1) qQ ?_;rw [lq,cE,lo,cE];refine PA hz (lJ hO) (lJ h2) qQ ?_;rw [DV ru1 (show 0<1 by decide) rfl,DV (i:=o) (vs:=[nu oo]) (t:=22) (by rw [aC (aP huo)];exact ro1) (show 0<1 by decide) rfl];refine WE (pe:=none) (st:= .busy) (n:=45) (ls:=[7,11,12]) (vs:=[.ptr q 0,.ptr u 0,.ptr o 0]) (by rw [aC hlo,aC hlu];exact Zy) ?_;exact hK
theorem aKP (hM:10<M) (hx:Deep PP bK gM M (n+4) x){i k iv:Nat} (hi:i<2) (hk:k<2) (oM:k≠i) (ha:a<11) (hb:b<11) (hiv:aB3 (1*iD (fZ i a b) (fZ k a b) 11%11) iv)
 (hK:K (.tuple [nu iv,nu (1*iD 0 (fZ k a b) 11%11),ni 0]) S):x.call dU [.list t (kK [a,b]) 2,ni i,nu 0,nu 11] S K:=by
 refine hx.call aGW fun y hy=>?_;rw [Zn];unfold Fm;refine YG rfl fun q hq=>?_;have rq:aL S q (.row [nu 11] 22) q=some (.row [nu 11] 22):=aB;have dL:bU S (aL S q (.row [nu 11] 22)):= .aK hq;generalize aL S q (.row [nu 11] 22)=S1 at rq dL;have lq:∀{K:KV},aW (.ptr q 0) S1 K=K (nu 11) S1:=cT rq rfl;rw [lq,YZ (by decide),lq,YZ (by decide),lq,cE,lq,cE];refine⟨cG (l:=[nu 0]) rfl fun _ _=>trivial,cG (l:=[nu 0]) rfl fun _ _=>trivial,?_⟩;refine cG (l:=[nu 0]) rfl fun u hu=>?_;have ru:aL S1 u (.row [nu 0] 22) u=some (.row [nu 0] 22):=aB;have fO:bU S1 (aL S1 u (.row [nu 0] 22)):= .aK hu;have hu0:S u=none:=dL.none hu;generalize aL S1 u (.row [nu 0] 22)=S2 at ru fO;refine cG (l:=[nu 0]) rfl fun o ho=>?_;have ro:aL S2 o (.row [nu 0] 22) o=some (.row [nu 0] 22):=aB;have pR:bU S2 (aL S2 o (.row [nu 0] 22)):= .aK ho;have ho0:S o=none:=dL.none (fO.none ho);have huo:u≠o:=fun e=>by subst e;rw [ru]at ho;cases ho
 have ru3:=pR _ _ ru;have rq3:=pR _ _ (fO _ _ rq);have hqu:q≠u:=fun e=>by subst e;rw [rq]at hu;cases hu
 have hqo:q≠o:=fun e=>by have:=fO _ _ rq;rw [e,ho]at this;cases this
 have EN:=(dL.trans fO).trans pR;generalize aL S2 o (.row [nu 0] 22)=S3 at ro ru3 rq3 EN;have hse:[nu 0].set 0 (nu (1%11))=[nu 1]:=rfl;rw [DV ru3 (show 0<1 by decide) rfl,hse];have ru4:aL S3 u (.row [nu 1] 22) u=some (.row [nu 1] 22):=aB;have rq4:aL S3 u (.row [nu 1] 22) q=some (.row [nu 11] 22):=by rw [aC hqu];exact rq3
 have ro4:aL S3 u (.row [nu 1] 22) o=some (.row [nu 0] 22):=by rw [aC (aP huo)];exact ro
 have IS:bU S (aL S3 u (.row [nu 1] 22)):=fun j p e=>by rw [aC (fun c=>by rw [c,hu0]at e;cases e)];exact EN _ _ e
 generalize aL S3 u (.row [nu 1] 22)=S4 at ru4 rq4 ro4 IS;rw [cT rq4 rfl,cE,DV ro4 (show 0<1 by decide) rfl,hse];have ro5:aL S4 o (.row [nu 1] 22) o=some (.row [nu 1] 22):=aB;have rq5:aL S4 o (.row [nu 1] 22) q=some (.row [nu 11] 22):=by rw [aC hqo];exact rq4
 have ru5:aL S4 o (.row [nu 1] 22) u=some (.row [nu 1] 22):=by rw [aC huo];exact ru4
 have EW:bU S (aL S4 o (.row [nu 1] 22)):=fun j p e=>by rw [aC (fun c=>by rw [c,ho0]at e;cases e)];exact IS _ _ e
 generalize aL S4 o (.row [nu 1] 22)=S5 at ro5 rq5 ru5 EW;rw [cT rq5 rfl];refine hy.call aKN fun z hz=>?_;rw [Sw];unfold ZT;refine YG rfl fun p0 h0=>?_;have r0:aL S5 p0 (.row [.list t (kK [a,b]) 2] 51) p0=some (.row [.list t (kK [a,b]) 2] 51):=aB;have g0:bU S5 (aL S5 p0 (.row [.list t (kK [a,b]) 2] 51)):= .aK h0;generalize aL S5 p0 (.row [.list t (kK [a,b]) 2] 51)=O1 at r0 g0;refine YG rfl fun p1 h1=>?_;have r1:aL O1 p1 (.row [ni i] 3) p1=some (.row [ni i] 3):=aB;have g1:bU O1 (aL O1 p1 (.row [ni i] 3)):= .aK h1;generalize aL O1 p1 (.row [ni i] 3)=O2z at r1 g1;refine YG rfl fun p2 h2=>?_;have r2:aL O2z p2 (.row [nu 0] 22) p2=some (.row [nu 0] 22):=aB;have g2:bU O2z (aL O2z p2 (.row [nu 0] 22)):= .aK h2;generalize aL O2z p2 (.row [nu 0] 22)=O3 at r2 g2;refine YG rfl fun p3 h3=>?_;have r3:aL O3 p3 (.row [nu 11] 22) p3=some (.row [nu 11] 22):=aB;have g3:bU O3 (aL O3 p3 (.row [nu 11] 22)):= .aK h3;have gA:bU S5 (aL O3 p3 (.row [nu 11] 22)):=((g0.trans g1).trans g2).trans g3;have cap:Cap (aL O3 p3 (.row [nu 11] 22)) t a b i p0 p1 p3 p2:=⟨g3 _ _ (g2 _ _ (g1 _ _ r0)),g3 _ _ (g2 _ _ r1),r3,g3 _ _ r2⟩;have n0:S5 p0=none:=h0;have n1:S5 p1=none:=g0.none h1;have n2:S5 p2=none:=g0.none (g1.none h2);have n3:S5 p3=none:=g0.none (g1.none (g2.none h3));generalize aL O3 p3 (.row [nu 11] 22)=O4 at cap gA;refine aM ?_;refine PF fun l hl=>?_;have hlo:aL O4 l (.loop [7,11,12] [.ptr q 0,.ptr u 0,.ptr o 0] 45 (DY PP dU [.r,.r,.l,.r,.d]) (DZ PP dU [.r,.r,.l,.r,.d]) (yU PP dU [.r,.r,.l,.r,.d]) .ready none)=aL O4 l (Sy q u o .ready):=rfl;rw [hlo];have hl6:aL O4 l (Sy q u o .ready) l=some (Sy q u o .ready):=aB;have UA:bU O4 (aL O4 l (Sy q u o .ready)):= .aK hl;have Hw:Cap (aL O4 l (Sy q u o .ready)) t a b i p0 p1 p3 p2:=cap.up fun j p e _=>UA _ _ e;have rq6:=UA _ _ (gA _ _ rq5);have ru6:=UA _ _ (gA _ _ ru5);have ro6:=UA _ _ (gA _ _ ro5);have leT:bU S (aL O4 l (Sy q u o .ready)):=(EW.trans gA).trans UA;have hl0:S l=none:=(EW.trans gA).none hl;generalize aL O4 l (Sy q u o .ready)=S6 at hl6 Hw rq6 ru6 ro6 leT;have hlu:l≠u:=fun e=>by subst e;rw [ru6]at hl6;cases hl6
 have aSt:l≠o:=fun e=>by subst e;rw [ro6]at hl6;cases hl6
 have hlq:l≠q:=fun e=>by subst e;rw [rq6]at hl6;cases hl6
 have fin:∀S',bU S S'->S' l=some (Sy q u o .ready)->S' q=some (.row [nu 11] 22)->S' u=some (.row [nu (1*iD (fZ i a b) (fZ k a b) 11%11)] 22)->S' o=some (.row [nu (1*iD 0 (fZ k a b) 11%11)] 22)->
  Uo l S' fun pe S=>SX pe (aW (.ptr u 0) S fun wI S=>aW (.ptr q 0) S fun wJ S=>y.call yS [wI,wJ] S fun wH S=>vB 0 wH fun vC=>vB 1 wH fun yI=>aW (.ptr o 0) S fun v20 S=>bF (.tuple [vC,v20,yI]) S K) (bF (.tuple [(.int .u64 (.ofNat 0)),(.int .u64 (.ofNat 0)),(.int .i64 (.ofNat 0))]) S K) (fun qU=>ZL qU 0 (aW (.ptr u 0) S fun v21 S=>aW (.ptr q 0) S fun JC S=>y.call yS [v21,JC] S fun GC S=>vB 0 GC fun v24=>vB 1 GC fun OD=>aW (.ptr o 0) S fun SZ S=>bF (.tuple [v24,SZ,OD]) S K) False):=by
  intro S' hle Qw hq' hu' UZ;refine WF (st:= .ready) (pe:=none) (n:=45) (ls:=[7,11,12]) (vs:=[.ptr q 0,.ptr u 0,.ptr o 0]) Qw (by simp) ?_;rw [Dz];obtain⟨ob,hex⟩:∃ob,aL S' l (.loop [7,11,12] [.ptr q 0,.ptr u 0,.ptr o 0] 45 (DY PP dU [.r,.r,.l,.r,.d]) (DZ PP dU [.r,.r,.l,.r,.d]) (yU PP dU [.r,.r,.l,.r,.d]) .exhausted none)=aL S' l ob:=⟨_,rfl⟩;rw [hex];have hq7:aL S' l ob q=some (.row [nu 11] 22):=by rw [aC (aP hlq)];exact hq'
  have hu7:aL S' l ob u=some (.row [nu (1*iD (fZ i a b) (fZ k a b) 11%11)] 22):=by rw [aC (aP hlu)];exact hu'
  have ho7:aL S' l ob o=some (.row [nu (1*iD 0 (fZ k a b) 11%11)] 22):=by rw [aC (aP aSt)];exact UZ
  have le7:bU S (aL S' l ob):=fun j p e=>by rw [aC (fun c=>by rw [c,hl0]at e;cases e)];exact hle _ _ e
  rw [cT hu7 rfl,cT hq7 rfl];refine aIn hy (lJ (jD _ (by decide))) qQ (by rw [hiv.1]) ?_;rw [hiv.1];refine dC (v:=nu iv) rfl ?_;refine dC (v:=ni 0) rfl ?_;rw [cT ho7 rfl];exact bL le7 hK
 show y.call wC [.yield l,.ptr p0 0,.ptr p1 0,.ptr p3 0,.ptr p2 0] S6 _;refine hy.call aGV fun w hw=>?_;rw [Kt];unfold TP;rw [cT Hw.xs rfl];show gL w w.most (.yield l) (.ptr p0 0) (.ptr p1 0) (.ptr p3 0) (.ptr p2 0) (.list t (kK [a,b]) 2) (ni 2) (ni 0) S6 _;obtain⟨M',EM⟩:∃q,M=q+3:=⟨M-3,by omega⟩;rw [hw.most,EM];rw [EM]at hw
 have done:∀{S':Hp} {K':KV},K' (.tuple []) S'->gL w (M'+1) (.yield l) (.ptr p0 0) (.ptr p1 0) (.ptr p3 0) (.ptr p2 0) (.list t (kK [a,b]) 2) (ni 2) (ni 2) S' K':=fun {S' K'} h=>by
  rw [AL];unfold tA;refine aF ?_;rw [aQ,jM (by decide),bE];exact aM h
 have rnd:∀(K':KV),(∀S',Cap S' t a b i p0 p1 p3 p2->bU S S'->S' l=some (Sy q u o .ready)->S' q=some (.row [nu 11] 22)->S' u=some (.row [nu (1*iD (fZ i a b) (fZ k a b) 11%11)] 22)->S' o=some (.row [nu (1*iD 0 (fZ k a b) 11%11)] 22)->K' (.bool true) S')->w.R l [nu (iD (fZ i a b) (fZ k a b) 11),nu (iD 0 (fZ k a b) 11)] S6 K':=by
  intro K' xA;refine aQi (n:=n) hw hl6 rq6 ru6 ro6 huo (by decide) (by decide) (Lt _ _) (Lt _ _) ?_;have aGY:∀j p,S6 j=some p->j≠l->j≠u->j≠o->aL (aL (aL (aL S6 l (Sy q u o .busy)) u (.row [nu (1*iD (fZ i a b) (fZ k a b) 11%11)] 22)) o (.row [nu (1*iD 0 (fZ k a b) 11%11)] 22)) l (Sy q u o .ready) j=some p:=fun j p e h1 h2 h3=>by rw [aC h1,aC h3,aC h2,aC h1];exact e
  have nl:∀{j:Nat} {v:V} {ty:TypeId},S6 j=some (.row [v] ty)->j≠l:=fun {j v ty} e c=>by rw [c,hl6]at e;cases e
  have Wq:∀{j:Nat},S5 j=none->j≠u/\j≠o:=fun {j} h=>⟨(fun c=>by rw [c,ru5]at h;cases h),(fun c=>by rw [c,ro5]at h;cases h)⟩;refine xA _ ⟨aGY _ _ Hw.xs (nl Hw.xs) (Wq n0).1 (Wq n0).2,aGY _ _ Hw.i (nl Hw.i) (Wq n1).1 (Wq n1).2,aGY _ _ Hw.q (nl Hw.q) (Wq n3).1 (Wq n3).2,aGY _ _ Hw.at0 (nl Hw.at0) (Wq n2).1 (Wq n2).2⟩ (fun j p e=>?_) aB (aGY _ _ rq6 (aP hlq) hqu hqo) ?_ ?_
  ·exact aGY _ _ (leT _ _ e) (fun c=>by rw [c,hl0]at e;cases e) (fun c=>by rw [c,hu0]at e;cases e) (fun c=>by rw [c,ho0]at e;cases e)
  ·rw [aC (aP hlu),aC huo];exact aB
  ·rw [aC (aP aSt)];exact aB
 rcases(show i=0/\k=1\/i=1/\k=0 by omega)with ⟨rfl,rfl⟩ | ⟨rfl,rfl⟩
 ·
   refine Qu (i:=0) (by decide) Hw ?_;refine Jp (n:=n+1) (i:=0) (k:=1) hw (by decide) (by decide) (by decide) ha hb Hw fun K' xA=>?_;refine rnd K' fun S' c1 c2 c3 c4 c5 c6=>xA S' c1 (done ?_);exact fin S' c2 c3 c4 c5 c6
 ·
   refine Jp (n:=n+1) (i:=1) (k:=0) hw (by decide) (by decide) (by decide) ha hb Hw fun K' xA=>?_;refine rnd K' fun S' c1 c2 c3 c4 c5 c6=>xA S' c1 ?_;refine Qu (i:=1) (by decide) c1 (done ?_);exact fin S' c2 c3 c4 c5 c6
end
set_option maxRecDepth 4000
section
variable{M n:Nat}{x:VE}{S S0:Hp}{K:KV}{two:Bool}{t:Tag}{a b:Nat}
theorem aKQ{j:Nat}:RK (.one (.int .u64)) (nu j):=rfl
theorem aKR (hM:10<M) (hx:Deep PP bK gM M (n+2) x) (ha:a<11) (hb:b<11) (hab:a≠b) (hK:K (ni 0) S):x.call AY [.list t (kK [a,b]) 2,nu 11] S K:=by
 refine hx.call aKO fun y hy=>?_;rw [Sv];unfold ZS;refine aOK hy qQ ?_;rw [rC,fL,bE,cZ];show aJ PP .gtr 3 (ni 2) (ni 1024) _;rw [uX,bO (by decide),bE,cZ];intro m hm;show sA y y.most (.list t (kK [a,b]) 2) (nu 11) (.yZ m) (.list t (kK [a,b]) 2) (ni 2) (ni 0) (aL S m (.map [])) K;have CX:aL S m (.map []) m=some (.map []):=aB;have dL:bU S (aL S m (.map [])):= .aK hm;generalize aL S m (.map [])=S1 at CX dL;obtain⟨M',EM⟩:∃q,M=q+3:=⟨M-3,by omega⟩;rw [hy.most,EM,wX];unfold qR;refine aF ?_;rw [aQ,zJ (by decide),bW,aB7 (show 0<2 by decide),aB8 (show 0<2 by decide)];show aJ PP .rem 22 (nu a) (nu 11) _;rw [YZ (by decide),UE ha];refine Pm CX aKQ (fun e he=>by cases he) (fun v hv=>by cases hv) fun _=>?_;show aJ PP .add 3 (ni 0) (ni 1) _;rw [bG (by decide)];unfold AE;simp only [CX];refine⟨aKQ,(fun e he=>by cases he),?_⟩;have XL:aL S1 m (.map (OB [] (nu a) (ni (0+1)))) m=some (.map [(nu a,ni 1)]):=aB;have fO:bU S (aL S1 m (.map (OB [] (nu a) (ni (0+1))))):=fun j p e=>by rw [aC (fun c=>by rw [c,hm]at e;cases e)];exact dL _ _ e
 generalize aL S1 m (.map (OB [] (nu a) (ni (0+1))))=S2 at XL fO;rw [bG (by decide),wX];unfold qR;refine aF ?_;rw [aQ,zJ (by decide),bW,aB7 (show 1<2 by decide),aB8 (show 1<2 by decide)];show aJ PP .rem 22 (nu b) (nu 11) _;have oM:¬(nu b=nu a):=fun e=>by injection e with _ e;injection e with e;exact hab e.symm
 have hks:∀e∈[(nu a,ni 1)],RK (.one (.int .u64)) e.1:=fun e he=>by rcases List.mem_cons.1 he with rfl | he;exact aKQ;cases he
 have Cn:WO [(nu a,ni 1)] (nu b)=none:=by simp only [WO];rw [aG oM]
 rw [YZ (by decide),UE hb];refine Pm XL aKQ hks (fun v hv=>by rw [Cn]at hv;cases hv) fun _=>?_;show aJ PP .add 3 (ni 0) (ni 1) _;rw [bG (by decide)];unfold AE;simp only [XL];refine⟨aKQ,hks,?_⟩;have vQ:OB [(nu a,ni 1)] (nu b) (ni (0+1))=[(nu a,ni 1),(nu b,ni 1)]:=by simp only [OB];rw [aG oM]
 rw [vQ];have hm3:aL S2 m (.map [(nu a,ni 1),(nu b,ni 1)]) m=some (.map [(nu a,ni 1),(nu b,ni 1)]):=aB;have pR:bU S (aL S2 m (.map [(nu a,ni 1),(nu b,ni 1)])):=fun j p e=>by rw [aC (fun c=>by rw [c,hm]at e;cases e)];exact fO _ _ e
 generalize aL S2 m (.map [(nu a,ni 1),(nu b,ni 1)])=S3 at hm3 pR;rw [bG (by decide),wX];unfold qR;refine aF ?_;rw [aQ,jM (by decide),bE];unfold Pk;simp only [hm3];rw [cZ];show aJ PP .lss 3 (ni 2) (ni 2) _;rw [aQ,jM (by decide),bE];exact bL pR hK
def aUr (a b:Nat):Prop:=∃iv,aB3 (1*iD a b 11%11) iv/\wt a b=iv*(1*iD 0 b 11%11)%11
theorem aFm (a b:Nat) (ha:a<5) (hb:b<5) (h0:0<a) (h1:0<b) (hab:a≠b):aUr a b:=by
 have:∀a<5,∀b<5,¬(0<a/\0<b/\a≠b)\/((CQ (1*iD a b 11%11%11+1) 11 (1*iD a b 11%11%11) 0 (1%11) 11).1=1/\(CQ (1*iD a b 11%11%11+1) 11 (1*iD a b 11%11%11) 0 (1%11) 11).2<11/\wt a b=(CQ (1*iD a b 11%11%11+1) 11 (1*iD a b 11%11%11) 0 (1%11) 11).2*(1*iD 0 b 11%11)%11):=by decide
 obtain⟨h1,h2,h3⟩:=(this a ha b hb).resolve_left (fun h=>h ⟨h0,h1,hab⟩);exact⟨_,⟨Prod.ext h1 rfl,h2⟩,h3⟩
theorem aGZ (hM:10<M) (hx:Deep PP bK gM M (n+6) x) (ha:a<5) (hb:b<5) (h0:0<a) (h1:0<b) (hab:a≠b) (hK:∀t,K (.tuple [.list t (kK (wts a b)) 2,ni 0]) S):x.C yK [.list t (kK [a,b]) 2,nu 0,nu 11] S K:=by
 refine hx.aRh aGX fun y hy=>?_;rw [Qo];unfold XA;refine aKR (n:=n+3) hM hy (by omega) (by omega) hab ?_;rw [yB,bI rfl,fL,bE,cZ];show qO y y.most (.list t (kK [a,b]) 2) (nu 0) (nu 11) .nil (ni 2) (ni 0) S K;obtain⟨M',EM⟩:∃q,M=q+3:=⟨M-3,by omega⟩;obtain⟨iv0,w0,e0⟩:=aFm a b ha hb h0 h1 hab;obtain⟨iv1,w1,e1⟩:=aFm b a hb ha h1 h0 (aP hab);rw [hy.most,EM,vL];unfold pE;refine aF ?_;rw [aQ,zJ (by decide),bW];refine aKP (n:=n+1) (i:=0) (k:=1) (iv:=iv0) hM hy (by decide) (by decide) (by decide) (by omega) (by omega) w0 ?_;refine dC (v:=nu iv0) rfl ?_;refine dC (v:=nu (1*iD 0 b 11%11)) rfl ?_;refine dC (v:=ni 0) rfl ?_;rw [yB,bI rfl,fL,bE];refine PA hy (lJ w0.2) (lJ (jD _ (by decide))) qQ ?_;rw [<-e0];refine(MN.nil (S0:=S)).app (.refl _) (by simp) fun u1 S1 dL k1 m1=>?_;rw [bG (by decide),vL];unfold pE;refine aF ?_;rw [aQ,zJ (by decide),bW];refine aKP (n:=n+1) (i:=1) (k:=0) (iv:=iv1) hM hy (by decide) (by decide) (by decide) (by omega) (by omega) w1 ?_;refine dC (v:=nu iv1) rfl ?_;refine dC (v:=nu (1*iD 0 a 11%11)) rfl ?_;refine dC (v:=ni 0) rfl ?_;rw [yB,bI rfl,fL,bE];refine PA hy (lJ w1.2) (lJ (jD _ (by decide))) qQ ?_;rw [<-e1];refine m1.app dL (by simp) fun u2 S2 fO k2 m2=>?_;rw [bG (by decide),vL];unfold pE;refine aF ?_;rw [aQ,jM (by decide),bE];refine⟨S,fun O=> .tuple [.list (O 0) (kK (wts a b)) 2,ni 0],fO,fun O=> .tup ⟨rfl,fun j v u e1 e2=>?_⟩,fun O=>hK _⟩
 match j with
 | 0=>injection e1 with e1;injection e2 with e2;subst e1 e2;exact .ZG m2.Bd
 | 1=>injection e1 with e1;injection e2 with e2;subst e1 e2;exact .mF _
 | j+2=>simp at e1
theorem aKS{E:VE}{c:FuncId}{v:V}{args:List V}{cs:List Dt}{k:Nat}{S S':Hp} (hle:bU S' S) (h:Du S' S v (.list cs k)) (hk:∀O,E.C c (.list O cs k::args) S' K):E.call c (v::args) S K:=by
 refine⟨S',fun O=> .list (O 0) cs k::args,hle,fun O=>⟨rfl,fun j w u e1 e2=>?_⟩,fun O=>hk _⟩
 match j with
 | 0=>injection e1 with e1;injection e2 with e2;subst e1 e2;exact .ZG h
 | j+1=>
  have e1:args[j]? =some w:=e1;have e2:args[j]? =some u:=e2;rw [e1]at e2;injection e2 with e2;subst e2;exact .mF _
theorem aDN:gM wA=none:=rfl
theorem aDO:gM BF=none:=rfl
theorem aB9:gM xF=none:=rfl
theorem aNa:gM vH=none:=rfl
theorem aFn{S0:Hp}{v:V}{l:List Int} (h:GL 3 S0 S v (kW l)){i:Nat} (hi:i<l.length):∃p,(∀k:V->Prop,cV 1 v (ni i) k=k p)/\∀S',bU S S'->∀K:KV,aW p S' K=K (.int .i64 l[i]) S':=by
 have:(kW l)[i]? =some (.int .i64 l[i]):=by unfold kW;rw [eH,aT hi];rfl
 obtain⟨p,t,h1,h2⟩:=h.at this;exact⟨p,fun k=>h1 _ k,fun S' hs K=>h2 S' hs K⟩
theorem aDP (hM:1000000<M) (hx:Deep PP bK gM M (n+4) x){S0:Hp}{v:V}{d e:Int} (h:GL 3 S0 S v (kW [d,e])) (hd:1<=d/\d<=7) (he:1<=e/\e<=7) (hK:K (.bool true) S):x.call BF [v] S K:=by
 refine hx.call aDO fun y hy=>?_;rw [Kr];unfold TN;obtain⟨p0,i0,l0⟩:=aFn h (i:=0) (Nat.succ_pos 1);obtain⟨p1,i1,l1⟩:=aFn h (i:=1) (xN 1);rw [h.len];show aJ PP .gtr 3 (ni 2) (ni 0) _;rw [uX,bI (by decide),aE,aN];dsimp only;rw [aE,aN];dsimp only
 have m1:∀{w:VE} {z:Int} {S:Hp} {K:KV},Deep PP bK gM M (n+1) w->1<=z/\z<=7->K (.bool false) S->w.call xF [.int .i64 z] S K:=fun {w z S K} hw hz hk=>by
  refine hw.call aB9 fun u hu=>?_;rw [Fl];unfold NN;show aJ PP .lss 3 (.int .i64 z) (.int .i64 1) _;rw [aDE,bO (by omega)];simp only [aE,aN,dJ];show aJ PP .gtr 3 (.int .i64 z) (.int .i64 7) _;rw [Zg,bO (by omega)];exact aM hk
 refine hy.call aFb fun u hu=>?_;rw [qD];unfold kN;refine hu.call aKi fun w hw=>?_;rw [sR];unfold mJ;obtain⟨M',EM⟩:∃q,M=q+3:=⟨M-3,by omega⟩;rw [h.len,hw.most,EM,dS];unfold cU;refine aF ?_;show aJ PP .lss 3 (ni 0) (ni 2) _;rw [aQ,zJ (by decide),bW,i0,l0 S (.refl _)];refine m1 hw hd ?_;rw [bE,bG (by decide),dS];unfold cU;refine aF ?_;show aJ PP .lss 3 (ni 1) (ni 2) _;rw [aQ,zJ (by decide),bW,i1,l1 S (.refl _)];refine m1 hw he ?_;rw [bE,bG (by decide),dS];unfold cU;refine aF ?_;show aJ PP .lss 3 (ni 2) (ni 2) _;rw [aQ,jM (by decide),bE];refine aM ?_;rw [CH];refine aM ?_;show(aI y.most _);rw [aE,aN,rC];dsimp only;rw [aE,dI];exact aM hK
theorem aDQ (hM:1000000<M) (hx:Deep PP bK gM M (n+7) x){S0:Hp}{v:V}{d e:Int} (h:GL 3 S0 S v (kW [d,e])) (hd:1<=d/\d<=4) (he:1<=e/\e<=4) (hde:d≠e) (hK:∀t,K (.tuple [.list t (kK (wts d.toNat e.toNat)) 2,ni 0]) S):x.call wA [v,nu 11] S K:=by
 refine hx.call aDN fun y hy=>?_;rw [Ks];unfold TO;obtain⟨p0,i0,l0⟩:=aFn h (i:=0) (Nat.succ_pos 1);obtain⟨p1,i1,l1⟩:=aFn h (i:=1) (xN 1);rw [h.len];show qM y y.most (nu 11) .nil v (ni 2) (ni 0) S K;obtain⟨M',EM⟩:∃q,M=q+3:=⟨M-3,by omega⟩;rw [hy.most,EM,vK];unfold pD;refine aF ?_;rw [aQ,zJ (by decide),bW,i0,l0 S (.refl _)];show LE .u64 (.int .i64 d) _;rw [Zs (by omega) (by omega)];refine(MN.nil (S0:=S)).app (.refl _) (by simp) fun u1 S1 dL k1 m1=>?_;rw [bG (by decide),vK];unfold pD;refine aF ?_;rw [aQ,zJ (by decide),bW,i1,l1 S1 dL];show LE .u64 (.int .i64 e) _;rw [Zs (by omega) (by omega)];refine m1.app dL (by simp) fun u2 S2 fO k2 m2=>?_;rw [bG (by decide),vK];unfold pD;refine aF ?_;rw [aQ,jM (by decide),bE];refine aKS (cs:=kK [d.toNat,e.toNat]) (k:=2) fO m2.Bd fun t2=>?_;refine aGZ (n:=n) (by omega) hy (by omega) (by omega) (by omega) (by omega) (by omega) fun t3=>?_;refine dC (v:= .list t3 (kK (wts d.toNat e.toNat)) 2) rfl ?_;refine dC (v:=ni 0) rfl ?_;exact aM (hK t3)
theorem aNb (hM:1000000<M) (hx:Deep PP bK gM M (n+12) x){O:Tag}{ds:List (Int×List (List Nat))} (hd:oR ds=true) (hK:∀t,K (.tuple [.list t (eL (PQ ds)) (PQ ds).length,ni 0]) S):x.call vH [.agg (pv two),.list O (ME ds) ds.length] S K:=by
 obtain⟨d,e,rfl,d1,d2,d3,f1,f2⟩:=Jh hd;obtain⟨fl1,fa1⟩:=CL.1 f1;obtain⟨fl2,fa2⟩:=CL.1 f2;refine hx.call aNa fun y hy=>?_;rw [Zm];unfold Fk;refine cC jN fun p hp=>?_;have dL:bU S (aL S p (.row (pv two) 29)):= .aK hp;have rp:aL S p (.row (pv two) 29) p=some (.row (pv two) 29):=aB;generalize aL S p (.row (pv two) 29)=S1 at dL rp;have l6:∀{S':Hp} {K:KV},bU S1 S'->aW (.ptr p (0+6)) S' K=K (ni 1) S':=fun {S' K} h=>cT (h _ _ rp) rfl;rw [lA rp];refine aKo (n:=n+10) (two:=two) hy ?_;rw [rC,fL,aE,aN,aZ];dsimp only;rw [aE,aN,l6 (.refl _)];dsimp only;rw [aE,aN,aQ,jM (by decide)];dsimp only;rw [aE,dJ,aE,aN,aZ];dsimp only;rw [aE,aN,l6 (.refl _)];dsimp only;rw [aE,aN];dsimp only;rw [uX,bO (by decide),aE,dJ,bE,cZ];obtain⟨M',EM⟩:∃q,M=q+3:=⟨M-3,by omega⟩
 have step:∀(i m:Nat) (D:Int×List (List Nat)) (u v:V) (ats:List Int) (aDR:List (List (List Nat))) (S2:Hp),[d,e][i]? =some D->AV D.2=true->i<2->bU S1 S2->GL 3 S1 S2 u (kW ats)->GL 33 S1 S2 v (mD aDR)->ats.length<=2->aDR.length<=2->(∀j m m',u= .acc j m->v≠ .acc j m')->
  (∀u' v' S',bU S1 S'->GL 3 S1 S' u' (kW (ats++[D.1]))->GL 33 S1 S' v' (mD (aDR++[D.2]))->(∀j m m',u'= .acc j m->v'≠ .acc j m')->kT y m (.ptr p 0) u' v' (.list O (ME [d,e]) 2) (ni 2) (ni (i+1)) S' K)->
  kT y (m+1) (.ptr p 0) u v (.list O (ME [d,e]) 2) (ni 2) (ni i) S2 K:=by
  intro i m D u v ats aDR S2 hD hf hi hs gu gv hal Bx hap hk;obtain⟨q1,q2⟩:=Zq hD;obtain⟨fl,fa⟩:=CL.1 hf;rw [FB];unfold wW;refine aF ?_;rw [aQ,zJ hi,bW,jL hi,RJ,dR q1,q2];refine cG (l:=[ni 0,.nil]) rfl fun b hb=>?_;refine iH (n:=2) (i:=b) aB rfl rfl rfl ?_;rw [fD];generalize wK:(Tl O (i*2) [.int .i64 D.1,.list (eL D.2) D.2.length])=cs;obtain⟨t1,wK⟩:∃t1,cs=[.int .i64 D.1,.list t1 (eL D.2) D.2.length]:=⟨_,wK.symm⟩;subst wK;have pR:bU S2 (aL S2 b (.row [.int .i64 D.1,.list t1 (eL D.2) D.2.length] 68)):= .aK hb;have rb:aL S2 b (.row [.int .i64 D.1,.list t1 (eL D.2) D.2.length] 68) b=some (.row [.int .i64 D.1,.list t1 (eL D.2) D.2.length] 68):=aB;generalize aL S2 b (.row [.int .i64 D.1,.list t1 (eL D.2) D.2.length] 68)=S3 at pR rb;have r3:=pR _ _ (hs _ _ rp);have l0:∀{S':Hp} {K:KV},S' b=some (.row [.int .i64 D.1,.list t1 (eL D.2) D.2.length] 68)->aW (.ptr b 0) S' K=K (.int .i64 D.1) S':=fun {S' K} h=>cT h rfl;have l1:∀{S':Hp} {K:KV},S' b=some (.row [.int .i64 D.1,.list t1 (eL D.2) D.2.length] 68)->aW (.ptr b (0+1)) S' K=K (.list t1 (eL D.2) D.2.length) S':=fun {S' K} h=>cT h rfl;have sm:∀{t:Tag} {cs:List Dt} {n:Nat} {p:Prop},aU (.list t cs n) (.list t cs n) p=p:=fun {t cs n p}=>cN rfl;have smi:∀{z:Int} {p:Prop},aU (.int .i64 z) (.int .i64 z) p=p:=fun {z p}=>cN rfl;rw [aZ,l1 rb,cZ,lA r3];refine aKm (n:=n+10) (two:=two) hy ?_;rw [l1 rb,sm,yB,bI fl,fL];rw [aE,aN,aZ];dsimp only;rw [aE,aN,l1 rb];dsimp only;rw [aE,aN];dsimp only;rw [aE,aN];dsimp only;refine aBT (n:=n+9) (S0:=S3) hM hy .val (by omega) (p:=fun c=> !decide (c.length=2)) (fun z hz c hc w hw K hk=>aR5 (two:=two) (n:=n+8) hz hw r3 hk) ?_
  have aUs:(D.2.any fun c=> !decide (c.length=2))=false:=by
   rw [List.any_eq_false];intro c hc;rw [(fa c hc).1];decide
  rw [aUs]
  try dsimp only
  rw [l1 rb,sm,aE,dJ,bE,aY,l0 rb,aZ,l1 rb,l1 rb,sm,l0 rb,smi];have hb3:∀{z:Int} {S:Hp} {K:KV},(∀j,S j=none->K (.own j 0 1 1) (aL S j (.row [.int .i64 z] 3)))->aS 3 1 [(.int .i64 (.ofNat 0))] [(0,1,.int .i64 z)] S K:=fun {z S K} hk=>⟨rfl,by simp,hk⟩;refine⟨hb3 fun _ _=>trivial,yW rfl fun _ _=>trivial,?_⟩;refine(gu.up pR).app (t:=t1) (d:= .int .i64 D.1) (hs.trans pR) (by rw [EB];omega) (zv:=ni 0) rfl (by decide) fun u' S4 IS k4 o4 gu4=>?_
  have rb4:=k4 _ _ rb fun m c=>by
   obtain⟨vs,n,q⟩:=(gu.up pR).there c;rw [rb]at q;cases q
  have gv4:GL 33 S1 S4 v (mD aDR):=(gv.up pR).mF k4 fun j m m' c c2=>hap j m' m c2 c
  have aSu:∀j m m',u'= .acc j m->v≠ .acc j m':=fun j m m' c c2=>by
   rcases o4 j m c with ⟨m2,q⟩ | q
   ·exact hap j m2 m' q c2
   ·obtain⟨vs,n,q2⟩:=(gv.up pR).there c2
    rw [q]at q2;cases q2
  rw [l1 rb4,sm,l1 rb4,sm];refine⟨yW rfl fun _ _=>trivial,?_⟩;refine gv4.app (t:=t1) (d:= .list (eL D.2) D.2.length) IS (by rw [RG];omega) (zv:= .nil) rfl (by decide) fun v' S5 EW k5 o5 gv5=>?_;have gu5:=gu4.mF k5 fun j m m' c c2=>aSu j m m' c c2;rw [bG (by omega)];have e1:kW ats++[.int .i64 D.1]=kW (ats++[D.1]):=by unfold kW;rw [QE];rfl
  have e2:mD aDR++[.list (eL D.2) D.2.length]=mD (aDR++[D.2]):=by rw [Xy];rfl
  rw [e1]at gu5;rw [e2]at gv5;refine hk u' v' S5 EW gu5 gv5 fun j m m' c c2=>?_;rcases o5 j m' c2 with ⟨m2,q⟩ | q
  ·exact aSu j m m2 c q
  ·obtain⟨vs,n,q2⟩:=gu4.there c
   rw [q]at q2;cases q2
 show kT y y.most (.ptr p 0) .nil .nil (.list O (ME [d,e]) 2) (ni 2) (ni 0) S1 K;rw [hy.most,EM];refine step 0 _ d .nil .nil [] [] S1 rfl f1 (by decide) (.refl _) .nil .nil (by decide) (by decide) (fun j m m' c=>by cases c) fun u1 v1 S2 fO gu1 gv1 ap1=>?_;refine step 1 _ e u1 v1 [d.1] [d.2] S2 rfl f2 (by decide) fO gu1 gv1 (QF 1) (QF 1) ap1 fun u2 v2 S3 pR gu2 gv2 ap2=>?_;rw [FB];unfold wW;refine aF ?_;rw [aQ,jM (by decide),bE];have gu2:GL 3 S1 S3 u2 (kW [d.1,e.1]):=gu2;have gv2:GL 33 S1 S3 v2 (mD [d.2,e.2]):=gv2;have Ju:=pR _ _ rp;refine aDP (n:=n+7) hM hy gu2 (by omega) (by omega) ?_;rw [rC,fL,bE,aZ,cT (o:=0+1) Ju rfl];refine aDQ (n:=n+4) hM hy gu2 (by omega) (by omega) (by omega) fun t3=>?_;refine dC (v:= .list t3 (kK (wts d.1.toNat e.1.toNat)) 2) rfl ?_;refine dC (v:=ni 0) rfl ?_;rw [yB,bI rfl,fL,bE,lA Ju];refine aKm (n:=n+10) (two:=two) hy ?_
 have aKq:LC (wts d.1.toNat e.1.toNat):=fun c hc=>by
  have:c<11:=by
   rcases List.mem_cons.1 hc with rfl | hc
   ·exact aE4 _ _
   ·rcases List.mem_cons.1 hc with rfl | hc
    ·exact aE4 _ _
    ·cases hc
  show c<18446744073709551616;omega
 have one:∀(s j:Nat),s<2->j<2->∀(S4:Hp) (K':KV),bU S3 S4->(K' (nu (Jf ((PO (EZ [d.2,e.2] s) j).zip (wts d.1.toNat e.1.toNat)) (LI []))) S4)->
  (bR 12 (.ptr p 0) S4 fun v1 S=>y.call iM [v2,ni s] S fun v2 S=>bR 12 (.ptr p 0) S fun v3 _=>aU v3 v1 (y.call mZ [v2,ni j] S fun v4 S=>bR 12 (.ptr p 0) S fun v5 _=>aU v5 v1 (y.call lG [v1,.nil] S fun v6 S=>y.call lP [v4,.list t3 (kK (wts d.1.toNat e.1.toNat)) 2,v6,.func iU [] [.ptr p 0],.func iV [] [.ptr p 0]] S K'))):=by
  intro s j hs hj S4 K' hle hk;have r4:=hle _ _ Ju;have smp:∀{p:Prop},aU (.agg (pv two)) (.agg (pv two)) p=p:=fun {p}=>cN rfl;rw [lA r4];refine aMM (n:=n+9) hM hy (ms:=[d.2,e.2]) (fun l hl=>?_) (Vg rfl) (gv2.up hle) fun t5=>?_
  ·rcases List.mem_cons.1 hl with rfl | hl
   ·omega
   ·rcases List.mem_cons.1 hl with rfl | hl
    ·omega
    ·cases hl
  rw [lA r4,smp];refine aPU (n:=n+9) hM hy (ls:=EZ [d.2,e.2] s) (fun l hl=>?_) (Vg rfl) fun t6=>?_
  ·have hl:l=d.2.getD s []\/l=e.2.getD s []:=by simpa [EZ]using hl
   have gg:∀{c:List (List Nat)},c.length=2->(∀q∈c,q.length=2/\∀a∈q,Jg a=true)->j<(c.getD s []).length:=fun {c} h1 h2=>by
    have hlt:s<c.length:=by omega
    rw [BG,aT hlt];show j<c[s].length;rw [(h2 _ (cO hlt)).1];exact hj
   rcases hl with rfl | rfl
   ·exact gg fl1 fa1
   ·exact gg fl2 fa2
  rw [lA r4,smp];refine WA (n:=n+9) (two:=two) hM hy .nil (fun z hz=>by cases hz) (by simp) ?_;refine aMJ (n:=n+6) (two:=two) hM hy (l:=PO (EZ [d.2,e.2] s) j) (w:=wts d.1.toNat e.1.toNat) rfl .list .list (fun z hz=>?_) aKq (Vg rfl) r4 (PJ _) hk;have hz:z=(d.2.getD s []).getD j 0\/z=(e.2.getD s []).getD j 0:=by simpa [EZ,PO]using hz
  have:z<23:=by
   rcases hz with rfl | rfl
   ·exact Hk (Lq f1 hs hj)
   ·exact Hk (Lq f2 hs hj)
  show z<18446744073709551616;omega
 have sec:∀(s m:Nat) (w:V) (acc:List (List Nat)) (S4:Hp),s<2->bU S3 S4->ML S3 S4 w acc->acc.length<=2->(∀w' S',bU S3 S'->ML S3 S' w' (acc++[[0,1].map fun j=>Jf ((PO (EZ [d.2,e.2] s) j).zip (wts d.1.toNat e.1.toNat)) (LI [])])->iI y m (.ptr p 0) v2 (.list t3 (kK (wts d.1.toNat e.1.toNat)) 2) (.func iU [] [.ptr p 0]) (.func iV [] [.ptr p 0]) w' (ni 2) (ni (s+1)) S' K)->
  iI y (m+1) (.ptr p 0) v2 (.list t3 (kK (wts d.1.toNat e.1.toNat)) 2) (.func iU [] [.ptr p 0]) (.func iV [] [.ptr p 0]) w (ni 2) (ni s) S4 K:=by
  intro s m w acc S4 hs hle hw hal hk;rw [wE];unfold oL;refine aF ?_;have r4:=hle _ _ Ju;rw [aQ,zJ hs,bW,aZ,cT (o:=0+6) r4 rfl];show aJ PP .add 3 (ni 1) (ni 1) _;rw [bG (by decide)];show fJ y y.most m (.ptr p 0) v2 (.list t3 (kK (wts d.1.toNat e.1.toNat)) 2) (.func iU [] [.ptr p 0]) (.func iV [] [.ptr p 0]) w (ni s) .nil (ni 2) (ni s) (ni 2) (ni 0) S4 K;rw [hy.most,EM,iY];unfold fG;refine aF ?_;rw [aQ,zJ (by decide),bW];refine one s 0 hs (by decide) S4 _ hle ?_;have aSv:∀{z:Nat} {S:Hp},aS 22 1 [(.int .u64 (.ofNat 0))] [(0,1,nu z)] S fun _ _=>True:=fun {z S}=>⟨rfl,by simp,fun _ _=>trivial⟩;refine⟨aSv,?_⟩;refine(MN.nil (S0:=S4)).app (.refl _) (by simp) fun u1 S5 EW k5 m5=>?_;rw [bG (by decide),iY];unfold fG;refine aF ?_;rw [aQ,zJ (by decide),bW];refine one s 1 hs (by decide) S5 _ (hle.trans EW) ?_;refine⟨aSv,?_⟩;refine m5.app EW (by simp) fun u2 S6 UA k6 m6=>?_;rw [bG (by decide),iY];unfold fG;refine aF ?_;rw [aQ,jM (by decide),bE];have nl:NL S3 S6 u2 ([0,1].map fun j=>Jf ((PO (EZ [d.2,e.2] s) j).zip (wts d.1.toNat e.1.toNat)) (LI [])):=(NL.made m6).base hle;refine(hw.up UA).app (hle.trans UA) (by omega) nl fun w' S7 le7 k7 m7 _=>?_;rw [bG (by omega)];exact hk w' S7 le7 m7
 rw [hy.most,EM];refine sec 0 _ .nil [] S3 (by decide) (.refl _) .nil (by decide) fun w1 S4 IS m4=>?_;refine sec 1 _ w1 _ S4 (by decide) IS m4 (QF 1) fun w2 S5 EW m5=>?_;rw [wE];unfold oL;refine aF ?_;rw [aQ,jM (by decide),bE];have m5:ML S3 S5 w2 (PQ [d,e]):=m5;have hle:bU S S5:=(dL.trans pR).trans EW;have fz:=(m5.base (dL.trans pR)).Bd;refine⟨S,fun O=> .tuple [.list (O 0) (eL (PQ [d,e])) (PQ [d,e]).length,ni 0],hle,fun O=> .tup ⟨rfl,fun j v u e1 e2=>?_⟩,fun O=>hK _⟩
 match j with
 | 0=>injection e1 with e1;injection e2 with e2;subst e1 e2;exact .ZG fz
 | 1=>injection e1 with e1;injection e2 with e2;subst e1 e2;exact .mF _
 | j+2=>simp at e1
end
end Go.Am
set_option maxRecDepth 100000
namespace Go.Am
def lO (x:VE) (m:Nat) (t3 t5 t6 t8 t38 t39 t40:V) (S:Hp) (K:KV):Prop:=dW PP bK BW x [.r,.r,.r,.l,.r,.d] m [] [t3,t5,t6,t8,t38,t39,t40] S K
def jV (x:VE) (t6 t8:V) (S:Hp) (K:KV):Prop:=Uq PP bK BW x [.r,.r,.r,.r,.r,.r] [] [t6,t8] S K
def Qq (x:VE) (a0 a1 a2:V) (S:Hp) (K:KV):Prop:=
 iG 29 a0 S fun v0 S=>
 iG 36 a1 S fun v1 S=>
 iG 42 a2 S fun v2 S=>
 dQ [(.int .i64 (.ofNat 0)),(.slice none 0 0),(.slice none 0 0),(.slice none 0 0),(.slice none 0 0)] 36 S fun v3 S=>
 bR 12 v0 S fun v4 S=>
 bR 5 v1 S fun v5 S=>
 bR 7 v2 S fun v6 S=>
 bR 7 v2 S fun v7 _=>
 aU v7 v6 (bR 5 v1 S fun v8 _=>aU v8 v5 (bR 12 v0 S fun v9 _=>aU v9 v4 ((dQ [(.int .u64 (.ofNat 0)),(.int .u64 (.ofNat 0)),(.int .u64 (.ofNat 0)),(.int .u64 (.ofNat 0)),(.int .i64 (.ofNat 0)),(.int .i64 (.ofNat 0)),(.int .i64 (.ofNat 0)),(.int .i64 (.ofNat 0)),(.int .i64 (.ofNat 0)),(.int .i64 (.ofNat 0)),(.int .i64 (.ofNat 0)),(.int .i64 (.ofNat 0)),(.int .i64 (.ofNat 0)),(.slice none 0 0),(.slice none 0 0),(.slice none 0 0),(.slice none 0 0),(.int .u8 (.ofNat 0)),(.int .i64 (.ofNat 0)),(.int .i64 (.ofNat 0)),(.slice none 0 0),(.slice none 0 0),(.slice none 0 0),(.slice none 0 0)] 86 S fun v10 S=>True)/\(x.call EH [v5] S fun v11 S=>bR 7 v2 S fun v12 _=>aU v12 v6 (bR 12 v0 S fun qE _=>aU qE v4 (cS [(.int .u64 (.ofNat 0)),(.int .u64 (.ofNat 0)),(.int .u64 (.ofNat 0)),(.int .u64 (.ofNat 0)),(.int .i64 (.ofNat 0)),(.int .i64 (.ofNat 0)),(.int .i64 (.ofNat 0)),(.int .i64 (.ofNat 0)),(.int .i64 (.ofNat 0)),(.int .i64 (.ofNat 0)),(.int .i64 (.ofNat 0)),(.int .i64 (.ofNat 0)),(.int .i64 (.ofNat 0)),(.slice none 0 0),(.slice none 0 0),(.slice none 0 0),(.slice none 0 0),(.int .u8 (.ofNat 0)),(.int .i64 (.ofNat 0)),(.int .i64 (.ofNat 0)),(.slice none 0 0),(.slice none 0 0),(.slice none 0 0),(.slice none 0 0)] [(0,12,v4),(12,5,v11),(17,7,v6)] fun qU=>bR 7 v2 S fun wI _=>aU wI v6 (bR 12 v0 S fun wJ _=>aU wJ v4 ((dQ [(.int .u64 (.ofNat 0)),(.int .u64 (.ofNat 0)),(.int .u64 (.ofNat 0)),(.int .u64 (.ofNat 0)),(.int .i64 (.ofNat 0)),(.int .i64 (.ofNat 0)),(.int .i64 (.ofNat 0)),(.int .i64 (.ofNat 0)),(.int .i64 (.ofNat 0)),(.int .i64 (.ofNat 0)),(.int .i64 (.ofNat 0)),(.int .i64 (.ofNat 0)),(.int .i64 (.ofNat 0)),(.slice none 0 0),(.slice none 0 0),(.slice none 0 0),(.slice none 0 0),(.int .u8 (.ofNat 0)),(.int .i64 (.ofNat 0)),(.int .i64 (.ofNat 0)),(.slice none 0 0),(.slice none 0 0),(.slice none 0 0),(.slice none 0 0)] 86 S fun wH S=>True)/\(dQ [(.int .u64 (.ofNat 0)),(.int .u64 (.ofNat 0)),(.int .u64 (.ofNat 0)),(.int .u64 (.ofNat 0)),(.int .i64 (.ofNat 0)),(.int .i64 (.ofNat 0)),(.int .i64 (.ofNat 0)),(.int .i64 (.ofNat 0)),(.int .i64 (.ofNat 0)),(.int .i64 (.ofNat 0)),(.int .i64 (.ofNat 0)),(.int .i64 (.ofNat 0)),(.int .i64 (.ofNat 0)),(.slice none 0 0),(.slice none 0 0),(.slice none 0 0),(.slice none 0 0),(.int .u8 (.ofNat 0)),(.int .i64 (.ofNat 0)),(.int .i64 (.ofNat 0)),(.slice none 0 0),(.slice none 0 0),(.slice none 0 0),(.slice none 0 0)] 86 S fun vC S=>nI 24 vC qU S fun S=>bR 12 v0 S fun yI S=>x.call uI [yI] S fun v20 S=>SP .not v20 fun v21=>aI x.most (aH false v21 (fun k=>aV 0 v2 fun JC=>k JC S) S fun GC S=>aI x.most (aH false v21 (fun k=>aW GC S fun v24 S=>k v24 S) S fun OD S=>aI x.most (aH false v21 (fun k=>aJ PP .lss 5 OD (.int .u8 (.ofNat 1)) fun SZ=>k SZ S) S fun ZE S=>aI x.most (fK v21 (.bool true) ZE fun v28=>aI x.most (aH false v28 (fun k=>aV 0 v2 fun v29=>k v29 S) S fun v30 S=>aI x.most (aH false v28 (fun k=>aW v30 S fun v31 S=>k v31 S) S fun Sr S=>aI x.most (aH false v28 (fun k=>aJ PP .gtr 5 Sr (.int .u8 (.ofNat 4)) fun Lr=>k Lr S) S fun Fd S=>aI x.most (fK v28 (.bool true) Fd fun Qk=>iR Qk (aV 12 vC fun Cb=>bR 5 Cb S fun v37 S=>nI 5 v3 v37 S fun S=>bR 5 v3 S fun Bt _=>bF (.tuple [Bt,(.int .i64 (.ofNat 4))]) S K) (aV 0 v2 fun Jj=>aW Jj S fun v40 S=>x.call GU [v40] S fun XY S=>bP XY fun Rb=>lO x x.most v0 v2 v3 vC XY Rb (.int .i64 (.ofNat 0)) S K))))))))))))))))))
theorem aDG (x:VE) (a0 a1 a2:V) (S:Hp) (K:KV):jX PP bK BW x [a0,a1,a2] S K=Qq x a0 a1 a2 S K:=by kernel_rfl
def BX (x:VE) (m0:Nat) (t3 t5 t6 t8 t38 t39 t40:V) (S:Hp) (K:KV):Prop:=
 cR S fun S=>
 aJ PP .lss 3 t40 t39 fun v0=>
 iR v0 (cV 2 t38 t40 fun v1=>bR 2 v1 S fun v2 S=>dQ [.nilFunc,(.int .i64 (.ofNat 0))] 92 S fun v3 S=>nI 2 v3 v2 S fun S=>aV 0 v3 fun v4=>aW v4 S fun v5 S=>bR 24 t8 S fun v6 S=>mH x v5 [v6] S fun v7 S=>SP .not v7 fun v8=>iR v8 (aV 12 t8 fun v9=>bR 5 v9 S fun v10 S=>aV 1 v3 fun v11=>aW v11 S fun v12 S=>nI 5 t6 v10 S fun S=>aW v11 S fun qE _=>aU qE v12 (bR 5 t6 S fun qU _=>bF (.tuple [qU,v12]) S K)) (aJ PP .add 3 t40 (.int .i64 (.ofNat 1)) fun wI=>lO x m0 t3 t5 t6 t8 t38 t39 wI S K)) (bR 7 t5 S fun wJ S=>x.call JS [wJ] S fun wH S=>dQ [(.int .u8 (.ofNat 0)),(.int .i64 (.ofNat 0)),(.int .i64 (.ofNat 0)),(.slice none 0 0),(.slice none 0 0),(.slice none 0 0),(.slice none 0 0)] 42 S fun vC S=>nI 7 vC wH S fun S=>aV 0 t5 fun yI=>aW yI S fun v20 S=>aJ PP .eql 5 v20 (.int .u8 (.ofNat 1)) fun v21=>iR v21 (aV 4 vC fun JC=>aW JC S fun GC S=>aV 12 t8 fun v24=>aV 0 v24 fun OD=>nI 1 OD (.int .i64 (.ofNat 1)) S fun S=>aW JC S fun SZ _=>aU SZ GC (aV 12 t8 fun ZE=>aV 2 ZE fun v28=>nI 1 v28 GC S fun S=>jV x t6 t8 S K)) (aJ PP .eql 5 v20 (.int .u8 (.ofNat 2)) fun v29=>iR v29 (bR 12 t3 S fun v30 S=>aV 12 t8 fun v31=>aV 4 v31 fun Sr=>aW Sr S fun Lr S=>aV 1 t5 fun Fd=>aW Fd S fun Qk S=>aV 3 t5 fun Cb=>aW Cb S fun v37 S=>x.call NH [v30,Lr,Qk,v37] S fun Bt S=>vB 0 Bt fun Jj=>vB 1 Bt fun v40=>aJ PP .neq 46 v40 (.int .i64 (.ofNat 0)) fun XY=>iR XY (aV 12 t8 fun Rb=>bR 5 Rb S fun Uz S=>nI 5 t6 Uz S fun S=>bR 5 t6 S fun v44 _=>bF (.tuple [v44,v40]) S K) (aV 12 t8 fun Ql=>aV 4 Ql fun v46=>nI 1 v46 Jj S fun S=>jV x t6 t8 S K)) (aJ PP .eql 5 v20 (.int .u8 (.ofNat 3)) fun v47=>iR v47 (aV 5 vC fun v48=>aW v48 S fun v49 S=>aV 12 t8 fun v50=>aV 3 v50 fun v51=>nI 1 v51 v49 S fun S=>jV x t6 t8 S K) (bR 12 t3 S fun v52 S=>aV 6 t5 fun v53=>aW v53 S fun v54 S=>x.call vH [v52,v54] S fun v55 S=>vB 0 v55 fun v56=>vB 1 v55 fun v57=>aJ PP .neq 46 v57 (.int .i64 (.ofNat 0)) fun v58=>iR v58 (aV 12 t8 fun v59=>bR 5 v59 S fun v60 S=>nI 5 t6 v60 S fun S=>bR 5 t6 S fun v61 _=>bF (.tuple [v61,(.int .i64 (.ofNat 4))]) S K) (aV 12 t8 fun v62=>aV 0 v62 fun v63=>aW v63 S fun v64 S=>aJ PP .add 3 v64 (.int .i64 (.ofNat 1)) fun v65=>aV 12 t8 fun v66=>aV 3 v66 fun v67=>aW v67 S fun v68 S=>aV 12 t8 fun v69=>aV 4 v69 fun v70=>aW v70 S fun v71 S=>cS [(.int .i64 (.ofNat 0)),(.slice none 0 0),(.slice none 0 0),(.slice none 0 0),(.slice none 0 0)] [(0,1,v65),(1,1,v68),(2,1,v56),(4,1,v71)] fun v72=>aV 12 t8 fun v73=>nI 5 v73 v72 S fun S=>jV x t6 t8 S K)))))
theorem LZ (x:VE) (m0:Nat) (t3 t5 t6 t8 t38 t39 t40:V) (S:Hp) (K:KV):lO x (m0+1) t3 t5 t6 t8 t38 t39 t40 S K=BX x m0 t3 t5 t6 t8 t38 t39 t40 S K:=by kernel_rfl
def vM (x:VE) (t6 t8:V) (S:Hp) (K:KV):Prop:=
 cR S fun S=>
 aV 12 t8 fun v0=>
 bR 5 v0 S fun v1 S=>
 nI 5 t6 v1 S fun S=>
 bR 5 t6 S fun v2 _=>
 bF (.tuple [v2,(.int .i64 (.ofNat 0))]) S K
theorem YN (x:VE) (t6 t8:V) (S:Hp) (K:KV):Ur PP bK BW x [.r,.r,.r,.r,.r,.r] [] [t6,t8] S K=vM x t6 t8 S K:=by kernel_rfl
theorem MA (x:VE) (hm:x.most≠0) (t6 t8:V) (S:Hp) (K:KV):jV x t6 t8 S K=vM x t6 t8 S K:=(Er (hm:=hm) ..).trans (YN x t6 t8 S K)
end Go.Am
set_option maxRecDepth 8000
namespace Go.Am
open Go.Proofs.OG
section
variable{M n:Nat}{x:VE}{S:Hp}{K:KV}{two:Bool}{O O':Nat->Tag}{s:Bh}{e:En}
theorem aSw:gM BW=none:=rfl
theorem IN{t:TypeId}{a b:Nat}{k:V->Prop}:aJ PP .eql t (n8 a) (n8 b) k=k (.bool (decide (a=b))):=by rw [JV];congr 2;simp;omega
theorem aQj{t:TypeId}{a b:Nat}{k:V->Prop}:aJ PP .lss t (n8 a) (n8 b) k=k (.bool (decide (a<b))):=by rw [rK];congr 2;simp
theorem aQk{t:TypeId}{a b:Nat}{k:V->Prop}:aJ PP .gtr t (n8 a) (n8 b) k=k (.bool (decide (b<a))):=by rw [OY];congr 2;simp
theorem XP{p:Prop}:aU (.agg (pv two)) (.agg (pv two)) p=p:=cN rfl
theorem El{p:Prop}:aU (.agg (pK O s)) (.agg (pK O s)) p=p:=cN rfl
theorem Zt{p:Prop}:aU (.agg (XO O e)) (.agg (XO O e)) p=p:=cN rfl
def z24:List Value:=[(.int .u64 (.ofNat 0)),(.int .u64 (.ofNat 0)),(.int .u64 (.ofNat 0)),(.int .u64 (.ofNat 0)),(.int .i64 (.ofNat 0)),(.int .i64 (.ofNat 0)),(.int .i64 (.ofNat 0)),(.int .i64 (.ofNat 0)),(.int .i64 (.ofNat 0)),(.int .i64 (.ofNat 0)),(.int .i64 (.ofNat 0)),(.int .i64 (.ofNat 0)),(.int .i64 (.ofNat 0)),(.slice none 0 0),(.slice none 0 0),(.slice none 0 0),(.slice none 0 0),(.int .u8 (.ofNat 0)),(.int .i64 (.ofNat 0)),(.int .i64 (.ofNat 0)),(.slice none 0 0),(.slice none 0 0),(.slice none 0 0),(.slice none 0 0)]
theorem aQl:∃l,LB z24=some l/\l.length=24:=⟨_,rfl,rfl⟩
theorem aG0{k:V->Prop} (hk:k (.agg (TZ two O O' s e))):cS z24 [(0,12,.agg (pv two)),(12,5,.agg (pK O s)),(17,7,.agg (XO O' e))] k:=
 ⟨jN,rfl,cJ rfl,PI,rfl,cJ rfl,Ej,rfl,cJ rfl,hk⟩
theorem Zu{S0 S1:Hp}{bt r w:Nat}{cs:List V} (hle:bU S0 S1) (rt:S1 bt=some (.row cs 86)){vs:List V} (rr:S1 r=some (.row vs 36)) (ET:S0 r=none) (hv:vs.length=5) (hc:(cs.drop 12).take 5=pK O s) (hl:cs.length=24) (hK:∀O,K (.tuple [.agg (pK O s),ni w]) S0):
 bR 5 (.ptr bt (0+12)) S1 fun v S=>nI 5 (.ptr r 0) v S fun S=>bR 5 (.ptr r 0) S fun qU _=>bF (.tuple [qU,ni w]) S K:=by
 rw [tE rt,dR (by omega),eJ,hc];refine iH (n:=5) (i:=r) rr PI rfl hv ?_;refine kQ (n:=5) (i:=r) aB rfl ?_;exact bL (fun j o q=>by rw [aC (fun c=>by rw [c,ET]at q;cases q)];exact hle j o q) (hK O)
theorem aQm{y:VE} (hm:y.most≠0){S0 S1:Hp}{bt r:Nat}{cs:List V} (hle:bU S0 S1) (rt:S1 bt=some (.row cs 86)){vs:List V} (rr:S1 r=some (.row vs 36)) (ET:S0 r=none) (hv:vs.length=5) (hc:(cs.drop 12).take 5=pK O s) (hl:cs.length=24) (hK:∀O,K (.tuple [.agg (pK O s),ni 0]) S0):
 jV y (.ptr r 0) (.ptr bt 0) S1 K:=by
 rw [MA _ hm];unfold vM;refine aF ?_;rw [aZ];exact Zu hle rt rr ET hv hc hl hK
theorem aSx{y:VE} (hm:y.most≠0){S0 S1:Hp}{bt r ep:Nat}{cs:List V} (hle:bU S0 S1) (rt:S1 bt=some (.row cs 86)){vs:List V} (rr:S1 r=some (.row vs 36)) (ET:S0 r=none) (hv:vs.length=5){t1 t2 t4:Tag}{l1:List Int}{l2:List (List Nat)}{l4:List (Int×List Int)} (hc:(cs.drop 12).take 5=[ni ep,.list t1 (kW l1) l1.length,.list t2 (eL l2) l2.length,.nil,.list t4 (aD l4) l4.length]) (hl:cs.length=24) (hK:∀O,K (.tuple [.agg (pK O ⟨ep,l1,l2,[],l4⟩),ni 0]) S0):
 jV y (.ptr r 0) (.ptr bt 0) S1 K:=by
 rw [MA _ hm];unfold vM;refine aF ?_;rw [aZ,tE rt,dR (by omega),eJ,hc];refine iH (n:=5) (i:=r) rr rfl rfl hv ?_;refine kQ (n:=5) (i:=r) aB rfl ?_;refine⟨S0,fun O=> .tuple [.agg (pK (fun k=>if k=1 then t1 else if k=2 then t2 else if k=3 then O 5 else t4) ⟨ep,l1,l2,[],l4⟩),ni 0],fun j o q=>by rw [aC (fun c=>by rw [c,ET]at q;cases q)];exact hle j o q,fun O=> .aRD rfl ⟨rfl,fun j v u e1 e2=>?_⟩,fun O=>hK _⟩
 match j with
 | 0=>injection e1 with e1;injection e2 with e2;subst e1 e2;exact .mF _
 | 1=>injection e1 with e1;injection e2 with e2;subst e1 e2;exact .mF _
 | 2=>injection e1 with e1;injection e2 with e2;subst e1 e2;exact .mF _
 | 3=>injection e1 with e1;injection e2 with e2;subst e1 e2;exact .ZG .nil
 | 4=>injection e1 with e1;injection e2 with e2;subst e1 e2;exact .mF _
 | 5=>injection e1 with e1;injection e2 with e2;subst e1 e2;exact .mF _
 | j+6=>simp at e1
theorem Fp{y:VE}{S0 SB S1:Hp}{bp be r bt qj i q k err m:Nat}{g:FuncId}{p:Bool}{vs:List V} (rq:SB qj=some (.row (qV k) 92)) (rt:SB bt=some (.row (TZ two O O' s e) 86)) (rr:SB r=some (.row vs 36)) (hv:vs.length=5) (h0:bU S0 SB) (ET:S0 r=none)
 (hi:i<q) (hql:i*2+2<=(qV k).length) (hc:((qV k).drop (i*2)).take 2=[fq g,ni err]) (hq9:q<9) (hf:∀S2 (K:KV),bU SB S2->K (.bool p) S2->y.call g [.agg (TZ two O O' s e)] S2 K) (hs:bU SB S1)
 (hF:p=false->∀O,K (.tuple [.agg (pK O s),ni err]) S0) (hT:p=true->∀S2,bU SB S2->lO y m (.ptr bp 0) (.ptr be 0) (.ptr r 0) (.ptr bt 0) (.own qj 0 q q) (ni q) (ni (i+1)) S2 K):
 lO y (m+1) (.ptr bp 0) (.ptr be 0) (.ptr r 0) (.ptr bt 0) (.own qj 0 q q) (ni q) (ni i) S1 K:=by
 rw [LZ];unfold BX;refine tJ SB hs ?_;rw [aQ,zJ hi,bW];refine⟨hi,?_⟩;dsimp only;rw [tE rq,eJ,dR hql,hc];refine cG (l:=[.Hh,ni 0]) rfl fun d hd=>?_;refine iH (n:=2) (i:=d) aB rfl rfl rfl ?_;rw [fD];have le:bU SB (aL SB d (.row [fq g,ni err] 92)):= .aK hd;have rd:aL SB d (.row [fq g,ni err] 92) d=some (.row [fq g,ni err] 92):=aB;generalize aL SB d (.row [fq g,ni err] 92)=S2 at le rd;rw [aY,cT (o:=0) rd rfl];refine kQ (n:=24) (i:=bt) (le _ _ rt) rfl ?_;refine hf S2 _ le ?_;rw [rC];cases p with
 | true=>
  rw [fL,bE,bG (by omega)];exact hT rfl S2 le
 | false=>
  rw [DB,bW,aZ,tE (le _ _ rt),dR (cJ rfl),aZ,cT (o:=0+1) rd rfl];show nI 5 (.ptr r 0) (.agg (pK O s)) S2 _;refine iH (n:=5) (i:=r) (le _ _ rr) PI rfl hv ?_;have hdr:d≠r:=fun c=>by rw [c,rr]at hd;cases hd
  rw [cT (o:=0+1) (v:=ni err) (vs:=[fq g,ni err]) (t:=92) (by rw [aC hdr];exact rd) rfl,cE];refine kQ (n:=5) (i:=r) aB rfl ?_;exact bL (fun j o q=>by rw [aC (fun c=>by rw [c,ET]at q;cases q)];exact le _ _ (h0 j o q)) (hF rfl O)
theorem aNc (Pb:140737488355328<M){y:VE} (hy:Deep PP bK gM M (n+12) y){S0 SB S1:Hp}{bp be r bt q m:Nat}{qv:V}{vs:List V} (rp:SB bp=some (.row (pv two) 29)) (re:SB be=some (.row (XO O' e) 42)) (rt:SB bt=some (.row (TZ two O O' s e) 86)) (rr:SB r=some (.row vs 36)) (hv:vs.length=5) (h0:bU S0 SB) (ET:S0 r=none) (ht0:S0 bt=none) (hrt:r≠bt)
 (hsz:aBm e) (UN:aBr s) (QC:Ek s) (hs:bU SB S1) (DS:1<=e.kind/\e.kind<=4)
 (h1:e.kind=1->∀O,K (.tuple [.agg (pK O {s with ep:=1,fC:=e.fC}),ni 0]) S0)
 (h2:e.kind=2->(GB s.asked e.id e.x≠0->∀O,K (.tuple [.agg (pK O s),ni (GB s.asked e.id e.x)]) S0)/\(GB s.asked e.id e.x=0->∀O,K (.tuple [.agg (pK O {s with asked:=s.asked++[(e.id,e.x)]}),ni 0]) S0))
 (h3:e.kind=3->∀O,K (.tuple [.agg (pK O {s with next:=e.next}),ni 0]) S0)
 (h4:e.kind=4->oR e.gN=true/\∀O,K (.tuple [.agg (pK O ⟨s.ep+1,s.next,PQ e.gN,[],s.asked⟩),ni 0]) S0):
 lO y (m+1) (.ptr bp 0) (.ptr be 0) (.ptr r 0) (.ptr bt 0) qv (ni q) (ni q) S1 K:=by
 have hM:1000000<M:=by omega
 have hym:y.most≠0:=by rw [hy.most];omega
 rw [LZ];unfold BX;refine tJ SB hs ?_;rw [aQ,jM (by omega),bE];refine kQ (n:=7) (i:=be) re rfl ?_;refine aMU (n:=n+7) Pb hy hsz fun O3=>?_;refine cG (l:=[n8 0,ni 0,ni 0,.nil,.nil,.nil,.nil]) rfl fun o ho=>?_;refine iH (n:=7) (i:=o) aB Ej rfl rfl ?_;rw [fD];have le:bU SB (aL SB o (.row (XO O3 e) 42)):= .aK ho;have ro:aL SB o (.row (XO O3 e) 42) o=some (.row (XO O3 e) 42):=aB;generalize aL SB o (.row (XO O3 e) 42)=S2 at le ro;have re2:=le _ _ re;have rt2:=le _ _ rt;have rr2:=le _ _ rr;have rp2:=le _ _ rp;have Ze:=h0.trans le;have hot:o≠bt:=fun c=>by rw [c,rt]at ho;cases ho
 have w1:∀{S3:Hp} {cs:List V},bU S0 S3->bU S0 (aL S3 bt (.row cs 86)):=fun {S3 cs} h j o q=>by rw [aC (fun c=>by rw [c,ht0]at q;cases q)];exact h j o q
 rw [aY,cT (o:=0) re2 rfl];show aJ PP .eql 5 (n8 e.kind) (n8 1) _;rw [IN];by_cases c1:e.kind=1
 ·rw [bI c1,bW,aZ,cT (o:=0+4) ro rfl,aZ,aZ,DV rt2 (show 0+12+0<24 by decide) rfl]
  rw [cT (o:=0+4) (v:= .list (O3 4) (eL e.fC) e.fC.length) (vs:=XO O3 e) (t:=42) (i:=o) (by rw [aC hot];exact ro) rfl,cN rfl,aZ,aZ,DV aB (show 0+12+2<24 by decide) rfl,fD];exact aQm (O:=fun k=>if k=2 then O3 4 else O k) hym (w1 Ze) aB (by rw [aC hrt];exact rr2) ET hv rfl rfl (h1 c1)
 rw [bO c1,bE];show aJ PP .eql 5 (n8 e.kind) (n8 2) _;rw [IN];by_cases c2:e.kind=2
 ·rw [bI c2,bW,lA rp2,aZ,aZ,cT (o:=0+12+4) (v:= .list (O 4) (aD s.asked) s.asked.length) rt2 rfl,aZ,cT (o:=0+1) (v:= .int .i64 e.id) re2 rfl,aZ,cT (o:=0+3) (v:= .list (O' 3) (kW e.x) e.x.length) re2 rfl]
  obtain⟨x0,TQ,Wa,oP⟩:=QC.ask;have aUE:=QC.few;obtain⟨h2a,h2b⟩:=h2 c2;refine aQh (n:=n) (two:=two) hM hy (by omega) hsz.x oP ⟨TQ,Wa⟩ (fun ha=>?_) (fun ha t=>?_)
  ·refine dC (v:= .nil) rfl ?_
   refine dC (v:=ni (GB s.asked e.id e.x)) rfl ?_;rw [yB,bO ha,DB,bW,aZ];exact Zu (cs:=TZ two O O' s e) Ze rt2 rr2 ET hv rfl rfl (h2a ha)
  ·refine dC (v:= .list t (aD (s.asked++[(e.id,e.x)])) (s.asked++[(e.id,e.x)]).length) rfl ?_
   refine dC (v:=ni 0) rfl ?_;rw [yB,bI rfl,fL,bE,aZ,aZ,DV rt2 (show 0+12+4<24 by decide) rfl];exact aQm (O:=fun k=>if k=4 then t else O k) hym (w1 Ze) aB (by rw [aC hrt];exact rr2) ET hv rfl rfl (h2b ha)
 rw [bO c2,bE];show aJ PP .eql 5 (n8 e.kind) (n8 3) _;rw [IN];by_cases c3:e.kind=3
 ·rw [bI c3,bW,aZ,cT (o:=0+5) ro rfl,aZ,aZ,DV rt2 (show 0+12+3<24 by decide) rfl]
  exact aQm (O:=fun k=>if k=3 then O3 5 else O k) hym (w1 Ze) aB (by rw [aC hrt];exact rr2) ET hv rfl rfl (h3 c3)
 rw [bO c3,bE];have c4:e.kind=4:=by omega
 obtain⟨h4a,h4b⟩:=h4 c4;have hep:=UN.ep;rw [lA rp2,aZ,cT (o:=0+6) (v:= .list (O' 6) (ME e.gN) e.gN.length) re2 rfl];refine aNb (n:=n) (two:=two) hM hy h4a fun t=>?_;refine dC (v:= .list t (eL (PQ e.gN)) (PQ e.gN).length) rfl ?_;refine dC (v:=ni 0) rfl ?_;rw [yB,bI rfl,fL,bE,aZ,aZ,cT (o:=0+12+0) (v:=ni s.ep) rt2 rfl,bG (by omega),aZ,aZ,cT (o:=0+12+3) (v:= .list (O 3) (kW s.next) s.next.length) rt2 rfl,aZ,aZ,cT (o:=0+12+4) (v:= .list (O 4) (aD s.asked) s.asked.length) rt2 rfl];refine⟨rfl,cJ rfl,rfl,cJ rfl,rfl,cJ rfl,rfl,cJ rfl,?_⟩;show(aV 12 (.ptr bt 0) fun v73=>nI 5 v73 (.agg [ni (s.ep+1),.list (O 3) (kW s.next) s.next.length,.list t (eL (PQ e.gN)) (PQ e.gN).length,.nil,.list (O 4) (aD s.asked) s.asked.length]) S2 fun S=>jV y (.ptr r 0) (.ptr bt 0) S K);rw [aZ];unfold nI;simp only [rt2];refine⟨rfl,rfl,cJ rfl,?_⟩;exact aSx hym (w1 Ze) aB (by rw [aC hrt];exact rr2) ET hv rfl rfl h4b
theorem aTw (Pb:140737488355328<M) (hx:Deep PP bK gM M (n+14) x) (QC:Ek s) (UN:aBr s) (hsz:aBm e) (hK:∀O,K (.tuple [.agg (pK O (doF s e).1),ni (doF s e).2]) S):x.call BW [.agg (pv two),.agg (pK O s),.agg (XO O' e)] S K:=by
 have hM:1000000<M:=by omega
 refine hx.call aSw fun y hy=>?_;rw [aDG];unfold Qq;refine cC jN fun bp Oj=>?_;have dL:bU S (aL S bp (.row (pv two) 29)):= .aK Oj;have rp:aL S bp (.row (pv two) 29) bp=some (.row (pv two) 29):=aB;generalize aL S bp (.row (pv two) 29)=S1 at dL rp;refine cC PI fun bv hbv=>?_;have fO:bU S1 (aL S1 bv (.row (pK O s) 36)):= .aK hbv;have rv:aL S1 bv (.row (pK O s) 36) bv=some (.row (pK O s) 36):=aB;generalize aL S1 bv (.row (pK O s) 36)=S2 at fO rv;refine cC Ej fun be hbe=>?_;have pR:bU S2 (aL S2 be (.row (XO O' e) 42)):= .aK hbe;have re:aL S2 be (.row (XO O' e) 42) be=some (.row (XO O' e) 42):=aB;generalize aL S2 be (.row (XO O' e) 42)=S3 at pR re;refine cG (l:=[ni 0,.nil,.nil,.nil,.nil]) rfl fun r hr=>?_;have IS:bU S3 (aL S3 r (.row [ni 0,.nil,.nil,.nil,.nil] 36)):= .aK hr;have rr:aL S3 r (.row [ni 0,.nil,.nil,.nil,.nil] 36) r=some (.row [ni 0,.nil,.nil,.nil,.nil] 36):=aB;have ET:S r=none:=dL.none (fO.none (pR.none hr));generalize aL S3 r (.row [ni 0,.nil,.nil,.nil,.nil] 36)=S4 at IS rr;have EN:bU S S4:=((dL.trans fO).trans pR).trans IS;have rp4:=IS _ _ (pR _ _ (fO _ _ rp));have rv4:=IS _ _ (pR _ _ rv);have re4:=IS _ _ re;have lp:∀{K:KV},bR 12 (.ptr bp 0) S4 K=K (.agg (pv two)) S4:=lA rp4;have lv:∀{K:KV},bR 5 (.ptr bv 0) S4 K=K (.agg (pK O s)) S4:=fun {K}=>by rw [tE rv4,dR (cJ rfl)];rfl
 have le_:∀{K:KV},bR 7 (.ptr be 0) S4 K=K (.agg (XO O' e)) S4:=fun {K}=>by rw [tE re4,dR (cJ rfl)];rfl
 obtain⟨zl,Gi,Qv⟩:=aQl;rw [lp,lv,le_,le_,Zt,lv,El,lp,XP];refine⟨cG Gi fun _ _=>trivial,?_⟩;refine aMP (n:=n+10) hM hy UN fun O2z=>?_;rw [le_,Zt,lp,XP];refine aG0 (s:=s) (e:=e) (two:=two) ?_;rw [le_,Zt,lp,XP];refine⟨cG Gi fun _ _=>trivial,?_⟩;refine cG Gi fun bt hbt=>?_;refine iH (n:=24) (i:=bt) aB GY rfl Qv ?_;rw [fD];have EW:bU S4 (aL S4 bt (.row (TZ two O2z O' s e) 86)):= .aK hbt;have rt:aL S4 bt (.row (TZ two O2z O' s e) 86) bt=some (.row (TZ two O2z O' s e) 86):=aB;have ht0:S bt=none:=EN.none hbt;generalize aL S4 bt (.row (TZ two O2z O' s e) 86)=S5 at EW rt;have rp5:=EW _ _ rp4;have re5:=EW _ _ re4;have rr5:=EW _ _ rr;have hrt:r≠bt:=fun c=>by rw [c,hbt]at rr;cases rr
 have leB:=EN.trans EW;have lk:∀{K:KV},aW (.ptr be 0) S5 K=K (n8 e.kind) S5:=cT re5 rfl;rw [lA rp5];refine aEF (two:=two) hy ?_;rw [rC,fL,aE,aN,aY];dsimp only;rw [aE,aN,lk];dsimp only;rw [aE,aN];dsimp only;show aJ PP .lss 5 (n8 e.kind) (n8 1) _;rw [aQj]
 have bad:(e.kind<1\/4<e.kind)->doF s e=(s,4):=fun h=>by
  unfold doF;rw [aG (by omega),aG (by omega),aG (by omega),aG (by omega)]
 by_cases c1:e.kind<1
 ·rw [bI c1]
  simp only [aE,dI,dJ,sH,bW];rw [bad (.inl c1)]at hK;rw [aZ];exact Zu (w:=4) leB rt rr5 ET rfl rfl rfl hK
 rw [bO c1,aE,dJ,aE,aN,aY];dsimp only;rw [aE,aN,lk];dsimp only;rw [aE,aN];dsimp only;show aJ PP .gtr 5 (n8 e.kind) (n8 4) _;rw [aQk];by_cases c2:4<e.kind
 ·rw [bI c2]
  simp only [aE,dJ,bW];rw [bad (.inr c2)]at hK;rw [aZ];exact Zu (w:=4) leB rt rr5 ET rfl rfl rfl hK
 rw [bO c2,aE,dJ,bE,aY,lk];refine aMz (n:=n+12) hy (by omega) (by omega) fun j S6 UA rq=>?_;have rp6:=UA _ _ rp5;have re6:=UA _ _ re5;have rr6:=UA _ _ rr5;have rt6:=UA _ _ rt;have leC:=leB.trans UA;show lO y y.most (.ptr bp 0) (.ptr be 0) (.ptr r 0) (.ptr bt 0) (.own j 0 (qN e.kind) (qN e.kind)) (ni (qN e.kind)) (ni 0) S6 K;obtain⟨M',EM⟩:∃q,M=q+1+1+1+1:=⟨M-4,by omega⟩;rw [hy.most,EM];rw [EM]at hy hM Pb;have h12:(TZ two O2z O' s e)[12]? =some (ni s.ep):=rfl;have h15:(TZ two O2z O' s e)[15]? =some (.list (O2z 3) (kW s.next) s.next.length):=rfl;have h19:(TZ two O2z O' s e)[19]? =some (.int .i64 e.ep):=rfl;have h21:(TZ two O2z O' s e)[21]? =some (.list (O' 4) (eL e.fC) e.fC.length):=rfl;rcases(show e.kind=1\/e.kind=2\/e.kind=3\/e.kind=4 by omega)with k1 | k1 | k1 | k1
 ·rw [k1]at rq ⊢
  have hd:doF s e=if s.ep≠0 then(s,7)else if AV e.fC=false then(s,4)else({s with ep:=1,fC:=e.fC},0):=by unfold doF;rw [aO k1]
  refine Fp (k:=1) (p:=decide (s.ep=0)) (q:=2) rq rt6 rr6 rfl leC ET (by decide) (cJ rfl) rfl (by decide) (fun S2 K _ hk=>aPH (n:=n+12) hy GY h12 hk) (.refl _) (fun hp=>?_) fun hp S7 hs7=>?_
  ·rw [hd,aO (by simpa using hp)]at hK;exact hK
  have e0:¬s.ep≠0:=by simpa using hp
  refine Fp (k:=1) (p:=AV e.fC) (q:=2) rq rt6 rr6 rfl leC ET (by decide) (cJ rfl) rfl (by decide) (fun S2 K _ hk=>aPN (n:=n+1) (two:=two) (S0:=S2) hM hy GY Zr h21 .val (fun c hc=>(hsz.fC.2 c hc).1) hk) hs7 (fun hp=>?_) fun Iv S8 hs8=>?_
  ·rw [hd,aG e0,aO hp]at hK;exact hK
  rw [hd,aG e0,aG (by rw [Iv];decide)]at hK;exact aNc (n:=n+1) Pb hy (q:=2) rp6 re6 rt6 rr6 rfl leC ET ht0 hrt hsz UN QC hs8 (by omega) (fun _=>hK) (fun h=>by omega) (fun h=>by omega) (fun h=>by omega)
 ·rw [k1]at rq ⊢
  have hd:doF s e=if s.ep=0 then(s,7)else if GB s.asked e.id e.x=0 then({s with asked:=s.asked++[(e.id,e.x)]},0)else(s,GB s.asked e.id e.x):=by unfold doF;rw [aG (by omega),aO k1]
  refine Fp (k:=2) (p:=decide (0<s.ep)) (q:=1) rq rt6 rr6 rfl leC ET (by decide) (cJ rfl) rfl (by decide) (fun S2 K _ hk=>aKf (n:=n+12) hy GY h12 hk) (.refl _) (fun hp=>?_) fun hp S7 hs7=>?_
  ·rw [hd,aO (by simpa using hp)]at hK;exact hK
  have e0:¬s.ep=0:=by have:=of_decide_eq_true hp;omega
  rw [hd,aG e0]at hK;refine aNc (n:=n+1) Pb hy (q:=1) rp6 re6 rt6 rr6 rfl leC ET ht0 hrt hsz UN QC hs7 (by omega) (fun h=>by omega) (fun _=>⟨fun ha=>?_,fun ha=>?_⟩) (fun h=>by omega) (fun h=>by omega)
  ·rw [aG ha]at hK;exact hK
  ·rw [aO ha]at hK;exact hK
 ·rw [k1]at rq ⊢
  have hd:doF s e=if s.ep=0 then(s,7)else if ¬(s.next.length=0/\e.ep=s.ep)then(s,7)else if LL e.next=false then(s,4)else({s with next:=e.next},0):=by unfold doF;rw [aG (by omega),aG (by omega),aO k1]
  refine Fp (k:=3) (p:=decide (0<s.ep)) (q:=3) rq rt6 rr6 rfl leC ET (by decide) (cJ rfl) rfl (by decide) (fun S2 K _ hk=>aKf (n:=n+12) hy GY h12 hk) (.refl _) (fun hp=>?_) fun hp S7 hs7=>?_
  ·rw [hd,aO (by simpa using hp)]at hK;exact hK
  have e0:¬s.ep=0:=by have:=of_decide_eq_true hp;omega
  refine Fp (k:=3) (p:=decide (s.next.length=0)&&decide (e.ep=s.ep)) (q:=3) rq rt6 rr6 rfl leC ET (by decide) (cJ rfl) rfl (by decide) (fun S2 K _ hk=>aPK (n:=n+12) hy GY h12 h15 (fun k=>cZ) h19 hk) hs7 (fun Iv=>?_) fun Iv S8 hs8=>?_
  ·rw [hd,aG e0,aO (by simpa using Iv)]at hK;exact hK
  have e1:¬¬(s.next.length=0/\e.ep=s.ep):=not_not_intro (by simpa using Iv);refine Fp (k:=3) (p:=LL e.next) (q:=3) rq rt6 rr6 rfl leC ET (by decide) (cJ rfl) rfl (by decide) (fun S2 K _ hk=>aPY (n:=n+8) hM hy hsz.next hk) hs8 (fun hp3=>?_) fun hp3 S9 hs9=>?_
  ·rw [hd,aG e0,aG e1,aO hp3]at hK;exact hK
  rw [hd,aG e0,aG e1,aG (by rw [hp3];decide)]at hK;exact aNc (n:=n+1) Pb hy (q:=3) rp6 re6 rt6 rr6 rfl leC ET ht0 hrt hsz UN QC hs9 (by omega) (fun h=>by omega) (fun h=>by omega) (fun _=>hK) (fun h=>by omega)
 ·rw [k1]at rq ⊢
  have hd:doF s e=if ¬(0<s.next.length/\e.ep=s.ep)then(s,7)else if oR e.gN=false then(s,4)else if GT s.fC e.gN=false then(s,21)else(⟨s.ep+1,s.next,PQ e.gN,[],s.asked⟩,0):=by unfold doF;rw [aG (by omega),aG (by omega),aG (by omega),aO k1]
  refine Fp (k:=4) (p:=decide (0<s.next.length)&&decide (e.ep=s.ep)) (q:=3) rq rt6 rr6 rfl leC ET (by decide) (cJ rfl) rfl (by decide) (fun S2 K _ hk=>aPL (n:=n+12) hy GY h12 h15 (fun k=>cZ) h19 hk) (.refl _) (fun hp=>?_) fun hp S7 hs7=>?_
  ·rw [hd,aO (by simpa using hp)]at hK;exact hK
  have e0:¬¬(0<s.next.length/\e.ep=s.ep):=not_not_intro (by simpa using hp);refine Fp (k:=4) (p:=oR e.gN) (q:=3) rq rt6 rr6 rfl leC ET (by decide) (cJ rfl) rfl (by decide) (fun S2 K _ hk=>aGP (n:=n) hM hy hsz hk) hs7 (fun Iv=>?_) fun Iv S8 hs8=>?_
  ·rw [hd,aG e0,aO Iv]at hK;exact hK
  refine Fp (k:=4) (p:=GT s.fC e.gN) (q:=3) rq rt6 rr6 rfl leC ET (by decide) (cJ rfl) rfl (by decide) (fun S2 K _ hk=>aKE (n:=n+7) hM hy UN Iv hsz hk) hs8 (fun hp3=>?_) fun hp3 S9 hs9=>?_
  ·rw [hd,aG e0,aG (by rw [Iv];decide),aO hp3]at hK;exact hK
  rw [hd,aG e0,aG (by rw [Iv];decide),aG (by rw [hp3];decide)]at hK;exact aNc (n:=n+1) Pb hy (q:=3) rp6 re6 rt6 rr6 rfl leC ET ht0 hrt hsz UN QC hs9 (by omega) (fun h=>by omega) (fun h=>by omega) (fun h=>by omega) (fun _=>⟨Iv,hK⟩)
end
end Go.Am
set_option maxRecDepth 4000
namespace Go.Am
open Go.Proofs.OG Go.Mq
def jS (S:Hp) (t:Nat) (s:BitVec 64) (ah:List Nat) (d:Nat):Prop:=∃w,S t=some (.row [vb s,w,ni d] 140)/\Ah (fun _=>none) w ah
section
variable{M n t d:Nat}{x:VE}{K:KV}{s:BitVec 64}{ah:List Nat}
theorem jS.mF{S S':Hp} (h:jS S t s ah d) (hs:∀j o,S j=some o->(∀vs m,o≠ .gD vs 51 m)->S' j=some o):jS S' t s ah d:=by
 obtain⟨w,h1,h2⟩:=h;exact⟨w,hs _ _ h1 (fun vs m c=>by cases c),h2⟩
theorem jS.aE6{S S':Hp}{el:TypeId} (he:el≠22) (h:jS S t s ah d) (hs:∀j o,S j=some o->(∀vs m,o≠ .gD vs el m)->S' j=some o):jS S' t s ah d:=by
 obtain⟨w,h1,h2⟩:=h;exact⟨w,hs _ _ h1 (fun vs m c=>by cases c),h2⟩
theorem jS.at{S S':Hp} (h:jS S t s ah d) (hs:S' t=S t):jS S' t s ah d:=by
 obtain⟨w,h1,h2⟩:=h;exact⟨w,by rw [hs];exact h1,h2⟩
theorem aDz{t:Nat}:del (fun _=>none) t=(fun _=>none):=by funext i;unfold del;split<;>rfl
theorem aJ7{S:Hp} (hM:2<M) (hx:Deep PP bK gM M (n+2) x) (h:jS S t s ah d) (hd:d<1000000) (hK:∀S' a s' SU,Bf S S' t->jS S' t s' SU (d+1)->(∀k,drawn (k+1) ah s=a::drawn k SU s')->K (nu a) S'):x.call dF [.ptr t 0,nu 11] S K:=by
 have h':aIE (fun _=>none) S t s ah d:=by
  obtain⟨w,h1,h2⟩:=h;exact⟨w,h1,by rw [aDz];exact h2⟩
 refine aRg hM hx h' (fun i o e=>by rw [aDz]at e;cases e) hd fun S' a s' SU b _ tp h1 _=>hK S' a s' SU b ?_ h1;obtain⟨w,h1,h2⟩:=tp;exact⟨w,h1,by rw [aDz]at h2;exact h2⟩
theorem aGI (hM:100000<M) (hx:Deep PP bK gM M (n+3) x){S0:Hp}{N X:Nat}{sd:BitVec 64}{AH:List Nat} (hN:N<1000) (hd:d+N<1000000)
 (hK:∀S v s' SU,bU (del S0 t) S->jS S t s' SU (d+N)->MN (del S0 t) S v (X%11::drawn N AH sd)->(∀k,drawn (N+k) AH sd=drawn N AH sd++drawn k SU s')->bF v S K):
 ∀(r i m:Nat) (S:Hp) (v:V) (s:BitVec 64) (ah l:List Nat),i+r=N->r<m->bU (del S0 t) S->jS S t s ah (d+i)->MN (del S0 t) S v (X%11::l)->l.length=i->(∀k,drawn (i+k) AH sd=l++drawn k ah s)->
  oS x m (nu 11) (.func dF [.ptr t 0] []) v (ni N) (ni i) S K:=by
 intro r;induction r with
 | zero=>
  intro i m S v s ah l hi hm hle htp hm0 hl he;obtain⟨m,rfl⟩:=bH (show m≠0 by omega);rw [HM];unfold yH;refine aF ?_;rw [aQ,jM (by omega),bE];have e:i=N:=by omega
  subst e;have e0:l=drawn i AH sd:=by have:=he 0;simp [drawn]at this;exact this.symm
  subst e0;exact hK S v s ah hle htp hm0 he
 | succ r ih=>
  intro i m S v s ah l hi hm hle htp hm0 hl he;obtain⟨m,rfl⟩:=bH (show m≠0 by omega);rw [HM];unfold yH;refine aF ?_;rw [aQ,zJ (by omega),bW];show x.call dF [.ptr t 0,nu 11] S _;refine aJ7 (by omega) hx htp (by omega) fun S1 a s1 ah1 b1 tp1 h1=>?_
  have dL:bU (del S0 t) S1:=fun j o e=>by
   have hj:j≠t:=fun c=>by rw [c,LD]at e;cases e
   rw [b1 j hj];exact hle j o e
  obtain⟨w,q1,q2⟩:=htp;have m1:MN (del S0 t) S1 v (X%11::l):=hm0.but (fun j o hj e=>by rw [b1 j hj];exact e) q1 (fun vs m e=>by cases e) (fun vs e=>by cases e);refine m1.app dL (by simp;omega) fun v2 S2 fO p2 m2=>?_;rw [bG (by omega)];obtain⟨w1,q3,q4⟩:=tp1;refine ih (i+1) m S2 v2 s1 ah1 (l++[a]) (by omega) (by omega) fO ⟨w1,p2 _ _ q3 (fun vs m e=>by cases e),q4⟩ m2 (by simp [hl]) fun k=>?_;have e1:=he (k+1);rw [h1 k]at e1;rw [show i+1+k=i+(k+1)by omega,e1];simp
theorem Qb (hM:100000<M) (hx:Deep PP bK gM M (n+4) x){S:Hp}{N X:Nat} (hX:EQ X) (hN:N<1000) (hd:d+N<1000000) (h:jS S t s ah d)
 (hK:∀S' s' SU,Bf S S' t->jS S' t s' SU (d+N)->(∀k,drawn (N+k) ah s=drawn N ah s++drawn k SU s')->∀O,K (.list O (kK (X%11::drawn N ah s)) (X%11::drawn N ah s).length) S'):x.call sG [nu X,ni N,nu 11,.func dF [.ptr t 0] []] S K:=by
 refine hx.call aID fun y hy=>?_;rw [Sm];unfold ZN;rw [YZ (by decide)];refine⟨rfl,by simp,fun j hj=>?_⟩;obtain⟨w0,hw0,_⟩:=id h;have hjt:j≠t:=gF hj hw0;show oS y y.most (nu 11) _ (.own j 0 1 1) (ni N) (ni 0) (aL S j (.row [nu (X%11)] 22)) K;rw [hy.most];have le0:bU (del S t) (aL S j (.row [nu (X%11)] 22)):=(Xs).trans (.aK hj);obtain⟨w,q1,q2⟩:=h;refine aGI (AH:=ah) (sd:=s) hM hy hN hd (fun S2 v s2 ah2 fO tp2 m2 h2=>?_) N 0 M _ _ s ah [] (by omega) (by omega) le0 ⟨w,by rw [aC (aP hjt)];exact q1,q2⟩ (.own (l:=[X%11]) (by rw [RC hjt];exact hj) aB) rfl (fun k=>by simp);obtain⟨w2,q3,q4⟩:=tp2;have leT:=Hf fO;have mT:=m2.pS q3 (fun vs m e=>by cases e) (fun vs e=>by cases e);refine gP leT mT.Bd (hK _ s2 ah2 (fun i hi=>AP hi) ⟨w2,by rw [WG];exact q3,q4⟩ h2)
end
set_option maxRecDepth 4000
theorem aGJ{S S3:Hp}{t i el:Nat}{vs us:List V}{m q:Nat} (l:bU (pS S S3 t) S3) (h:S3 i=some (.gD vs el m)) (q8:S3 t=some (.row us q)) (h0:del S t i=none):pS S S3 t i=none:=by
 have hi:i≠t:=fun c=>by rw [c,q8]at h;cases h
 rw [AP hi];rw [RC hi]at h0;exact h0
section
variable{M n:Nat}{x:VE}{S S0:Hp}{K:KV}{two:Bool}{t d:Nat}{s:BitVec 64}{ah:List Nat}
theorem aNI (hM:100000<M) (hx:Deep PP bK gM M (n+5) x){X:Nat} (hX:EQ X) (hd:d+1000<1000000) (h:jS S t s ah d)
 (hK:∀S' s' SU,Bf S S' t->jS S' t s' SU (d+tQ two)->(∀k,drawn (tQ two+k) ah s=drawn (tQ two) ah s++drawn k SU s')->∀O,K (.list O (eL (AQ (tT two+1) (X%11::drawn (tQ two) ah s))) (tT two+1)) S'):
 x.call FX [.agg (pv two),nu X,.func dF [.ptr t 0] []] S K:=by
 have hT:tT two<=2:=by cases two<;>decide
 have hT1:1<=tT two:=by cases two<;>decide
 have hQ:tQ two<9:=by cases two<;>decide
 refine hx.call aRj fun y hy=>?_;rw [aDA];unfold Qc;obtain⟨w0,hw0,_⟩:=id h;refine cC jN fun p hp=>?_;have Tt:p≠t:=gF hp hw0;have dL:bU S (aL S p (.row (pv two) 29)):= .aK hp;have rp:aL S p (.row (pv two) 29) p=some (.row (pv two) 29):=aB;have oth:∀j,j≠p->aL S p (.row (pv two) 29) j=S j:=fun j hj=>aC hj;have h1:jS (aL S p (.row (pv two) 29)) t s ah d:=h.mF fun j o e _=>dL _ _ e;generalize aL S p (.row (pv two) 29)=S1 at dL rp oth h1;have e6:(pv two)[6]? =some (ni (tT two)):=rfl;have e1:(pv two)[1]? =some (nu 11):=rfl;have hmul:(tT two+1)*(tT two+1)<=9:=by cases two<;>decide
 have aRP:1<=(tT two+1)*(tT two+1):=by cases two<;>decide
 rw [aY,cT rp e6,bG (by omega),Be (by omega),Xt aRP (by omega),aY,cT rp e1];refine Qb (n:=n) hM hy hX (show tQ two<1000 by omega) (by omega) h1 fun S2 s2 ah2 aBR tp2 dr2 O=>?_;generalize hl:X%11::drawn ((tT two+1)*(tT two+1)-1) ah s=l;have Qw:X%11::drawn (tQ two) ah s=l:=hl;have hll:l.length=(tT two+1)*(tT two+1):=by rw [<-hl,oX,wG];omega
 have FN:(X%11::drawn (tQ two) ah s).length=l.length:=by rw [Qw]
 show vMk 51 24 [(.slice none 0 0)] (ni (tT two+1)) (ni (tT two+1)) S2 _;refine⟨bQ _,by omega,by omega,fun r hr=>?_⟩;have hz:(List.replicate (tT two+1) [V.nil]).flatten=List.replicate (tT two+1) V.nil:=by cases two<;>rfl
 show bP (.own r 0 (tT two+1) (tT two+1)) fun v10=>mX y y.most (ni (tT two+1)) _ (.own r 0 (tT two+1) (tT two+1)) v10 (ni 0) (aL S2 r (.row (List.replicate (tT two+1) [V.nil]).flatten 51)) K;rw [hz,hy.most];show mX y M (ni (tT two+1)) (.list O (kK l) l.length) (.own r 0 (tT two+1) (tT two+1)) (ni (tT two+1)) (ni 0) (aL S2 r (.row (List.replicate (tT two+1) V.nil) 51)) K;have fO:bU S2 (aL S2 r (.row (List.replicate (tT two+1) V.nil) 51)):= .aK hr
 have go:∀(k i m:Nat) (S3:Hp) (vs:List V),i+k=tT two+1->k<m->bU S2 S3->S3 r=some (.row vs 51)->vs.length=tT two+1->(∀j,j<i->∃t,vs[j]? =some (.list t (kK ((l.drop (j*(tT two+1))).take (tT two+1))) (tT two+1)))->
  mX y m (ni (tT two+1)) (.list O (kK l) l.length) (.own r 0 (tT two+1) (tT two+1)) (ni (tT two+1)) (ni i) S3 K:=by
  intro k;induction k with
  | zero=>
   intro i m S3 vs hi hm pR r3 KL hv;obtain⟨m,rfl⟩:=bH (show m≠0 by omega);rw [IY];unfold AF;refine aF ?_;rw [aQ,bO (by omega),bE];obtain⟨w2,q3,q4⟩:=tp2
   have hrS:S r=none:=by
    cases e:S r with
    | none=>rfl
    | some o=>
     have hrt:r≠t:=gF hr q3;have:=aBR r hrt;rw [hr,dL _ _ e]at this;cases this
   have leT:bU (pS S S3 t) S3:=fun i o e=>by
    unfold pS at e;by_cases hi:i=t
    ·subst hi;rw [aO rfl]at e;exact e
    ·rw [aG hi]at e
     exact pR _ _ (by rw [aBR i hi];exact dL _ _ e)
   have ht3:S3 t=some (.row [vb s2,w2,ni (d+((tT two+1)*(tT two+1)-1))] 140):=pR _ _ q3
   refine gP leT (cs:=eL (AQ (tT two+1) l)) (.own r3 (by rw [AP (gF hr q3)];exact hrS) (bQ _) (by rw [KL];unfold eL;rw [mE,Hg];omega) fun j v dd x1 x2=>?_) (by
    have hk:=hK (pS S S3 t) s2 ah2 (fun i hi=>AP hi) ⟨w2,by rw [WG];exact ht3,q4⟩ dr2;rw [Qw]at hk;exact hk)
   rw [eJ]at x1;have hj:j<tT two+1:=by have:=(List.getElem?_eq_some_iff.1 x1).1;omega
   obtain⟨t3,e3⟩:=hv j (by omega);rw [x1]at e3;injection e3 with e3;subst e3
   have hd2:(eL (AQ (tT two+1) l))[j]? =some (.list (kK ((l.drop (j*(tT two+1))).take (tT two+1))) (tT two+1)):=by
    unfold eL AQ;rw [eH,eH,ZX hj]
    have hlen:((l.drop (j*(tT two+1))).take (tT two+1)).length=tT two+1:=by
     rw [mU,IA,hll];have:(j+1)*(tT two+1)<=(tT two+1)*(tT two+1):=QD _ hj;rw [Ai]at this;omega
    simp only [DA,hlen]
   rw [hd2]at x2;injection x2 with x2;subst x2;exact .list
  | succ k ih=>
   intro i m S3 vs hi hm pR r3 KL hv;obtain⟨m,rfl⟩:=bH (show m≠0 by omega);rw [IY];unfold AF;refine aF ?_;have Qx:i<tT two+1:=by omega
   have By:(i+1)*(tT two+1)<=(tT two+1)*(tT two+1):=QD _ Qx;have MP:i*(tT two+1)<(i+1)*(tT two+1):=by rw [Ai];omega
   have hb3:(i+1)*(tT two+1)-i*(tT two+1)=tT two+1:=by rw [Ai];omega
   rw [aQ,bI Qx,bW,Be (by omega),bG (by omega),Be (by omega),bG (by omega),Be (by omega)];refine⟨Nat.le_of_lt MP,bQ _,by rw [hll];exact By,MP,by rw [kX,GP,hll];exact By,?_⟩;rw [hb3,kX,kX,aIF,aIG];refine⟨Qx,?_⟩;refine MX r3 rfl (by omega) ?_;rw [bG (by omega),FU (by omega)];refine ih (i+1) m _ _ (by omega) (by omega) (fun j o e=>by rw [aC (fun c=>by rw [c,hr]at e;cases e)];exact pR _ _ e) aB (by rw [ZZ];exact KL) fun j hj=>?_;rw [show 0+i*1=i by omega];by_cases Zx:j=i
   ·subst Zx
    exact⟨_,by rw [UB (by omega)]⟩
   ·obtain⟨t3,e3⟩:=hv j (by omega)
    exact⟨t3,by rw [HX (aP Zx)];exact e3⟩
 exact go (tT two+1) 0 M _ _ (by omega) (by omega) fO aB (by rw [JZ]) (fun j hj=>by omega)
theorem aJ9 (hM:1000000<M) (hx:Deep PP bK gM M (n+21) x){bp bd N:Nat}{SB:Hp}{O:Tag}{L:List (Nat×Nat)} (hL:L.length<1000) (aPy:∀p∈L,EQ p.1/\EQ p.2){AH:List Nat}{sd:BitVec 64}
 {DE:Nat} (hK:∀S v w,bU SB S->(∃s' SU,jS S t s' SU DE)->S bp=some (.row (pv two) 29)->S bd=some (.row [.nil,.nil,.nil] 79)->GL 33 SB S v (mD (fM (tT two+1) (tQ two) L (drawn ((tQ two+tQ two)*L.length) AH sd)))->GL 33 SB S w (mD (bM (tT two+1) (tQ two) L (drawn ((tQ two+tQ two)*L.length) AH sd)))->
  (bR 12 (.ptr bp 0) S fun wH S=>x.call bN [wH,v,w] S fun vC S=>cS [(.slice none 0 0),(.slice none 0 0),(.slice none 0 0)] [(0,1,vC)] fun yI=>dQ [(.slice none 0 0),(.slice none 0 0),(.slice none 0 0)] 79 S fun v20 S=>nI 3 v20 yI S fun S=>gG x x.most (ni N) (.ptr bp 0) (.ptr bd 0) v w v20 (.int .u64 (.ofNat 1)) S K)):
 ∀(r i m:Nat) (S:Hp) (v w:V) (s:BitVec 64) (ah:List Nat) (F B:List (List (List Nat))),i+r=L.length->r<m->bU SB S->S bp=some (.row (pv two) 29)->S bd=some (.row [.nil,.nil,.nil] 79)->SB t=none->d+100*L.length<500000->DE=d+(tQ two+tQ two)*L.length->jS S t s ah (d+(tQ two+tQ two)*i)->GL 33 SB S v (mD F)->GL 33 SB S w (mD B)->(∀j m m',v= .acc j m->w≠ .acc j m')->F.length=i->B.length=i->
  F++fM (tT two+1) (tQ two) (L.drop i) (drawn ((tQ two+tQ two)*r) ah s)=fM (tT two+1) (tQ two) L (drawn ((tQ two+tQ two)*L.length) AH sd)->B++bM (tT two+1) (tQ two) (L.drop i) (drawn ((tQ two+tQ two)*r) ah s)=bM (tT two+1) (tQ two) L (drawn ((tQ two+tQ two)*L.length) AH sd)->
  vE x m (ni N) (.ptr t 0) (.ptr bp 0) (.ptr bd 0) v w (.list O (pds L) L.length) (ni L.length) (ni i) S K:=by
 have hQ:tQ two<9:=by cases two<;>decide
 intro r;induction r with
 | zero=>
  intro i m S v w s ah F B hi hm le rp rd nt hd hDE tp gv gw ap hF hB eF eB;obtain⟨m,rfl⟩:=bH (show m≠0 by omega);rw [IZ];unfold AG;refine aF ?_;rw [aQ,jM (by omega),bE];rw [Vf (by omega)]at eF eB;have eF:F++[]=_:=eF;have eB:B++[]=_:=eB;rw [FD]at eF eB;rw [eF]at gv;rw [eB]at gw;exact hK S v w le ⟨s,ah,by rw [hDE,<-show i=L.length by omega];exact tp⟩ rp rd gv gw
 | succ r ih=>
  intro i m S v w s ah F B hi hm le rp rd nt hd hDE tp gv gw ap hF hB eF eB;obtain⟨m,rfl⟩:=bH (show m≠0 by omega);rw [IZ];unfold AG;refine aF ?_;have IQ:i<L.length:=by omega
  obtain⟨g1,g2⟩:=aOP (l:=L) (i:=i) (a:=L[i].1) (b:=L[i].2) (aT IQ);obtain⟨t1,t2⟩:=aOQ g1 g2;obtain⟨aTA,aTB⟩:=aPy _ (cO IQ);rw [aQ,zJ IQ,bW,jL IQ,RJ,dR t1,t2];show dQ [(.int .u64 (.ofNat 0)),(.int .u64 (.ofNat 0))] 145 S fun v3 S=>nI 2 v3 (.agg [nu L[i].1,nu L[i].2]) S _;refine cG (l:=[nu 0,nu 0]) rfl fun k hk=>?_;refine iH (n:=2) (i:=k) aB rfl rfl rfl ?_;rw [fD];have rk:aL S k (.row [nu L[i].1,nu L[i].2] 145) k=some (.row [nu L[i].1,nu L[i].2] 145):=aB;have dL:bU S (aL S k (.row [nu L[i].1,nu L[i].2] 145)):= .aK hk;generalize aL S k (.row [nu L[i].1,nu L[i].2] 145)=S1 at rk dL;have tp1:jS S1 t s ah (d+(tQ two+tQ two)*i):=tp.aE6 (el:=33) (by decide) fun j o e _=>dL _ _ e;obtain⟨w0,hw0,_⟩:=id tp1;have hkt:k≠t:=fun c=>by rw [c,hw0]at rk;injection rk with rk;injection rk with _ rk;cases rk
  have Tt:bp≠t:=fun c=>by have:=dL _ _ rp;rw [c,hw0]at this;injection this with this;injection this with _ this;cases this
  have hdt:bd≠t:=fun c=>by have:=dL _ _ rd;rw [c,hw0]at this;injection this with this;injection this with _ this;cases this
  have aUx:(tQ two+tQ two)*i<=20*L.length:=by
   have:(tQ two+tQ two)*i<=20*i:=QD _ (by omega);omega
  rw [lA (dL _ _ rp),aY,cT rk rfl];refine aNI (n:=n+16) (by omega) hx aTA (by omega) tp1 fun S2 s2 ah2 aBR tp2 dr2 Oa=>?_;have lB1:bU SB S1:=le.trans dL
  have aRQ:∀{v:V} {ds:List Dt},GL 33 SB S v ds->GL 33 SB S2 v ds:=fun {v ds} g=>(g.up dL).but fun j vs m e=>by
   rw [aBR j (fun c=>by rw [c,hw0]at e;injection e with e;cases e)];exact e
  have lB2:bU SB S2:=fun j o e=>by rw [aBR j (fun c=>by rw [c,nt]at e;cases e)];exact lB1 _ _ e
  have gv2:=aRQ gv;have gw2:=aRQ gw;have rp2:S2 bp=some (.row (pv two) 29):=by rw [aBR _ Tt];exact dL _ _ rp
  have rd2:S2 bd=some (.row [.nil,.nil,.nil] 79):=by rw [aBR _ hdt];exact dL _ _ rd
  have rk2:S2 k=some (.row [nu L[i].1,nu L[i].2] 145):=by rw [aBR _ hkt];exact rk
  have hmF:(mD F).length<=1000000:=by rw [RG];omega
  have hmB:(mD B).length<=1000000:=by rw [RG];omega
  refine gv2.app (t:=Oa) (d:= .list (eL (AQ (tT two+1) (L[i].1%11::drawn (tQ two) ah s))) (tT two+1)) (z:= .slice none 0 0) (zv:= .nil) lB2 hmF rfl (by decide) fun v3 S3 pR p3 o3 gv3=>?_
  have q3:∀{j:Nat} {o:Ob},S2 j=some o->(∀vs m,o≠ .gD vs 33 m)->S3 j=some o:=fun {j o} e xL=>p3 _ _ e fun m c=>by
   obtain⟨vs,n,e2⟩:=gv2.there c;rw [e]at e2;injection e2 with e2;exact xL _ _ e2
  have Ju:=q3 rp2 (fun vs m e=>by cases e);have rd3:=q3 rd2 (fun vs m e=>by cases e);have rk3:=q3 rk2 (fun vs m e=>by cases e);have tp3:=tp2.aE6 (el:=33) (by decide) (S':=S3) fun j o e xL=>q3 e xL;have gw3:GL 33 SB S3 w (mD B):=gw2.mF p3 fun j m m' e c=>ap j m' m c e
  have ap3:∀j m m',v3= .acc j m->w≠ .acc j m':=fun j m m' e c=>by
   rcases o3 j m e with ⟨m2,e2⟩ | e2
   ·exact ap j m2 m' e2 c
   ·obtain⟨vs,n,e4⟩:=gw2.there c
    rw [e2]at e4;cases e4
  rw [lA Ju,aY,cT rk3 rfl];obtain⟨w1,hw1,_⟩:=id tp3;refine aNI (n:=n+16) (by omega) hx aTB (by omega) tp3 fun S4 s4 ah4 aMq tp4 dr4 Obz=>?_
  have aRR:∀{v:V} {ds:List Dt},GL 33 SB S3 v ds->GL 33 SB S4 v ds:=fun {v ds} g=>g.but fun j vs m e=>by
   rw [aMq j (fun c=>by rw [c,hw1]at e;injection e with e;cases e)];exact e
  have lB4:bU SB S4:=fun j o e=>by rw [aMq j (fun c=>by rw [c,nt]at e;cases e)];exact pR _ _ e
  have gv4:=aRR gv3;have gw4:=aRR gw3;have rp4:S4 bp=some (.row (pv two) 29):=by rw [aMq _ Tt];exact Ju
  have rd4:S4 bd=some (.row [.nil,.nil,.nil] 79):=by rw [aMq _ hdt];exact rd3
  refine gw4.app (t:=Obz) (d:= .list (eL (AQ (tT two+1) (L[i].2%11::drawn (tQ two) ah2 s2))) (tT two+1)) (z:= .slice none 0 0) (zv:= .nil) lB4 hmB rfl (by decide) fun w5 S5 EW p5 o5 gw5=>?_
  have q5:∀{j:Nat} {o:Ob},S4 j=some o->(∀vs m,o≠ .gD vs 33 m)->S5 j=some o:=fun {j o} e xL=>p5 _ _ e fun m c=>by
   obtain⟨vs,n,e2⟩:=gw4.there c;rw [e]at e2;injection e2 with e2;exact xL _ _ e2
  have gv5:=gv4.mF p5 fun j m m' e c=>ap3 j m m' e c
  have ap5:∀j m m',v3= .acc j m->w5≠ .acc j m':=fun j m m' e c=>by
   rcases o5 j m' c with ⟨m2,e2⟩ | e2
   ·exact ap3 j m m2 e e2
   ·obtain⟨vs,n,e4⟩:=gv4.there e
    rw [e2]at e4;cases e4
  rw [bG (by omega)];have hd2:L.drop i=L[i]::L.drop (i+1):=mB IQ
  have edr:drawn ((tQ two+tQ two)*(r+1)) ah s=drawn (tQ two) ah s++(drawn (tQ two) ah2 s2++drawn ((tQ two+tQ two)*r) ah4 s4):=by
   rw [show(tQ two+tQ two)*(r+1)=tQ two+(tQ two+(tQ two+tQ two)*r)by rw [Aj];omega,dr2,dr4]
  have Zy:(drawn (tQ two) ah s).length=tQ two:=wG _ _ _;have FN:(drawn (tQ two) ah2 s2).length=tQ two:=wG _ _ _;rw [edr,hd2]at eF eB
  have c1:(drawn (tQ two) ah s++(drawn (tQ two) ah2 s2++drawn ((tQ two+tQ two)*r) ah4 s4)).take (tQ two)=drawn (tQ two) ah s:=by
   rw [List.take_append_of_le_length (by omega),mC (by omega)]
  have c2:(drawn (tQ two) ah s++(drawn (tQ two) ah2 s2++drawn ((tQ two+tQ two)*r) ah4 s4)).drop (tQ two)=drawn (tQ two) ah2 s2++drawn ((tQ two+tQ two)*r) ah4 s4:=by
   rw [List.drop_append_of_le_length (by omega),oW (by omega),Ab]
  have c3:(drawn (tQ two) ah2 s2++drawn ((tQ two+tQ two)*r) ah4 s4).take (tQ two)=drawn (tQ two) ah2 s2:=by
   rw [List.take_append_of_le_length (by omega),mC (by omega)]
  have c4:(drawn (tQ two) ah s++(drawn (tQ two) ah2 s2++drawn ((tQ two+tQ two)*r) ah4 s4)).drop (tQ two+tQ two)=drawn ((tQ two+tQ two)*r) ah4 s4:=by
   rw [<-Ac,c2,List.drop_append_of_le_length (by omega),oW (by omega),Ab]
  rw [aEM,c1,c4]at eF;rw [aEN,c2,c3,c4]at eB;have rl1:∀l,(AQ (tT two+1) l).length=tT two+1:=fun l=>Hg _ _;refine ih (i+1) m S5 v3 w5 s4 ah4 (F++[AQ (tT two+1) (L[i].1%11::drawn (tQ two) ah s)]) (B++[AQ (tT two+1) (L[i].2%11::drawn (tQ two) ah2 s2)]) (by omega) (by omega) EW (q5 rp4 fun vs m e=>by cases e) (q5 rd4 fun vs m e=>by cases e) nt hd hDE ?_ ?_ ?_ ap5 (by simp [hF]) (by simp [hB]) ?_ ?_
  ·have:=tp4.aE6 (el:=33) (by decide) (S':=S5) fun j o e xL=>q5 e xL
   rw [uP,uP]at this;rw [Aj];exact this
  ·have:mD (F++[AQ (tT two+1) (L[i].1%11::drawn (tQ two) ah s)])=mD F++[.list (eL (AQ (tT two+1) (L[i].1%11::drawn (tQ two) ah s))) (tT two+1)]:=by rw [Xy];show _++[Dt.list _ _]=_;rw [rl1]
   rw [this];exact gv5
  ·have:mD (B++[AQ (tT two+1) (L[i].2%11::drawn (tQ two) ah2 s2)])=mD B++[.list (eL (AQ (tT two+1) (L[i].2%11::drawn (tQ two) ah2 s2))) (tT two+1)]:=by rw [Xy];show _++[Dt.list _ _]=_;rw [rl1]
   rw [this];exact gw5
  ·rw [BH];exact eF
  ·rw [BH];exact eB
theorem aPg (hM:1000000<M) (hx:Deep PP bK gM M (n+22) x){O:Tag}{L:List (Nat×Nat)} (hL:L.length=2) (aPy:∀p∈L,EQ p.1/\EQ p.2){dd:Nat} (hdd:dd<400000) (h:jS S t s ah dd)
 (hK:∀D Sb S' vr vc t1,Bf S Sb t->(∃s' SU,jS Sb t s' SU (dd+(tQ two+tQ two)*L.length))->D=drawn ((tQ two+tQ two)*L.length) ah s->bU Sb S'->GG Sb S' vr (RS (tT two+1) (tN two) (fT two L D) (bT two L D))->GG Sb S' vc (CS (tT two+1) (tN two) (fT two L D) (bT two L D))->
  K (.tuple [.agg [.list t1 (mD (tH (fT two L D) (bT two L D))) (tH (fT two L D) (bT two L D)).length,vr,vc],ni 0]) S'):
 x.call rU [.agg (pv two),.list O (pds L) L.length,ni (tN two),.ptr t 0] S K:=by
 have hQ:tQ two<9:=by cases two<;>decide
 have hT:tT two<=2:=by cases two<;>decide
 have hN:tN two<=7:=by cases two<;>decide
 have hN1:1<=tN two:=by cases two<;>decide
 have hQQ:tQ two+1=(tT two+1)*(tT two+1):=by cases two<;>rfl
 refine hx.call aOY fun y hy=>?_;rw [aBS];unfold Ji;obtain⟨w0,hw0,_⟩:=id h;refine cC jN fun p hp=>?_;have Tt:p≠t:=gF hp hw0;have dL:bU S (aL S p (.row (pv two) 29)):= .aK hp;have rp:aL S p (.row (pv two) 29) p=some (.row (pv two) 29):=aB;generalize aL S p (.row (pv two) 29)=S1 at dL rp;refine cG (l:=[.nil,.nil,.nil]) rfl fun bd hbd=>?_;have hdt:bd≠t:=gF hbd (dL _ _ hw0);have fO:bU S1 (aL S1 bd (.row [.nil,.nil,.nil] 79)):= .aK hbd;have rd:aL S1 bd (.row [.nil,.nil,.nil] 79) bd=some (.row [.nil,.nil,.nil] 79):=aB;generalize aL S1 bd (.row [.nil,.nil,.nil] 79)=S2 at fO rd;have rp2:=fO _ _ rp;have aRS:=dL.trans fO;rw [lA rp2];refine aEF (two:=two) hy ?_;rw [rC,fL,aE,aN];dsimp only;rw [aE,aN];dsimp only;rw [cZ,aE,aN,lA rp2];dsimp only;rw [aE,aN];dsimp only;refine Uj (n:=n+20) (two:=two) hy ?_;rw [aE,aN];dsimp only;rw [yB,bI hL,fL,aE,dJ,aE,aN];dsimp only;rw [aE,aN];dsimp only;rw [aQ,bO (by omega),aE,dJ,aE,aN];dsimp only;rw [aE,aN];dsimp only;rw [uX,bO (by omega),aE,dJ,bE,cZ,hy.most];have aTC:del S t t=none:=by unfold del;rw [aO rfl]
 have leB:bU (del S t) S2:=Xs.trans aRS;have hp0:del S t p=none:=by rw [RC Tt];exact hp
 have aRT:del S t bd=none:=by rw [RC hdt];exact dL.none hbd
 have tp2:jS S2 t s ah (dd+(tQ two+tQ two)*0):=h.aE6 (el:=33) (by decide) fun j o e _=>aRS _ _ e;refine aJ9 (n:=n) (t:=t) (d:=dd) (DE:=dd+(tQ two+tQ two)*L.length) (N:=tN two) (SB:=del S t) (L:=L) (AH:=ah) (sd:=s) hM hy (by rw [hL];decide) aPy (fun S3 v w pR htE Ju rd3 gv gw=>?_) L.length 0 M S2 .nil .nil s ah [] [] (by omega) (by rw [hL];omega) leB rp2 rd aTC (by rw [hL];omega) rfl tp2 .nil .nil (fun j m m' e=>by cases e) rfl rfl rfl rfl;obtain⟨s8,ah8,w8,q8,u8⟩:=htE;have leT:bU (pS S S3 t) S3:=Hf pR
 have gT:∀{v:V} {ds:List Dt},GL 33 (del S t) S3 v ds->GL 33 (pS S S3 t) S3 v ds:=fun {v ds} g=>by
  cases g with
  | nil=>exact .nil
  | acc h0 h hl hv=>exact .acc (aGJ leT h q8 h0) h hl hv
 replace gv:=gT gv
 replace gw:=gT gw
 have hp0:pS S S3 t p=none:=by rw [AP Tt];exact hp
 have aRT:pS S S3 t bd=none:=by rw [AP hdt];exact dL.none hbd
 have pR:=leT;generalize hD:drawn ((tQ two+tQ two)*L.length) ah s=D at gv gw hK;have hDl:D.length=(tQ two+tQ two)*L.length:=by rw [<-hD];exact wG _ _ _
 have hDc:∀c∈D,c<11:=by rw [<-hD];exact PC _ _ _
 obtain⟨sqf,sqb⟩:=aIY (n:=tT two+1) (Q:=tQ two) hQQ L D (by omega) hDc;have lF:(fM (tT two+1) (tQ two) L D).length=2:=by rw [aIU,hL]
 have lB:(bM (tT two+1) (tQ two) L D).length=2:=by rw [aIV,hL]
 rw [lA Ju];refine aIK (n:=n+1) hM hy (by rw [lF];decide) (by rw [lF,lB]) (fun i a b=>(sqf _ (cO a)).sq (by omega) (sqb _ (cO b))) gv gw fun t1=>?_
 have Zw:∀{k:V->Prop} {u:V},gB u=true->wM u=(fun p=>p [u])->k (.agg [u,.nil,.nil])->cS [(.slice none 0 0),(.slice none 0 0),(.slice none 0 0)] [(0,1,u)] k:=fun {k u} h1 hc hk=>by
  have hz:LB [(.slice none 0 0),(.slice none 0 0),(.slice none 0 0)]=some [.nil,.nil,.nil]:=rfl;unfold cS rR;rw [hz];show iF [(0,1,u)] [.nil,.nil,.nil] _;unfold iF;rw [hc];exact⟨rfl,by simp,hk⟩
 refine Zw rfl rfl ?_;refine cG (l:=[.nil,.nil,.nil]) rfl fun bS hbS=>?_;refine iH (n:=3) (i:=bS) aB rfl rfl rfl ?_;rw [fD,hy.most];have IS:bU S3 (aL S3 bS (.row [.list t1 (mD (tH (fM (tT two+1) (tQ two) L D) (bM (tT two+1) (tQ two) L D))) (tH (fM (tT two+1) (tQ two) L D) (bM (tT two+1) (tQ two) L D)).length,.nil,.nil] 79)):= .aK hbS;refine aIX (n:=n+12) (two:=two) (i:=0) (k:=tT two+1) (SB:=pS S S3 t) hM hy (by omega) (by omega) (by omega) (by rw [lF,lB]) (by rw [lF];decide) sqf sqb rfl (pR.none hbS) aRT (aP (gF hbS rd3)) (fun S' vr vc a b c=>hK D (pS S S3 t) S' vr vc t1 (fun i hi=>AP hi) ⟨s8,ah8,w8,by rw [WG];exact q8,u8⟩ rfl a b c) (tN two) M _ .nil .nil (by omega) (by omega) (pR.trans IS) (IS _ _ Ju) (IS _ _ rd3) aB (gv.up IS) (gw.up IS) .nil .nil (fun j m m' e=>by cases e)
end
set_option maxRecDepth 4000
section
variable{M n t:Nat}{x:VE}{K:KV}{two:Bool}
theorem aJ8 (hM:1000000<M) (hx:Deep PP bK gM M (n+4) x){S0:Hp}{va:V}{l:List Nat} (ha:NV (del S0 t) va l) (TV:LC l) (hl:l.length<1000){bp:Nat}{v29:V}{FS RS:List (List Nat)}{DE:Nat}
 (hK:∀S vf vr,bU (del S0 t) S->(∃s' SU,jS S t s' SU DE)->S bp=some (.row (pv two) 29)->ML (del S0 t) S vf FS->ML (del S0 t) S vr RS->(aV 5 (.ptr bp 0) fun v24=>aW v24 S fun OD S=>vMk 82 24 [(.slice none 0 0)] OD OD S fun SZ S=>bP SZ fun ZE=>gK x x.most (.ptr bp 0) vf vr SZ ZE (.int .i64 (.ofNat 0)) S K)):
 ∀(r i m:Nat) (S:Hp) (vf vr:V) (s:BitVec 64) (ah:List Nat) (fs rs:List (List Nat)) (d:Nat),i+r=l.length->r<m->d+(2*tT two+1)*r=DE->DE<900000->fs.length=i->rs.length=i->bU (del S0 t) S->jS S t s ah d->S bp=some (.row (pv two) 29)->ML (del S0 t) S vf fs->ML (del S0 t) S vr rs->(∀j m m',vf= .acc j m->vr≠ .acc j m')->
  fs++fsR (tT two) (l.drop i) (drawn ((tT two+(1+tT two))*r) ah s)=FS->rs++rsR (tT two) r (drawn ((tT two+(1+tT two))*r) ah s)=RS->
  rV x m (.ptr bp 0) (.func dF [.ptr t 0] []) vf vr va (ni l.length) (ni i) S K:=by
 intro r;have hT:tT two<=2:=by cases two<;>decide
 induction r with
 | zero=>
  intro i m S vf vr s ah fs rs d hi hm hd hDE hf hr hle htp Oj mf mr aFG eF eR;obtain⟨m,rfl⟩:=bH (show m≠0 by omega);rw [FA];unfold wQ;refine aF ?_;rw [aQ,jM (by omega),bE];have e:l.drop i=[]:=Vf (by omega);rw [e]at eF;simp only [fsR,rsR,FD]at eF eR;subst eF eR;exact hK S vf vr hle ⟨s,ah,by rw [<-hd,Nat.mul_zero,UH];exact htp⟩ Oj mf mr
 | succ r ih=>
  intro i m S vf vr s ah fs rs d hi hm hd hDE hf hr hle htp Oj mf mr aFG eF eR;obtain⟨m,rfl⟩:=bH (show m≠0 by omega);rw [FA];unfold wQ;refine aF ?_;have hlt:i<l.length:=by omega
  obtain⟨p,hp,PZ⟩:=ha.at (i:=i) (aT hlt);have hX:=TV _ (cO hlt);have e6:(pv two)[6]? =some (ni (tT two)):=rfl;have e1:(pv two)[1]? =some (nu 11):=rfl;rw [Aj]at hd;rw [aQ,zJ (by omega),bW,hp,PZ S hle,aY,cT Oj e6,aY,cT Oj e1];refine Qb (d:=d) (n:=n) (by omega) hx hX (by omega) (by omega) htp fun S1 s1 ah1 b1 tp1 h1 O=>?_
  have dL:bU (del S0 t) S1:=fun j o e=>by
   have hj:j≠t:=fun c=>by rw [c,LD]at e;cases e
   rw [b1 j hj];exact hle j o e
  have btp:bp≠t:=fun c=>by
   obtain⟨w,q,_⟩:=htp;rw [c,q]at Oj;injection Oj with e;injection e with _ e;cases e
  obtain⟨wt,aRK,_⟩:=id htp;have Wl:∀j o,j≠t->S j=some o->S1 j=some o:=fun j o hj e=>by rw [b1 j hj];exact e
  have mf1:=mf.but Wl aRK (by decide);have mr1:=mr.but Wl aRK (by decide);have bp1:=Wl _ _ btp Oj;refine mf1.aQ2 dL (by omega) .val fun vf2 S2 fO k2 mf2 d2=>?_;have hmo:=mf1.ob
  have k2':∀j o,S1 j=some o->(∀vs m,o≠ .gD vs 51 m)->S2 j=some o:=fun j o e xL=>k2 j o e fun m c=>by
   obtain⟨_,vs,q,e2⟩:=hmo _ _ c;rw [e]at e2;injection e2 with e2;exact xL _ _ e2
  have tp2:=tp1.mF k2';have bp2:=k2' _ _ bp1 (fun vs m c=>by cases c)
  have mr2:ML (del S0 t) S2 vr rs:=mr1.mF (u:= .nil) (t:=0) (fun m c=>by cases c) k2 (fun j m m' c c2=>aFG j m' m c2 c) (fun j vs m c=>by
   obtain⟨_,vs,q,e2⟩:=hmo _ _ c;constructor<;>(rw [e2];intro c;cases c)) (fun j m c=>(hmo j m c).2)
  have aNH:∀j m m',vf2= .acc j m->vr≠ .acc j m':=fun j m m' c c2=>by
   rcases d2 j m c with q | ⟨m2,q⟩
   ·obtain⟨_,vs,n,e⟩:=mr1.ob j m' c2
    rw [q]at e;cases e
   ·exact aFG j m2 m' q c2
  rw [aY,cT bp2 e1,aY,cT bp2 e6,aY,cT bp2 e1];show x.call dF [.ptr t 0,nu 11] S2 _;refine aJ7 (n:=n+2) (by omega) hx tp2 (by omega) fun S3 a s3 ah3 b3 tp3 h3=>?_;obtain⟨wt2,aRL,_⟩:=id tp2;have hk3:∀j o,j≠t->S2 j=some o->S3 j=some o:=fun j o hj e=>by rw [b3 j hj];exact e
  have mf3:=mf2.but hk3 aRL (by decide);have mr3:=mr2.but hk3 aRL (by decide);have bp3:=hk3 _ _ btp bp2
  have pR:bU (del S0 t) S3:=fun j o e=>by
   have hj:j≠t:=fun c=>by rw [c,LD]at e;cases e
   exact hk3 j o hj (fO j o e)
  have aUD:a<11:=by
   have:=h3 0;exact PC 1 ah1 s1 a (by rw [this];exact .head _)
  rw [cT bp3 e1,cE,cT bp3 e6,cE];refine Qb (d:=d+tT two+1) (n:=n) (by omega) hx (X:=a) (show a<18446744073709551616 by omega) (by omega) (by omega) tp3 fun S4 s4 ah4 b4 tp4 h4 O4=>?_;obtain⟨wt3,aRM,_⟩:=id tp3;have hk4:∀j o,j≠t->S3 j=some o->S4 j=some o:=fun j o hj e=>by rw [b4 j hj];exact e
  have mf4:=mf3.but hk4 aRM (by decide);have mr4:=mr3.but hk4 aRM (by decide);have bp4:=hk4 _ _ btp bp3
  have IS:bU (del S0 t) S4:=fun j o e=>by
   have hj:j≠t:=fun c=>by rw [c,LD]at e;cases e
   exact hk4 j o hj (pR j o e)
  refine⟨aLF rfl,?_⟩;refine mr4.aQ2 IS (by omega) .val fun vr5 S5 EW k5 mr5 d5=>?_;have aPx:=mr4.ob
  have k5':∀j o,S4 j=some o->(∀vs m,o≠ .gD vs 51 m)->S5 j=some o:=fun j o e xL=>k5 j o e fun m c=>by
   obtain⟨_,vs,q,e2⟩:=aPx _ _ c;rw [e]at e2;injection e2 with e2;exact xL _ _ e2
  have tp5:=tp4.mF k5';have bp5:=k5' _ _ bp4 (fun vs m c=>by cases c)
  have mf5:ML (del S0 t) S5 vf2 _:=mf4.mF (u:= .nil) (t:=0) (fun m c=>by cases c) k5 (fun j m m' c c2=>aNH j m m' c c2) (fun j vs m c=>by
   obtain⟨_,vs,q,e2⟩:=aPx _ _ c;constructor<;>(rw [e2];intro c;cases c)) (fun j m c=>(aPx j m c).2)
  have aRN:∀j m m',vf2= .acc j m->vr5≠ .acc j m':=fun j m m' c c2=>by
   rcases d5 j m' c2 with q | ⟨m2,q⟩
   ·obtain⟨_,vs,n,e⟩:=mf4.ob j m c
    rw [q]at e;cases e
   ·exact aNH j m m2 c q
  have eD:drawn ((tT two+(1+tT two))*(r+1)) ah s=drawn (tT two) ah s++a::(drawn (tT two) ah3 s3++drawn ((tT two+(1+tT two))*r) ah4 s4):=by
   have e:(tT two+(1+tT two))*(r+1)=tT two+(tT two+(tT two+(1+tT two))*r+1):=by rw [Aj];omega
   rw [e,h1,h3,h4]
  obtain⟨c1,c2,c3,c4⟩:=aTh (a:=a) (C:=drawn ((tT two+(1+tT two))*r) ah4 s4) (wG (tT two) ah s) (wG (tT two) ah3 s3);have ed:l.drop i=l[i]::l.drop (i+1):=mB hlt;rw [eD]at eF eR;rw [ed]at eF;unfold fsR at eF;unfold rsR at eR;rw [c1,c4]at eF;rw [c2,c3,c4]at eR;rw [bG (by omega)];refine ih (i+1) m S5 vf2 vr5 s4 ah4 _ _ (d+tT two+1+tT two) (by omega) (by omega) (by omega) hDE (by simp [hf]) (by simp [hr]) EW tp5 bp5 mf5 mr5 aRN ?_ ?_
  ·rw [<-eF];simp
  ·rw [<-eR];simp
theorem aL5 (hM:1000000<M) (hx:Deep PP bK gM M (n+16) x){S0:Hp}{t:Nat}{s:BitVec 64}{ah:List Nat}{va:V}{l:List Nat} (ha:NV (del S0 t) va l) (TV:LC l) (hl:l.length=2){dd:Nat} (hdd:dd<500000) (h:jS S0 t s ah dd)
 (hK:∀S' fs rs,Bf S0 S' t->(∃s' SU,jS S' t s' SU (dd+(2*tT two+1)*l.length))->fs=fsR (tT two) l (drawn ((tT two+(1+tT two))*l.length) ah s)->rs=rsR (tT two) l.length (drawn ((tT two+(1+tT two))*l.length) ah s)->∀O1 O2z,K (.tuple [.list O1 (shD fs rs (tN two)) (tN two),.list O2z (eL (iQ fs rs)) (iQ fs rs).length,ni 0]) S'):x.call uW [.agg (pv two),va,.ptr t 0] S0 K:=by
 refine hx.call aLH fun y hy=>?_;rw [Zd];unfold Ey;refine cC jN fun bp Oj=>?_;have rp:aL S0 bp (.row (pv two) 29) bp=some (.row (pv two) 29):=aB;have dL:bU S0 (aL S0 bp (.row (pv two) 29)):= .aK Oj;have hbt:bp≠t:=by obtain⟨w,q,_⟩:=h;exact gF Oj q
 have aRO:∀{K:KV},bR 12 (.ptr bp 0) (aL S0 bp (.row (pv two) 29)) K=K (.agg (pv two)) (aL S0 bp (.row (pv two) 29)):=fun {K}=>by
  rw [tE rp,dR (by rw [BR];omega),xO,mC (by rw [BR];omega)]
 rw [aRO];refine aEF hy ?_;simp only [aE,rC,fL,aN,ha.len,aRO];refine Uj (n:=n+14) hy ?_;rw [yB,bI hl,dJ];simp only [fL];rw [bE,hy.most];have tp1:jS (aL S0 bp (.row (pv two) 29)) t s ah dd:=h.mF fun j o e _=>dL j o e;have ha1:∀c∈drawn ((tT two+(1+tT two))*l.length) ah s,c<11:=PC _ _ _;have hT:tT two<=2:=by cases two<;>decide
 have hd0:dd+(2*tT two+1)*l.length<900000:=by rw [hl];omega
 refine aJ8 (n:=n+11) (two:=two) (S0:=S0) (t:=t) (bp:=bp) (v29:= .nil) (FS:=fsR (tT two) l (drawn ((tT two+(1+tT two))*l.length) ah s)) (RS:=rsR (tT two) l.length (drawn ((tT two+(1+tT two))*l.length) ah s)) hM hy ha TV (by omega) (DE:=dd+(2*tT two+1)*l.length) ?_ l.length 0 M _ .nil .nil s ah [] [] dd (by omega) (by omega) rfl hd0 rfl rfl ((Xs).trans dL) tp1 rp .nil .nil (fun j m m' c=>by cases c) (by simp) (by simp);intro S vf vr hle htE hb mf mr;obtain⟨s8,ah8,w8,q8,u8⟩:=htE;have hK:=hK (pS S0 S t) _ _ (fun i hi=>AP hi) ⟨s8,ah8,w8,by rw [WG];exact q8,u8⟩ rfl rfl;have f1:=aEC (T:=tT two) l (drawn ((tT two+(1+tT two))*l.length) ah s) (by rw [wG];exact Ak (by congr 1<;>omega)) ha1;have r1:=aED (T:=tT two) l.length (drawn ((tT two+(1+tT two))*l.length) ah s) (by rw [wG];exact Ak (by congr 1<;>omega)) ha1;have f2:=aEA (tT two) l (drawn ((tT two+(1+tT two))*l.length) ah s);have r2:=aEB (tT two) l.length (drawn ((tT two+(1+tT two))*l.length) ah s);generalize fsR (tT two) l (drawn ((tT two+(1+tT two))*l.length) ah s)=fs at hK f1 f2 mf;generalize rsR (tT two) l.length (drawn ((tT two+(1+tT two))*l.length) ah s)=rs at hK r1 r2 mr;have hN:tN two<=7:=by cases two<;>decide
 have e5:(pv two)[5]? =some (ni (tN two)):=rfl;rw [aY,cT hb e5];refine⟨bQ _,by omega,by omega,?_⟩;have hz:LB [(.slice none 0 0)]=some [.nil]:=rfl;unfold rR;rw [hz];intro o ho
 have e:(List.replicate (tN two) [V.nil]).flatten=List.replicate (tN two) .nil:=by
  generalize tN two=k;induction k with
  | zero=>rfl
  | succ k ih=>rw [HY,NQ,ih,HY];rfl
 rw [e];show gK y y.most _ _ _ (.own o 0 (tN two) (tN two)) (ni (tN two)) (ni 0) _ K;rw [hy.most];refine aGb (n:=n) (SLz:=S) hM hy mf mr (fun q hq c h=>?_) (fun q hq c h=>?_) (fun q hq=>?_) (fun q hq=>?_) (by omega) (by omega) (fun i h1 h2=>?_) (by omega) hb ho ?_ (tN two) 0 M _ (List.replicate (tN two) .nil) (by omega) (by omega) ⟨.aK ho,aB,by simp,fun j hj=>bC hj (by omega),fun j _ hj=>by rw [List.getElem?_replicate,aO hj]⟩
 ·exact Nat.lt_trans ((f1 q hq).2 c h) (by decide)
 ·exact Nat.lt_trans ((r1 q hq).2 c h) (by decide)
 ·rw [(f1 q hq).1];omega
 ·rw [(r1 q hq).1];omega
 ·rw [(f1 _ (cO h1)).1,(r1 _ (cO h2)).1]
 ·intro S2 ws u inv m2
  have hot:o≠t:=gF ho q8;have leT:bU (pS S0 S t) S:=Hf hle;have Ze:bU (pS S0 S t) S2:=leT.trans inv.le;have m3:=m2.base leT
  have hfz:Du (pS S0 S t) S2 (.own o 0 (tN two) (tN two)) (.list (shD fs rs (tN two)) (tN two)):=by
   refine .own inv.row (leT.none ho) (bQ _) (by unfold shD;rw [inv.len];simp) fun j v d a b=>?_;rw [eJ]at a;unfold shD at b;rw [eH]at b;cases hq:(List.range (tN two))[j]? with
   | none=>rw [hq]at b;cases b
   | some k=>
    rw [hq]at b;injection b with b;subst b;obtain⟨hj,hk⟩:=List.getElem?_eq_some_iff.1 hq;rw [List.getElem_range]at hk;subst hk;obtain⟨w,a2,pn⟩:=inv.done j (by simpa using hj);rw [a]at a2;injection a2 with a2;subst a2;exact(pn.base leT).Bd
  refine⟨pS S0 S t,fun O=> .tuple [.list (O 0) (shD fs rs (tN two)) (tN two),.list (O 1) (eL (iQ fs rs)) (iQ fs rs).length,ni 0],Ze,fun O=> .tup ⟨rfl,fun j v u e1 e2=>?_⟩,fun O=>hK _ _⟩
  match j with
  | 0=>injection e1 with e1;injection e2 with e2;subst e1 e2;exact .ZG hfz
  | 1=>injection e1 with e1;injection e2 with e2;subst e1 e2;exact .ZG m3.Bd
  | 2=>injection e1 with e1;injection e2 with e2;subst e1 e2;exact .mF _
  | j+3=>simp at e1
end
end Go.Am
set_option maxRecDepth 100000
namespace Go.Am
def jK (x:VE) (m:Nat) (t1 t5 t6:V) (S:Hp) (K:KV):Prop:=dW PP bK pY x [.r,.r,.r,.l,.r,.d] m [] [t1,t5,t6] S K
def LM (x:VE) (a0 a1:V) (S:Hp) (K:KV):Prop:=
 x.call yY [a1] S fun v0 S=>
 aI x.most (aH false v0 (fun k=>x.call AO [] S fun v1 S=>k v1 S) S fun v2 S=>aI x.most (aH false v0 (fun k=>SP .not v2 fun v3=>k v3 S) S fun v4 S=>aI x.most (fK v0 (.bool true) v4 fun v5=>iR v5 (x.call AO [] S fun v6 S=>bF v6 S K) (x.call GR [a0] S fun v7 S=>jK x x.most a1 v7 (.int .i64 (.ofNat 0)) S K))))
theorem Bi (x:VE) (a0 a1:V) (S:Hp) (K:KV):jX PP bK pY x [a0,a1] S K=LM x a0 a1 S K:=by kernel_rfl
def pZ (x:VE) (m0:Nat) (t1 t5 t6:V) (S:Hp) (K:KV):Prop:=
 cR S fun S=>
 bP t1 fun v0=>
 aJ PP .lss 3 t6 v0 fun v1=>
 iR v1 (nP PP t5 fun v2=>aV 0 v2 fun v3=>bR 12 v3 S fun v4 S=>nP PP t5 fun v5=>aV 14 v5 fun v6=>bR 5 v6 S fun v7 S=>cV 9 t1 t6 fun v8=>bR 9 v8 S fun v9 S=>bR 9 v8 S fun v10 _=>aU v10 v9 (bR 5 v6 S fun v11 _=>aU v11 v7 (bR 12 v3 S fun v12 _=>aU v12 v4 ((dQ [(.int .i64 (.ofNat 0)),(.slice none 0 0),(.slice none 0 0),(.slice none 0 0),(.slice none 0 0)] 36 S fun qE S=>True)/\(x.call dG [t5,v9] S fun qU S=>bR 5 v6 S fun wI _=>aU wI v7 (bR 12 v3 S fun wJ _=>aU wJ v4 (bR 5 v6 S fun wH _=>aU wH v7 (bR 12 v3 S fun vC _=>aU vC v4 ((dQ [(.int .i64 (.ofNat 0)),(.slice none 0 0),(.slice none 0 0),(.slice none 0 0),(.slice none 0 0)] 36 S fun yI S=>True)/\(x.call BW [v4,v7,qU] S fun v20 S=>vB 0 v20 fun v21=>vB 1 v20 fun JC=>(dQ [(.int .i64 (.ofNat 0)),(.slice none 0 0),(.slice none 0 0),(.slice none 0 0),(.slice none 0 0)] 36 S fun GC S=>True)/\(dQ [(.int .i64 (.ofNat 0)),(.slice none 0 0),(.slice none 0 0),(.slice none 0 0),(.slice none 0 0)] 36 S fun v24 S=>nI 5 v24 v21 S fun S=>bR 5 v24 S fun OD S=>nP PP t5 fun SZ=>aV 14 SZ fun ZE=>nI 5 ZE OD S fun S=>nP PP t5 fun v28=>aV 0 v28 fun v29=>bR 12 v29 S fun v30 S=>aV 1 v24 fun v31=>aW v31 S fun Sr S=>x.call oI [v30,Sr] S fun Lr S=>SP .not Lr fun Fd=>aI x.most (aH false Fd (fun k=>aV 0 v24 fun Qk=>k Qk S) S fun Cb S=>aI x.most (aH false Fd (fun k=>aW Cb S fun v37 S=>k v37 S) S fun Bt S=>aI x.most (aH false Fd (fun k=>aJ PP .lss 3 Bt (.int .i64 (.ofNat 0)) fun Jj=>k Jj S) S fun v40 S=>aI x.most (fK Fd (.bool true) v40 fun XY=>aI x.most (aH false XY (fun k=>aV 2 v24 fun Rb=>k Rb S) S fun Uz S=>aI x.most (aH false XY (fun k=>aW Uz S fun v44 S=>k v44 S) S fun Ql S=>aI x.most (aH false XY (fun k=>bP Ql fun v46=>k v46 S) S fun v47 S=>aI x.most (aH false XY (fun k=>aJ PP .gtr 3 v47 (.int .i64 (.ofNat 0)) fun v48=>k v48 S) S fun v49 S=>aI x.most (aH false XY (fun k=>aV 0 v24 fun v50=>k v50 S) S fun v51 S=>aI x.most (aH false XY (fun k=>aW v51 S fun v52 S=>k v52 S) S fun v53 S=>aI x.most (aH false XY (fun k=>aJ PP .gtr 3 v53 (.int .i64 (.ofNat 0)) fun v54=>k v54 S) S fun v55 S=>aI x.most (aH false XY (fun k=>aJ PP .neq 4 v49 v55 fun v56=>k v56 S) S fun v57 S=>aI x.most (fK XY (.bool true) v57 fun v58=>aI x.most (aH false v58 (fun k=>aV 0 v24 fun v59=>k v59 S) S fun v60 S=>aI x.most (aH false v58 (fun k=>aW v60 S fun v61 S=>k v61 S) S fun v62 S=>aI x.most (aH false v58 (fun k=>aJ PP .gtr 3 v62 (.int .i64 (.ofNat 0)) fun v63=>k v63 S) S fun v64 S=>aI x.most (aH false v58 (fun k=>k v64 S) S fun v65 S=>aI x.most (aH true v65 (fun k=>k t5 S) S fun v66 S=>aI x.most (aH true v65 (fun k=>nP PP v66 fun v67=>k v67 S) S fun v68 S=>aI x.most (aH true v65 (fun k=>aV 0 v68 fun v69=>k v69 S) S fun v70 S=>aI x.most (aH true v65 (fun k=>bR 12 v70 S fun v71 S=>k v71 S) S fun v72 S=>aI x.most (aH true v65 (fun k=>aV 2 v24 fun v73=>k v73 S) S fun v74 S=>aI x.most (aH true v65 (fun k=>aW v74 S fun v75 S=>k v75 S) S fun v76 S=>aI x.most (aH true v65 (fun k=>x.call oH [v72,v76] S fun v77 S=>k v77 S) S fun v78 S=>aI x.most (fW false v58 v62 (fun k=>aW v60 S fun v79 _=>aU v79 v62 k) (aI x.most (fW false XY v53 (fun k=>aW v51 S fun v80 _=>aU v80 v53 k) (aI x.most (fW false XY Ql (fun k=>aW Uz S fun v81 _=>aU v81 Ql k) (aI x.most (fW false Fd Bt (fun k=>aW Cb S fun v82 _=>aU v82 Bt k) (aI x.most (aH true v65 (fun k=>SP .not v78 fun v83=>k v83 S) S fun v84 S=>aI x.most (aH false v58 (fun k=>aI x.most (fK v65 v84 (.bool false) fun v85=>k v85 S)) S fun v86 S=>aI x.most (fK v58 (.bool true) v86 fun v87=>aI x.most (aH false v87 (fun k=>aV 3 v24 fun v88=>k v88 S) S fun v89 S=>aI x.most (aH false v87 (fun k=>aW v89 S fun v90 S=>k v90 S) S fun v91 S=>aI x.most (aH false v87 (fun k=>bP v91 fun v92=>k v92 S) S fun v93 S=>aI x.most (aH false v87 (fun k=>aJ PP .gtr 3 v93 (.int .i64 (.ofNat 0)) fun v94=>k v94 S) S fun v95 S=>aI x.most (aH false v87 (fun k=>k v95 S) S fun v96 S=>aI x.most (aH true v96 (fun k=>k t5 S) S fun v97 S=>aI x.most (aH true v96 (fun k=>nP PP v97 fun v98=>k v98 S) S fun v99 S=>aI x.most (aH true v96 (fun k=>aV 0 v99 fun aTF=>k aTF S) S fun aTG S=>aI x.most (aH true v96 (fun k=>bR 12 aTG S fun aTH S=>k aTH S) S fun aTI S=>aI x.most (aH true v96 (fun k=>aV 3 v24 fun aTJ=>k aTJ S) S fun v105 S=>aI x.most (aH true v96 (fun k=>aW v105 S fun aTK S=>k aTK S) S fun v107 S=>aI x.most (aH true v96 (fun k=>x.call oI [aTI,v107] S fun aTL S=>k aTL S) S fun v109 S=>aI x.most (fW false v87 v91 (fun k=>aW v89 S fun aTM _=>aU aTM v91 k) (aI x.most (fW false v58 v62 (fun k=>aW v60 S fun aTN _=>aU aTN v62 k) (aI x.most (fW false XY v53 (fun k=>aW v51 S fun aTO _=>aU aTO v53 k) (aI x.most (fW false XY Ql (fun k=>aW Uz S fun aTP _=>aU aTP Ql k) (aI x.most (fW false Fd Bt (fun k=>aW Cb S fun aTQ _=>aU aTQ Bt k) (aI x.most (aH true v96 (fun k=>SP .not v109 fun aTR=>k aTR S) S fun aTS S=>aI x.most (aH true v96 (fun k=>k aTS S) S fun v117 S=>aI x.most (aH false v117 (fun k=>aV 0 v24 fun aTT=>k aTT S) S fun aR8 S=>aI x.most (aH false v117 (fun k=>aW aR8 S fun aTU S=>k aTU S) S fun aPV S=>aI x.most (aH false v117 (fun k=>aJ PP .eql 3 aPV (.int .i64 (.ofNat 0)) fun aTV=>k aTV S) S fun aTW S=>aI x.most (aH true v96 (fun k=>aI x.most (fK v117 (.bool true) aTW fun v124=>k v124 S)) S fun aTX S=>aI x.most (aH false v87 (fun k=>aI x.most (fK v96 aTX (.bool false) fun aTY=>k aTY S)) S fun v127 S=>aI x.most (fK v87 (.bool true) v127 fun Bu=>aI x.most (aH false Bu (fun k=>k t5 S) S fun aTZ S=>aI x.most (aH false Bu (fun k=>nP PP aTZ fun v130=>k v130 S) S fun v131 S=>aI x.most (aH false Bu (fun k=>aV 0 v131 fun aT0=>k aT0 S) S fun aT1 S=>aI x.most (aH false Bu (fun k=>bR 12 aT1 S fun aT2 S=>k aT2 S) S fun aT3 S=>aI x.most (aH false Bu (fun k=>aV 4 v24 fun aT4=>k aT4 S) S fun aT5 S=>aI x.most (aH false Bu (fun k=>aW aT5 S fun v138 S=>k v138 S) S fun v139 S=>aI x.most (aH false Bu (fun k=>k t5 S) S fun aT6 S=>aI x.most (aH false Bu (fun k=>nP PP aT6 fun v141=>k v141 S) S fun aT7 S=>aI x.most (aH false Bu (fun k=>aV 0 aT7 fun v143=>k v143 S) S fun aT8 S=>aI x.most (aH false Bu (fun k=>aV 9 aT8 fun v145=>k v145 S) S fun v146 S=>aI x.most (aH false Bu (fun k=>aW v146 S fun aT9 S=>k aT9 S) S fun v148 S=>aI x.most (aH false Bu (fun k=>x.call JR [aT3,v139] S fun aUa S=>k aUa S) S fun aUb S=>aI x.most (fW false Bu v148 (fun k=>aW v146 S fun aUc _=>aU aUc v148 k) (aI x.most (fW false v117 aPV (fun k=>aW aR8 S fun v152 _=>aU v152 aPV k) (aI x.most (fW false v87 v91 (fun k=>aW v89 S fun aUd _=>aU aUd v91 k) (aI x.most (fW false v58 v62 (fun k=>aW v60 S fun v154 _=>aU v154 v62 k) (aI x.most (fW false XY v53 (fun k=>aW v51 S fun aUe _=>aU aUe v53 k) (aI x.most (fW false XY Ql (fun k=>aW Uz S fun aUf _=>aU aUf Ql k) (aI x.most (fW false Fd Bt (fun k=>aW Cb S fun v157 _=>aU v157 Bt k) (aI x.most (aH false Bu (fun k=>aJ PP .gtr 3 aUb v148 fun aUg=>k aUg S) S fun v159 S=>aI x.most (fK Bu (.bool true) v159 fun v160=>iR v160 (bF (.bool false) S K) (aJ PP .add 3 t6 (.int .i64 (.ofNat 1)) fun aUh=>jK x m0 t1 t5 aUh S K))))))))))))))))))))))))))))))))))))))))))))))))))))))))))))))))))))))))))))))))))))))))))))))))))))))))) (bF (.bool true) S K)
theorem yF (x:VE) (m0:Nat) (t1 t5 t6:V) (S:Hp) (K:KV):jK x (m0+1) t1 t5 t6 S K=pZ x m0 t1 t5 t6 S K:=by kernel_rfl
def pU (x:VE) (m:Nat) (t0 t3 t4:V) (S:Hp) (K:KV):Prop:=dW PP bK yY x [.r,.r,.l,.r,.d] m [] [t0,t3,t4] S K
def mM (x:VE) (m:Nat) (m0:Nat) (t0 t3 t4 t5:V) (S:Hp) (K:KV):Prop:=dW PP bK yY x [.r,.r,.l,.r,.d,.d,.r,.l,.d,.r,.r,.d] m [m0] [t0,t3,t4,t5] S K
def Eh (x:VE) (a0:V) (S:Hp) (K:KV):Prop:=
 pU x x.most a0 (.int .i64 (.ofNat 0)) (.int .i64 (.ofNat 0)) S K
theorem Ye (x:VE) (a0:V) (S:Hp) (K:KV):jX PP bK yY x [a0] S K=Eh x a0 S K:=by kernel_rfl
def AB (x:VE) (m0:Nat) (t0 t3 t4:V) (S:Hp) (K:KV):Prop:=
 cR S fun S=>
 bP t0 fun v0=>
 aJ PP .lss 3 t4 v0 fun v1=>
 aI x.most (aH true v1 (fun k=>k t3 S) S fun v2 S=>aI x.most (aH true v1 (fun k=>aJ PP .lss 3 v2 (.int .i64 (.ofNat 3000)) fun v3=>k v3 S) S fun v4 S=>aI x.most (fK v1 v4 (.bool false) fun v5=>iR v5 (aJ PP .add 3 t3 (.int .i64 (.ofNat 20)) fun v6=>cV 9 t0 t4 fun v7=>aV 0 v7 fun v8=>aV 3 v8 fun v9=>aW v9 S fun v10 S=>bP v10 fun v11=>aJ PP .add 3 v6 v11 fun v12=>cV 9 t0 t4 fun qE=>aV 0 qE fun qU=>aV 5 qU fun wI=>aW wI S fun wJ S=>bP wJ fun wH=>aJ PP .add 3 v12 wH fun vC=>cV 9 t0 t4 fun yI=>aV 0 yI fun v20=>aV 4 v20 fun v21=>aW v21 S fun JC S=>x.call yX [JC] S fun GC S=>aW wI S fun v24 _=>aU v24 wJ (aW v9 S fun OD _=>aU OD v10 (aJ PP .add 3 vC GC fun SZ=>mM x x.most m0 t0 SZ t4 (.int .i64 (.ofNat 0)) S K))) (aJ PP .geq 3 t3 (.int .i64 (.ofNat 3000)) fun ZE=>bF ZE S K))))
theorem IV (x:VE) (m0:Nat) (t0 t3 t4:V) (S:Hp) (K:KV):pU x (m0+1) t0 t3 t4 S K=AB x m0 t0 t3 t4 S K:=by kernel_rfl
def pV (x:VE) (m1:Nat) (m0:Nat) (t0 t3 t4 t5:V) (S:Hp) (K:KV):Prop:=
 cR S fun S=>
 cV 9 t0 t4 fun v0=>
 aV 0 v0 fun v1=>
 aV 6 v1 fun v2=>
 aW v2 S fun v3 S=>
 bP v3 fun v4=>
 aJ PP .lss 3 t5 v4 fun v5=>
 aI x.most (aH true v5 (fun k=>k t3 S) S fun v6 S=>aI x.most (aH true v5 (fun k=>aJ PP .lss 3 v6 (.int .i64 (.ofNat 3000)) fun v7=>k v7 S) S fun v8 S=>aI x.most (fK v5 v8 (.bool false) fun v9=>iR v9 (aJ PP .add 3 t3 (.int .i64 (.ofNat 1)) fun v10=>cV 9 t0 t4 fun v11=>aV 0 v11 fun v12=>aV 6 v12 fun qE=>aW qE S fun qU S=>cV 2 qU t5 fun wI=>aV 1 wI fun wJ=>aW wJ S fun wH S=>x.call yX [wH] S fun vC S=>aJ PP .add 3 v10 vC fun yI=>aJ PP .add 3 t5 (.int .i64 (.ofNat 1)) fun v20=>mM x m1 m0 t0 yI t4 v20 S K) (aJ PP .add 3 t4 (.int .i64 (.ofNat 1)) fun v21=>pU x m0 t0 t3 v21 S K))))
theorem yE (x:VE) (m1:Nat) (m0:Nat) (t0 t3 t4 t5:V) (S:Hp) (K:KV):mM x (m1+1) m0 t0 t3 t4 t5 S K=pV x m1 m0 t0 t3 t4 t5 S K:=by kernel_rfl
def uZ (x:VE) (m:Nat) (t0 t3 t4:V) (S:Hp) (K:KV):Prop:=dW PP bK yX x [.r,.r,.l,.r,.d] m [] [t0,t3,t4] S K
def Eg (x:VE) (a0:V) (S:Hp) (K:KV):Prop:=
 uZ x x.most a0 (.int .i64 (.ofNat 0)) (.int .i64 (.ofNat 0)) S K
theorem Yd (x:VE) (a0:V) (S:Hp) (K:KV):jX PP bK yX x [a0] S K=Eg x a0 S K:=by kernel_rfl
def AA (x:VE) (m0:Nat) (t0 t3 t4:V) (S:Hp) (K:KV):Prop:=
 cR S fun S=>
 bP t0 fun v0=>
 aJ PP .lss 3 t4 v0 fun v1=>
 aI x.most (aH true v1 (fun k=>k t3 S) S fun v2 S=>aI x.most (aH true v1 (fun k=>aJ PP .lss 3 v2 (.int .i64 (.ofNat 500)) fun v3=>k v3 S) S fun v4 S=>aI x.most (fK v1 v4 (.bool false) fun v5=>iR v5 (aJ PP .add 3 t3 (.int .i64 (.ofNat 1)) fun v6=>cV 1 t0 t4 fun v7=>aW v7 S fun v8 S=>bP v8 fun v9=>aJ PP .add 3 v6 v9 fun v10=>aJ PP .add 3 t4 (.int .i64 (.ofNat 1)) fun v11=>uZ x m0 t0 v10 v11 S K) (bF t3 S K))))
theorem IU (x:VE) (m0:Nat) (t0 t3 t4:V) (S:Hp) (K:KV):uZ x (m0+1) t0 t3 t4 S K=AA x m0 t0 t3 t4 S K:=by kernel_rfl
def ZH (x:VE) (a0:V) (S:Hp) (K:KV):Prop:=
 x.call GQ [] S fun v0 S=>
 dQ [(.int .u64 (.ofNat 0)),(.int .u64 (.ofNat 0)),(.int .u64 (.ofNat 0)),(.int .u64 (.ofNat 0)),(.int .i64 (.ofNat 0)),(.int .i64 (.ofNat 0)),(.int .i64 (.ofNat 0)),(.int .i64 (.ofNat 0)),(.int .i64 (.ofNat 0)),(.int .i64 (.ofNat 0)),(.int .i64 (.ofNat 0)),(.int .i64 (.ofNat 0))] 29 S fun v1 S=>
 nI 12 v1 v0 S fun S=>
 bR 12 v1 S fun v2 S=>
 bR 12 v1 S fun v3 S=>
 x.call RE [a0] S fun v4 S=>
 bR 12 v1 S fun v5 _=>
 aU v5 v3 (bR 12 v1 S fun v6 _=>aU v6 v2 (x.call HK [v3] S fun v7 S=>bR 12 v1 S fun v8 _=>aU v8 v2 (cS [(.int .u64 (.ofNat 0)),(.int .u64 (.ofNat 0)),(.int .u64 (.ofNat 0)),(.int .u64 (.ofNat 0)),(.int .i64 (.ofNat 0)),(.int .i64 (.ofNat 0)),(.int .i64 (.ofNat 0)),(.int .i64 (.ofNat 0)),(.int .i64 (.ofNat 0)),(.int .i64 (.ofNat 0)),(.int .i64 (.ofNat 0)),(.int .i64 (.ofNat 0)),(.pointer none),(.slice none 0 0),(.int .i64 (.ofNat 0)),(.slice none 0 0),(.slice none 0 0),(.slice none 0 0),(.slice none 0 0)] [(0,12,v2),(12,1,v4),(14,5,v7)] fun v9=>bR 12 v1 S fun v10 _=>aU v10 v2 ((iG 38 v9 S fun v11 S=>True)/\(iG 38 v9 S fun v12 S=>bF v12 S K)))))
theorem Si (x:VE) (a0:V) (S:Hp) (K:KV):jX PP bK GR x [a0] S K=ZH x a0 S K:=by kernel_rfl
def kG (x:VE) (t4 t6:V) (S:Hp) (K:KV):Prop:=Uq PP bK dG x [.r,.r,.l,.r,.d,.r,.l,.r,.r] [] [t4,t6] S K
def fV (x:VE) (m:Nat) (t0 t4 t8 t9 t10:V) (S:Hp) (K:KV):Prop:=dW PP bK dG x [.r,.r,.l,.r,.d,.r,.r,.r,.r,.r,.l,.r,.r,.l,.r,.d] m [] [t0,t4,t8,t9,t10] S K
def iW (x:VE) (m0:Nat) (t0 t4 t8 t9 t10:V) (S:Hp) (K:KV):Prop:=Uq PP bK dG x [.r,.r,.l,.r,.d,.r,.r,.r,.r,.r,.l,.r,.r,.l,.r,.d,.d,.r,.r] [m0] [t0,t4,t8,t9,t10] S K
def pX (x:VE) (a0 a1:V) (S:Hp) (K:KV):Prop:=
 iG 45 a1 S fun v0 S=>
 dQ [(.int .u8 (.ofNat 0)),(.int .i64 (.ofNat 0)),(.int .i64 (.ofNat 0)),(.slice none 0 0),(.slice none 0 0),(.slice none 0 0),(.slice none 0 0)] 42 S fun v1 S=>
 aV 7 v0 fun v2=>
 aW v2 S fun v3 S=>
 aJ PP .neq 5 v3 (.int .u8 (.ofNat 1)) fun v4=>
 iR v4 (aV 0 v0 fun v5=>bR 7 v5 S fun v6 S=>nI 7 v1 v6 S fun S=>bR 7 v1 S fun v7 _=>bF v7 S K) (aV 0 v0 fun v8=>aV 0 v8 fun v9=>aW v9 S fun v10 S=>aJ PP .eql 5 v10 (.int .u8 (.ofNat 1)) fun v11=>iR v11 (nP PP a0 fun v12=>aV 0 v12 fun qE=>bR 12 qE S fun qU S=>aV 0 v0 fun wI=>aV 1 wI fun wJ=>aW wJ S fun wH S=>LE .u64 wH fun vC=>nP PP a0 fun yI=>aV 0 yI fun v20=>aV 1 v20 fun v21=>aW v21 S fun JC S=>aJ PP .rem 22 vC JC fun GC=>nP PP a0 fun v24=>aV 12 v24 fun OD=>aW OD S fun SZ S=>aW OD S fun ZE _=>aU ZE SZ (aW v21 S fun v28 _=>aU v28 JC (aW wJ S fun v29 _=>aU v29 wH (bR 12 qE S fun v30 _=>aU v30 qU ((aS 22 2 [(.int .u64 (.ofNat 0))] [(0,1,GC),(1,1,(.int .u64 (.ofNat 3)))] S fun v31 S=>True)/\(aS 22 2 [(.int .u64 (.ofNat 0))] [(0,1,GC),(1,1,(.int .u64 (.ofNat 3)))] S fun Sr S=>x.call uW [qU,Sr,SZ] S fun Lr S=>aW v21 S fun Fd _=>aU Fd JC (aW wJ S fun Qk _=>aU Qk wH (vB 0 Lr fun Cb=>vB 1 Lr fun v37=>vB 2 Lr fun Bt=>aJ PP .eql 46 Bt (.int .i64 (.ofNat 0)) fun Jj=>aI x.most (aH true Jj (fun k=>k a0 S) S fun v40 S=>aI x.most (aH true Jj (fun k=>nP PP v40 fun XY=>k XY S) S fun Rb S=>aI x.most (aH true Jj (fun k=>aV 14 Rb fun Uz=>k Uz S) S fun v44 S=>aI x.most (aH true Jj (fun k=>aV 0 v44 fun Ql=>k Ql S) S fun v46 S=>aI x.most (aH true Jj (fun k=>aW v46 S fun v47 S=>k v47 S) S fun v48 S=>aI x.most (aH true Jj (fun k=>aJ PP .eql 3 v48 (.int .i64 (.ofNat 0)) fun v49=>k v49 S) S fun v50 S=>aI x.most (fK Jj v50 (.bool false) fun v51=>iR v51 (nP PP a0 fun v52=>aV 13 v52 fun v53=>nI 1 v53 Cb S fun S=>kG x v1 v37 S K) (kG x v1 v37 S K)))))))))))))))) (aJ PP .eql 5 v10 (.int .u8 (.ofNat 3)) fun v54=>iR v54 (nP PP a0 fun v55=>aV 14 v55 fun v56=>aV 0 v56 fun v57=>aW v57 S fun v58 S=>aV 0 v0 fun v59=>aV 5 v59 fun v60=>aW v60 S fun v61 S=>cS [(.int .u8 (.ofNat 0)),(.int .i64 (.ofNat 0)),(.int .i64 (.ofNat 0)),(.slice none 0 0),(.slice none 0 0),(.slice none 0 0),(.slice none 0 0)] [(0,1,(.int .u8 (.ofNat 3))),(2,1,v58),(5,1,v61)] fun v62=>nI 7 v1 v62 S fun S=>bR 7 v1 S fun v63 _=>bF v63 S K) (aJ PP .eql 5 v10 (.int .u8 (.ofNat 4)) fun v64=>iR v64 (nP PP a0 fun v65=>aV 14 v65 fun v66=>aV 0 v66 fun v67=>aW v67 S fun v68 S=>cS [(.int .u8 (.ofNat 0)),(.int .i64 (.ofNat 0)),(.int .i64 (.ofNat 0)),(.slice none 0 0),(.slice none 0 0),(.slice none 0 0),(.slice none 0 0)] [(0,1,(.int .u8 (.ofNat 4))),(2,1,v68)] fun v69=>dQ [(.int .u8 (.ofNat 0)),(.int .i64 (.ofNat 0)),(.int .i64 (.ofNat 0)),(.slice none 0 0),(.slice none 0 0),(.slice none 0 0),(.slice none 0 0)] 42 S fun v70 S=>nI 7 v70 v69 S fun S=>aV 8 v0 fun v71=>aW v71 S fun v72 S=>LE .u64 v72 fun v73=>nP PP a0 fun v74=>aV 0 v74 fun v75=>aV 5 v75 fun v76=>aW v76 S fun v77 S=>nP PP a0 fun v78=>aV 0 v78 fun v79=>aV 6 v79 fun v80=>aW v80 S fun v81 S=>aJ PP .sub 3 v77 v81 fun v82=>LE .u64 v82 fun v83=>aJ PP .rem 75 v73 v83 fun v84=>LE .i64 v84 fun v85=>fV x x.most a0 v1 v70 v85 v85 S K) (aV 0 v0 fun v86=>bR 7 v86 S fun v87 S=>nI 7 v1 v87 S fun S=>bR 7 v1 S fun v88 _=>bF v88 S K))))
theorem vA (x:VE) (a0 a1:V) (S:Hp) (K:KV):jX PP bK dG x [a0,a1] S K=pX x a0 a1 S K:=by kernel_rfl
def nV (x:VE) (t4 t6:V) (S:Hp) (K:KV):Prop:=
 cR S fun S=>
 cS [(.int .u8 (.ofNat 0)),(.int .i64 (.ofNat 0)),(.int .i64 (.ofNat 0)),(.slice none 0 0),(.slice none 0 0),(.slice none 0 0),(.slice none 0 0)] [(0,1,(.int .u8 (.ofNat 1))),(4,1,t6)] fun v0=>
 nI 7 t4 v0 S fun S=>
 bR 7 t4 S fun v1 _=>
 bF v1 S K
theorem GD (x:VE) (t4 t6:V) (S:Hp) (K:KV):Ur PP bK dG x [.r,.r,.l,.r,.d,.r,.l,.r,.r] [] [t4,t6] S K=nV x t4 t6 S K:=by kernel_rfl
theorem HL (x:VE) (hm:x.most≠0) (t4 t6:V) (S:Hp) (K:KV):kG x t4 t6 S K=nV x t4 t6 S K:=(Er (hm:=hm) ..).trans (GD x t4 t6 S K)
def jO (x:VE) (m0:Nat) (t0 t4 t8 t9 t10:V) (S:Hp) (K:KV):Prop:=
 cR S fun S=>
 nP PP t0 fun v0=>
 aV 0 v0 fun v1=>
 aV 6 v1 fun v2=>
 aW v2 S fun v3 S=>
 aJ PP .add 3 t9 v3 fun v4=>
 aJ PP .leq 3 t10 v4 fun v5=>
 aI x.most (aH true v5 (fun k=>k t10 S) S fun v6 S=>aI x.most (aH true v5 (fun k=>k t0 S) S fun v7 S=>aI x.most (aH true v5 (fun k=>nP PP v7 fun v8=>k v8 S) S fun v9 S=>aI x.most (aH true v5 (fun k=>aV 13 v9 fun v10=>k v10 S) S fun v11 S=>aI x.most (aH true v5 (fun k=>aW v11 S fun v12 S=>k v12 S) S fun qE S=>aI x.most (aH true v5 (fun k=>bP qE fun qU=>k qU S) S fun wI S=>aI x.most (aH true v5 (fun k=>aJ PP .lss 3 v6 wI fun wJ=>k wJ S) S fun wH S=>aI x.most (fK v5 wH (.bool false) fun vC=>iR vC (nP PP t0 fun yI=>aV 0 yI fun v20=>bR 12 v20 S fun v21 S=>nP PP t0 fun JC=>aV 13 JC fun GC=>aW GC S fun v24 S=>cV 1 v24 t10 fun OD=>aW OD S fun SZ S=>nP PP t0 fun ZE=>aV 0 ZE fun v28=>aV 5 v28 fun v29=>aW v29 S fun v30 S=>nP PP t0 fun v31=>aV 12 v31 fun Sr=>aW Sr S fun Lr S=>aW Sr S fun Fd _=>aU Fd Lr (aW v29 S fun Qk _=>aU Qk v30 (aW OD S fun Cb _=>aU Cb SZ (aW GC S fun v37 _=>aU v37 v24 (bR 12 v20 S fun Bt _=>aU Bt v21 ((dQ [(.slice none 0 0),(.slice none 0 0),(.slice none 0 0)] 79 S fun Jj S=>True)/\(x.call rU [v21,SZ,v30,Lr] S fun v40 S=>aW GC S fun XY _=>aU XY v24 (vB 0 v40 fun Rb=>vB 1 v40 fun Uz=>aW GC S fun v44 _=>aU v44 v24 ((dQ [(.slice none 0 0),(.slice none 0 0),(.slice none 0 0)] 79 S fun Ql S=>True)/\(dQ [(.slice none 0 0),(.slice none 0 0),(.slice none 0 0)] 79 S fun v46 S=>nI 3 v46 Rb S fun S=>aJ PP .eql 46 Uz (.int .i64 (.ofNat 0)) fun v47=>iR v47 (aV 6 t8 fun v48=>aW v48 S fun v49 S=>aJ PP .add 3 t10 (.int .i64 (.ofNat 1)) fun v50=>nP PP t0 fun v51=>aV 0 v51 fun v52=>bR 12 v52 S fun v53 S=>aV 0 v46 fun v54=>aW v54 S fun v55 S=>x.call qC [v53,v55,(.int .u64 (.ofNat 0))] S fun v56 S=>aW v48 S fun v57 _=>aU v57 v49 (cS [(.int .i64 (.ofNat 0)),(.slice none 0 0)] [(0,1,v50),(1,1,v56)] fun v58=>aW v48 S fun v59 _=>aU v59 v49 ((aS 68 1 [(.int .i64 (.ofNat 0)),(.slice none 0 0)] [(0,2,v58)] S fun v60 S=>True)/\(aS 68 1 [(.int .i64 (.ofNat 0)),(.slice none 0 0)] [(0,2,v58)] S fun v61 S=>jW 68 2 32 v49 v61 S fun v62 S=>aV 6 t8 fun v63=>nI 1 v63 v62 S fun S=>iW x m0 t0 t4 t8 t9 t10 S K)))) (iW x m0 t0 t4 t8 t9 t10 S K))))))))))) (bR 7 t8 S fun v64 S=>nI 7 t4 v64 S fun S=>bR 7 t4 S fun v65 _=>bF v65 S K)))))))))
theorem oQ (x:VE) (m0:Nat) (t0 t4 t8 t9 t10:V) (S:Hp) (K:KV):fV x (m0+1) t0 t4 t8 t9 t10 S K=jO x m0 t0 t4 t8 t9 t10 S K:=by kernel_rfl
def iK (x:VE) (m0:Nat) (t0 t4 t8 t9 t10:V) (S:Hp) (K:KV):Prop:=
 cR S fun S=>
 aJ PP .add 3 t10 (.int .i64 (.ofNat 1)) fun v0=>
 fV x m0 t0 t4 t8 t9 v0 S K
theorem wS (x:VE) (m0:Nat) (t0 t4 t8 t9 t10:V) (S:Hp) (K:KV):Ur PP bK dG x [.r,.r,.l,.r,.d,.r,.r,.r,.r,.r,.l,.r,.r,.l,.r,.d,.d,.r,.r] [m0] [t0,t4,t8,t9,t10] S K=iK x m0 t0 t4 t8 t9 t10 S K:=by kernel_rfl
theorem xI (x:VE) (hm:x.most≠0) (m0:Nat) (t0 t4 t8 t9 t10:V) (S:Hp) (K:KV):iW x m0 t0 t4 t8 t9 t10 S K=iK x m0 t0 t4 t8 t9 t10 S K:=(Er (hm:=hm) ..).trans (wS x m0 t0 t4 t8 t9 t10 S K)
def ZF (x:VE) (S:Hp) (K:KV):Prop:=
 dQ [(.int .u64 (.ofNat 0)),(.int .u64 (.ofNat 0)),(.int .u64 (.ofNat 0)),(.int .u64 (.ofNat 0)),(.int .i64 (.ofNat 0)),(.int .i64 (.ofNat 0)),(.int .i64 (.ofNat 0)),(.int .i64 (.ofNat 0)),(.int .i64 (.ofNat 0)),(.int .i64 (.ofNat 0)),(.int .i64 (.ofNat 0)),(.int .i64 (.ofNat 0))] 29 S fun v0 S=>
 cS [(.int .u64 (.ofNat 0)),(.int .u64 (.ofNat 0)),(.int .u64 (.ofNat 0)),(.int .u64 (.ofNat 0)),(.int .i64 (.ofNat 0)),(.int .i64 (.ofNat 0)),(.int .i64 (.ofNat 0)),(.int .i64 (.ofNat 0)),(.int .i64 (.ofNat 0)),(.int .i64 (.ofNat 0)),(.int .i64 (.ofNat 0)),(.int .i64 (.ofNat 0))] [(0,1,(.int .u64 (.ofNat 23))),(1,1,(.int .u64 (.ofNat 11))),(2,1,(.int .u64 (.ofNat 4))),(3,1,(.int .u64 (.ofNat 9))),(4,1,(.int .i64 (.ofNat 5))),(5,1,(.int .i64 (.ofNat 4))),(6,1,(.int .i64 (.ofNat 1))),(7,1,(.int .i64 (.ofNat 1))),(8,1,(.int .i64 (.ofNat 1))),(9,1,(.int .i64 (.ofNat 1))),(10,1,(.int .i64 (.ofNat 1))),(11,1,(.int .i64 (.ofNat 1)))] fun v1=>
 nI 12 v0 v1 S fun S=>
 bR 12 v0 S fun v2 _=>
 bF v2 S K
theorem Sh (x:VE) (S:Hp) (K:KV):jX PP bK GQ x [] S K=ZF x S K:=by kernel_rfl
end Go.Am
set_option maxRecDepth 8000
namespace Go.Am
open Go.Proofs.OG
structure Tu where
 e:En
 of:Nat
 fr:Int
def tuC (t:Tu):List Dt:=[.int .u8 (.ofNat t.e.kind),.int .i64 t.e.id,.int .i64 t.e.ep,.list (kW t.e.x) t.e.x.length,.list (eL t.e.fC) t.e.fC.length,.list (kW t.e.next) t.e.next.length,.list (ME t.e.gN) t.e.gN.length,.int .u8 (.ofNat t.of),.int .i64 t.fr]
def Ca:List Tu->List Dt
 | []=>[]
 | t::l=>tuC t++Ca l
theorem Yc (t:Tu):(tuC t).length=9:=rfl
theorem aEO (l:List Tu):(Ca l).length=l.length*9:=by induction l with | nil=>rfl | cons a l ih=>unfold Ca;rw [kI,ih,Yc,oX];omega
theorem aI1{l:List Tu}:∀{i:Nat} {t:Tu},l[i]? =some t->i*9+9<=(Ca l).length/\((Ca l).drop (i*9)).take 9=tuC t:=by
 induction l with
 | nil=>intro i t h;cases h
 | cons a l ih=>
  intro i t h
  match i,h with
  | 0,h=>
   injection h with h;subst h;refine⟨by rw [aEO,oX];omega,?_⟩;unfold Ca;rw [Af,xO];exact List.take_left' (Yc a)
  | i+1,h=>
   obtain⟨h1,h2⟩:=ih (i:=i) h;refine⟨by rw [aEO]at h1 ⊢;rw [oX];omega,?_⟩;unfold Ca;rw [show(i+1)*9=9+i*9 by omega,<-Ac,List.drop_left' (Yc a)];exact h2
theorem Lk{l:List Tu}{i k:Nat}{t:Tu}{d:Dt} (h:l[i]? =some t) (hk:(tuC t)[k]? =some d):(Ca l)[i*9+k]? =some d:=by
 obtain⟨h1,h2⟩:=aI1 h;have hk9:k<9:=(List.getElem?_eq_some_iff.1 hk).1;rw [<-h2,sC,aO hk9,qY]at hk;exact hk
structure WK (t:Tu):Prop where
 kind:t.e.kind<256
 of:t.of<256
 id: -9223372036854775808<=t.e.id/\t.e.id<9223372036854775808
 fr: -9223372036854775808<=t.fr/\t.fr<9223372036854775808
 x:t.e.x.length<=140737488355328
 next:t.e.next.length<=140737488355328
 fC:Jy t.e.fC
 gN:t.e.gN.length<=140737488355328
 Ot:∀d∈t.e.gN,Jy d.2
def aGg (t:Tu):Prop:=t.e.x.length<3000/\t.e.next.length<3000/\t.e.gN.length<3000
theorem WK.sz{t:Tu} (h:WK t) (s:aGg t):aBm t.e:=⟨h.kind,by have:=s.1;omega,h.fC,by have:=s.2.1;omega,by have:=s.2.2;omega,h.Ot⟩
section
variable{M n:Nat}{x:VE}{S:Hp}{K:KV}{two:Bool}
theorem aO1:gM yX=none:=rfl
theorem aO2:gM yY=none:=rfl
theorem aI2 (hM:1000000<M) (hx:Deep PP bK gM M (n+1) x){O:Tag}{ls:List (List Nat)} (h:Jy ls) (hK:∀N,N<=200000000000000->K (ni N) S):x.call yX [.list O (eL ls) ls.length] S K:=by
 refine hx.call aO1 fun y hy=>?_;rw [Yd];unfold Eg;rw [hy.most];have hl:=h.1
 have go:∀(r N i m:Nat) (S1:Hp),500<=N+r->r<m->N<=200000000000000->bU S S1->uZ y m (.list O (eL ls) ls.length) (ni N) (ni i) S1 K:=by
  intro r;induction r with
  | zero=>
   intro N i m S1 hr hm hN hs;obtain⟨m,rfl⟩:=bH (show m≠0 by omega);rw [IU];unfold AA;refine tJ S hs ?_;rw [cZ,aQ];by_cases c:i<ls.length
   ·rw [bI c,aE,aN];try dsimp only
    rw [aE,aN];try dsimp only
    show aJ PP .lss 3 (ni N) (ni 500) _;rw [aQ,jM (by omega)];try dsimp only
    rw [aE,dI,bE];exact aM (hK N hN)
   ·rw [bO c,aE,iS];try dsimp only
    rw [aE,iS];try dsimp only
    rw [aE,dJ,bE];exact aM (hK N hN)
  | succ r ih=>
   intro N i m S1 hr hm hN hs;obtain⟨m,rfl⟩:=bH (show m≠0 by omega);rw [IU];unfold AA;refine tJ S hs ?_;rw [cZ,aQ];by_cases c:i<ls.length
   ·rw [bI c,aE,aN];try dsimp only
    rw [aE,aN];try dsimp only
    show aJ PP .lss 3 (ni N) (ni 500) _;rw [aQ];try dsimp only
    rw [aE,dI];by_cases c2:N<500
    ·have QA:(eL ls)[i*1]? =some (.list (kK ls[i]) ls[i].length):=by rw [kX];unfold eL;rw [eH,aT c];rfl
     have hc:=(h.2 _ (cO c)).2;rw [bI c2,bW,bG (by omega),jL c,yA,cX QA];show bP (.list (.sub O (i*1)) (kK ls[i]) ls[i].length) _;rw [cZ,bG (by omega),bG (by omega)];exact ih _ (i+1) m S (by omega) (by omega) (by omega) (.refl _)
    ·rw [bO c2,bE]
     exact aM (hK N hN)
   ·rw [bO c,aE,iS];try dsimp only
    rw [aE,iS];try dsimp only
    rw [aE,dJ,bE];exact aM (hK N hN)
 exact go 500 0 0 M S (by omega) (by omega) (by omega) (.refl _)
theorem aO3{l:List (Int×List (List Nat))}:∀{i:Nat} {a:Int×List (List Nat)},l[i]? =some a->(ME l)[i*2+1]? =some (.list (eL a.2) a.2.length):=by
 induction l with
 | nil=>intro i a h;cases h
 | cons b l ih=>
  intro i a h
  match i,h with
  | 0,h=>injection h with h;subst h;rfl
  | i+1,h=>
   rw [show(i+1)*2+1=i*2+1+2 by omega];exact ih (i:=i) h
theorem aO4 (hM:1000000<M) (hx:Deep PP bK gM M (n+2) x){O:Tag}{ts:List Tu} (hr:∀t∈ts,WK t) (hl:ts.length<=140737488355328) (hK:∀b,(b=false->(∀t∈ts,aGg t)/\ts.length<=150)->K (.bool b) S):x.call yY [.list O (Ca ts) ts.length] S K:=by
 refine hx.call aO2 fun y hy=>?_;rw [Ye];unfold Eh;rw [hy.most]
 have fin:∀(N i:Nat) (S1:Hp),bU S S1->N<=4000000000000000->20*i<=N->(N<3000->∀j t,j<i->ts[j]? =some t->aGg t)->(ts.length<=i\/3000<=N)->aJ PP .geq 3 (ni N) (.int .i64 (.ofNat 3000)) fun ZE=>bF ZE S1 K:=by
  intro N i S1 hs hN h20 Ul hex;show aJ PP .geq 3 (ni N) (ni 3000) _;rw [zX];refine bL hs (hK _ fun hb=>?_);have hb:¬3000<=N:=of_decide_eq_false hb;rcases hex with hex | hex
  ·refine⟨fun t ht=>?_,by omega⟩
   obtain⟨j,hj,rfl⟩:=ZY ht;exact Ul (by omega) j _ (by omega) (aT hj)
  ·exact bC hex hb
 have go:∀(r N i m:Nat) (S1:Hp),150<=i+r->r<m->N<=4000000000000000->20*i<=N->(N<3000->∀j t,j<i->ts[j]? =some t->aGg t)->i<=ts.length->bU S S1->pU y m (.list O (Ca ts) ts.length) (ni N) (ni i) S1 K:=by
  intro r;induction r with
  | zero=>
   intro N i m S1 hr1 hm hN h20 Ul hil hs;obtain⟨m,rfl⟩:=bH (show m≠0 by omega);rw [IV];unfold AB;refine aF ?_;rw [cZ,aQ];by_cases c:i<ts.length
   ·rw [bI c,aE,aN];try dsimp only
    rw [aE,aN];try dsimp only
    show aJ PP .lss 3 (ni N) (ni 3000) _;rw [aQ,jM (by omega)];try dsimp only
    rw [aE,dI,bE];exact fin N i S1 hs hN h20 Ul (.inr (by omega))
   ·rw [bO c,aE,iS];try dsimp only
    rw [aE,iS];try dsimp only
    rw [aE,dJ,bE];exact fin N i S1 hs hN h20 Ul (.inl (by omega))
  | succ r ih=>
   intro N i m S1 hr1 hm hN h20 Ul hil hs;obtain⟨m,rfl⟩:=bH (show m≠0 by omega);rw [IV];unfold AB;refine aF ?_;rw [cZ,aQ];by_cases c:i<ts.length
   ·rw [bI c,aE,aN];try dsimp only
    rw [aE,aN];try dsimp only
    show aJ PP .lss 3 (ni N) (ni 3000) _;rw [aQ];try dsimp only
    rw [aE,dI];by_cases c2:N<3000
    ·have ht:ts[i]? =some ts[i]:=aT c
     have Ov:=hr _ (cO c);generalize ts[i]=t at ht Ov;have h3:(Ca ts)[i*9+0+3]? =some (.list (kW t.e.x) t.e.x.length):=Lk ht rfl;have h5:(Ca ts)[i*9+0+5]? =some (.list (kW t.e.next) t.e.next.length):=Lk ht rfl;have h4:(Ca ts)[i*9+0+4]? =some (.list (eL t.e.fC) t.e.fC.length):=Lk ht rfl;have h6:(Ca ts)[i*9+0+6]? =some (.list (ME t.e.gN) t.e.gN.length):=Lk ht rfl;have lx:=Ov.x;have ln:=Ov.next;have ld:=Ov.gN;have sm:∀{t:Tag} {cs:List Dt} {n:Nat} {p:Prop},aU (.list t cs n) (.list t cs n) p=p:=fun {t cs n p}=>cN rfl;have e3:∀{S:Hp} {K:KV},aW (.uB O (Ca ts) (i*9+0+3)) S K=K (.list (.sub O (i*9+0+3)) (kW t.e.x) t.e.x.length) S:=fun {S K}=>by rw [yA,cX h3];rfl
     have e5:∀{S:Hp} {K:KV},aW (.uB O (Ca ts) (i*9+0+5)) S K=K (.list (.sub O (i*9+0+5)) (kW t.e.next) t.e.next.length) S:=fun {S K}=>by rw [yA,cX h5];rfl
     have e4:∀{S:Hp} {K:KV},aW (.uB O (Ca ts) (i*9+0+4)) S K=K (.list (.sub O (i*9+0+4)) (eL t.e.fC) t.e.fC.length) S:=fun {S K}=>by rw [yA,cX h4];rfl
     have e6:∀{S:Hp} {K:KV},aW (.uB O (Ca ts) (i*9+0+6)) S K=K (.list (.sub O (i*9+0+6)) (ME t.e.gN) t.e.gN.length) S:=fun {S K}=>by rw [yA,cX h6];rfl
     rw [bI c2,bW,bG (by omega),jL c,FZ,FZ,e3,cZ,bG (by omega),jL c,FZ,FZ,e5,cZ,bG (by omega),jL c,FZ,FZ,e4];refine aI2 hM hy Ov.fC fun N1 hN1=>?_;rw [e5,sm,e3,sm,bG (by omega),hy.most]
     have inner:∀(q N2 k m2:Nat) (S2:Hp),3000<=N2+q->q<m2->N2<=4000000000000000->20*(i+1)<=N2->t.e.x.length<=N2->t.e.next.length<=N2->k<=N2->k<=t.e.gN.length->(N2<3000->∀j t,j<i->ts[j]? =some t->aGg t)->bU S S2->mM y m2 m (.list O (Ca ts) ts.length) (ni N2) (ni i) (ni k) S2 K:=by
      intro q;induction q with
      | zero=>
       intro N2 k m2 S2 hq XL hN2 aLZ Wa hn2 vO hkd aO5 uA;obtain⟨m2,rfl⟩:=bH (show m2≠0 by omega);rw [yE];unfold pV;refine aF ?_;have go2:pU y m (.list O (Ca ts) ts.length) (ni N2) (ni (i+1)) S2 K:=ih N2 (i+1) m S2 (by omega) (by omega) hN2 aLZ (fun h=>by omega) (by omega) uA;rw [jL c,FZ,FZ,e6,cZ,aQ];by_cases d:k<t.e.gN.length
       ·rw [bI d,aE,aN];try dsimp only
        rw [aE,aN];try dsimp only
        show aJ PP .lss 3 (ni N2) (ni 3000) _;rw [aQ,jM (by omega)];try dsimp only
        rw [aE,dI,bE,bG (by omega)];exact go2
       ·rw [bO d,aE,iS];try dsimp only
        rw [aE,iS];try dsimp only
        rw [aE,dJ,bE,bG (by omega)];exact go2
      | succ q ih2=>
       intro N2 k m2 S2 hq XL hN2 aLZ Wa hn2 vO hkd aO5 uA;obtain⟨m2,rfl⟩:=bH (show m2≠0 by omega);rw [yE];unfold pV;refine aF ?_;rw [jL c,FZ,FZ,e6,cZ,aQ];by_cases d:k<t.e.gN.length
       ·rw [bI d,aE,aN];try dsimp only
        rw [aE,aN];try dsimp only
        show aJ PP .lss 3 (ni N2) (ni 3000) _;rw [aQ];try dsimp only
        rw [aE,dI];by_cases d2:N2<3000
        ·have hdk:=aO3 (aT d)
         have hdl:=Ov.Ot _ (cO d);rw [bI d2,bW,bG (by omega),jL c,FZ,FZ,e6,jL d,FZ,yA,cX hdk];refine aI2 hM hy hdl fun N3 hN3=>?_;rw [bG (by omega),bG (by omega)];exact ih2 _ (k+1) m2 S2 (by omega) (by omega) (by omega) (by omega) (by omega) (by omega) (by omega) (by omega) (fun h=>aO5 (by omega)) uA
        ·rw [bO d2,bE,bG (by omega)]
         exact ih N2 (i+1) m S2 (by omega) (by omega) hN2 aLZ (fun h=>bC h d2) (by omega) uA
       ·rw [bO d,aE,iS];try dsimp only
        rw [aE,iS];try dsimp only
        rw [aE,dJ,bE,bG (by omega)];refine ih N2 (i+1) m S2 (by omega) (by omega) hN2 aLZ (fun h j t' hj ht'=>?_) (by omega) uA;rcases BI j i with Zx | Zx
        ·exact aO5 h j t' Zx ht'
        ·obtain rfl:j=i:=by omega
         rw [ht]at ht';injection ht' with ht';subst ht';exact⟨by omega,by omega,by omega⟩
     exact inner 3000 _ 0 M S1 (by omega) (by omega) (by omega) (by omega) (by omega) (by omega) (by omega) (by omega) (fun h=>Ul (by omega)) hs
    ·rw [bO c2,bE]
     exact fin N i S1 hs hN h20 Ul (.inr (by omega))
   ·rw [bO c,aE,iS];try dsimp only
    rw [aE,iS];try dsimp only
    rw [aE,dJ,bE];exact fin N i S1 hs hN h20 Ul (.inl (by omega))
 exact go 150 0 0 M S (by omega) (by omega) (by omega) (by omega) (fun _ j t h=>bC h (by omega)) (by omega) (.refl _)
end
end Go.Am
set_option maxRecDepth 100000
namespace Go.Am
open Go.RowKit Go.MapKept Go.Proofs
section
variable{S:St}{C:Nat->Prop}
theorem aGD{α:Type}{f:α->List Dt}{w:Nat} (hf:∀a,(f a).length=w) (l:List α):(l.flatMap f).length=l.length*w:=by
 induction l with
 | nil=>simp
 | cons a l ih=>rw [Lx,kI,ih,hf,oX,Ai];omega
theorem aGE{α:Type}{f:α->List Dt}{w:Nat} (hf:∀a,(f a).length=w):∀(l:List α) (j:Nat) (d:Dt),(l.flatMap f)[j]? =some d->0<w->∃k i a,j=k*w+i/\i<w/\l[k]? =some a/\(f a)[i]? =some d:=by
 intro l;induction l with
 | nil=>intro j d h;simp at h
 | cons a l ih=>
  intro j d h hw;rw [Lx]at h;by_cases c:j<w
  ·rw [gO (by rw [hf];exact c)]at h
   exact⟨0,j,a,by omega,c,rfl,h⟩
  ·rw [kH (by rw [hf];omega),hf]at h
   obtain⟨k,i,a',h1,h2,h3,h4⟩:=ih _ _ h hw;exact⟨k+1,i,a',by rw [Ai];omega,h2,h3,h4⟩
theorem Qa{its:List It}{v:Value}{d:D} (h:Rd S C (.list its) v d){α:Type} (f:α->List Dt) (g:α->Prop) (hp:0<its.length) (hlen:∀a,(f a).length=its.length)
 (hf:∀(vs:List Value) (ds:List D),RdA S C its vs ds->∃a,(∀(j:Nat) (d:Dt) (v:Value),(f a)[j]? =some d->vs[j]? =some v->YJ S C d v)/\g a):
 ∃l:List α,YJ S C (.list (l.flatMap f) l.length) v/\(∀a∈l,g a)/\l.length<=140737488355328/\l.length*aCx its<=140737488355328:=by
 cases h with
 | empty=>exact⟨[],.nil,(fun a h=>by cases h),zT _,by simp⟩
 | Wu=>exact⟨[],.emp,(fun a h=>by cases h),zT _,by simp⟩
 | @row _ b o n c sp vs e ck es BA hb hC ho hw hn hl hd hN hnc hr=>
  have each:∀k:Nat,k<n->∃a:α,(∀(j:Nat) (d:Dt) (v:Value),(f a)[j]? =some d->vs[o+k*its.length+j]? =some v->YJ S C d v)/\g a:=by
   intro k hk;have Wl:k<es.length:=by omega
   have hds:=hd es[k] (cO Wl)
   have hle:k*its.length+its.length<=n*its.length:=by
    have:(k+1)*its.length<=n*its.length:=QD _ hk
    rwa [KC,Nat.one_mul]at this
   obtain⟨a,h1,h2⟩:=hf ((vs.drop (o+k*its.length)).take its.length) es[k] ⟨by rw [mU,IA];omega,hds,fun j it v d a1 a2 a3=>by
    rw [sC]at a2;split at a2
    ·rw [qY]at a2
     exact hr k es[k] j it v d (aT Wl) a1 a2 a3
    ·cases a2⟩
   refine⟨a,fun j d v e1 e2=>h1 j d v e1 ?_,h2⟩;have:j<its.length:=by rw [<-hlen a];exact(List.getElem?_eq_some_iff.1 e1).1
   rw [sC,aO this,qY];exact e2
  rcases NP n with h0 | h0
  ·subst h0
   exact⟨[],.row BA hb hC ho (by simp;omega) hnc (fun j d v e=>by simp at e),(fun a h=>by cases h),zT _,by simp⟩
  ·obtain⟨a0,_⟩:=each 0 h0
   let F:Nat->α:=fun k=>if h:k<n then(each k h).choose else a0
   have hF:∀k,k<n->(∀(j:Nat) (d:Dt) (v:Value),(f (F k))[j]? =some d->vs[o+k*its.length+j]? =some v->YJ S C d v)/\g (F k):=fun k h=>by
    show(∀(j:Nat) (d:Dt) (v:Value),(f (if h:k<n then(each k h).choose else a0))[j]? =some d->vs[o+k*its.length+j]? =some v->YJ S C d v)/\g (if h:k<n then(each k h).choose else a0);rw [dif_pos h];exact(each k h).choose_spec
   refine⟨(List.range n).map F,?_,fun a ha=>?_,by simpa using hN.1,by simpa using hN.2⟩
   ·have:YJ S C (.list (((List.range n).map F).flatMap f) n) (.slice (some ⟨b,o,sp⟩) n c):=by
     refine .row BA hb hC ho (by rw [aGD hlen];simpa using hl) hnc fun j d v e1 e2=>?_;obtain⟨k,i,a,q1,q2,q3,q4⟩:=aGE hlen _ _ _ e1 hp;rw [eH]at q3;cases hj:(List.range n)[k]? with
     | none=>rw [hj]at q3;cases q3
     | some q=>
      rw [hj]at q3;injection q3 with q3;have hjn:k<n:=by have:=(List.getElem?_eq_some_iff.1 hj).1;simpa using this
      rw [ZX hjn]at hj;injection hj with hj;subst hj q3 q1;exact(hF k hjn).1 i d v q4 (by rw [uP];exact e2)
    simpa using this
   ·obtain⟨k,hk,rfl⟩:=List.mem_map.1 ha
    exact(hF k (by simpa using hk)).2
theorem aJZ{α:Type} (f:α->Dt) (l:List α):l.flatMap (fun a=>[f a])=l.map f:=by
 induction l with
 | nil=>rfl
 | cons a l ih=>rw [Lx,ih];rfl
theorem RdA.at{its:List It}{vs:List Value}{ds:List D} (h:RdA S C its vs ds){j:Nat}{it:It}{v:Value} (h1:its[j]? =some it) (h2:vs[j]? =some v):∃d,Rd S C it v d:=by
 have:j<ds.length:=by rw [h.Wt];exact(List.getElem?_eq_some_iff.1 h1).1
 exact⟨_,h.rd j it v _ h1 h2 (aT this)⟩
theorem RdA.ex{its:List It}{vs:List Value}{ds:List D} (h:RdA S C its vs ds){j:Nat}{it:It} (h1:its[j]? =some it):∃v d,vs[j]? =some v/\Rd S C it v d:=by
 have:j<vs.length:=by rw [h.len];exact(List.getElem?_eq_some_iff.1 h1).1
 obtain⟨d,hd⟩:=h.at h1 (aT this);exact⟨_,d,aT this,hd⟩
theorem aJ0{it:It}{v:Value}{d:D} (h:Rd S C (.list [it]) v d){α:Type} (f:α->Dt) (g:α->Prop) (hf:∀(v:Value) (d:D),Rd S C it v d->∃a,YJ S C (f a) v/\g a):∃l:List α,YJ S C (.list (l.map f) l.length) v/\(∀a∈l,g a)/\l.length<=140737488355328/\l.length*wIt it<=140737488355328:=by
 obtain⟨l,h1,h2,h3,h4⟩:=Qa h (fun a=>[f a]) g (Nat.zero_lt_one) (fun _=>rfl) (fun vs ds hr=>by
  obtain⟨u,d,q1,q2⟩:=hr.ex (j:=0) rfl;obtain⟨a,q3,q4⟩:=hf u d q2;refine⟨a,fun j d v e1 e2=>?_,q4⟩
  match j,e1 with
  | 0,e1=>injection e1 with e1;rw [q1]at e2;injection e2 with e2;subst e1 e2;exact q3)
 rw [aJZ]at h1;exact⟨l,h1,h2,h3,by simpa [aCx]using h4⟩
theorem aE5{v:Value}{d:D} (h:Rd S C (.list [.int]) v d):∃l:List Int,YJ S C (.list (kW l) l.length) v/\l.length<=140737488355328:=by
 obtain⟨l,h1,_,h3,_⟩:=aJ0 h (fun z:Int=>Dt.int .i64 z) (fun _=>True) fun v d q=>by cases q with | @int z h h2=>exact⟨z,.int,trivial⟩
 exact⟨l,h1,h3⟩
theorem aMn{v:Value}{d:D} (h:Rd S C .Gt v d):∃l:List Nat,YJ S C (.list (kK l) l.length) v/\LC l/\l.length*8<=140737488355328:=by
 cases h with
 | Gt h=>
  obtain⟨l,h1,h2,_,h4⟩:=aJ0 h (fun z:Nat=>Dt.int .u64 (.ofNat z)) EQ fun v d q=>by cases q with | @num z h=>exact⟨z,.int,h⟩
  exact⟨l,h1,h2,h4⟩
theorem aNG{v:Value}{d:D} (h:Rd S C (.list [.Gt]) v d):∃l:List (List Nat),YJ S C (.list (eL l) l.length) v/\Jy l:=by
 obtain⟨l,h1,h2,_,h4⟩:=aJ0 h (fun l:List Nat=>Dt.list (kK l) l.length) (fun c=>LC c/\c.length*8<=140737488355328) fun v d q=>aMn q;exact⟨l,h1,h4,h2⟩
def dlC (a:Int×List (List Nat)):List Dt:=[.int .i64 a.1,.list (eL a.2) a.2.length]
theorem aJ1 (l:List (Int×List (List Nat))):l.flatMap dlC=ME l:=by
 induction l with
 | nil=>rfl
 | cons a l ih=>rw [Lx,ih];rfl
theorem aJ2 (l:List Tu):l.flatMap tuC=Ca l:=by
 induction l with
 | nil=>rfl
 | cons a l ih=>rw [Lx,ih];rfl
theorem aJ3{v:Value}{d:D} (h:Rd S C (.list [.int,.list [.Gt]]) v d):∃l:List (Int×List (List Nat)),YJ S C (.list (ME l) l.length) v/\l.length<=140737488355328/\∀a∈l,Jy a.2:=by
 obtain⟨l,h1,h2,h3,_⟩:=Qa h dlC (fun a=>Jy a.2) (by decide) (fun _=>rfl) (fun vs ds hr=>by
  obtain⟨u,d,q1,q2⟩:=hr.ex (j:=0) rfl;obtain⟨u1,d1,p1,p2⟩:=hr.ex (j:=1) rfl;obtain⟨l,p3,p4⟩:=aNG p2;cases q2 with
  | @int z g1 g2=>
   refine⟨(z,l),fun j d v e1 e2=>?_,p4⟩
   match j,e1 with
   | 0,e1=>injection e1 with e1;rw [q1]at e2;injection e2 with e2;subst e1 e2;exact .int
   | 1,e1=>injection e1 with e1;rw [p1]at e2;injection e2 with e2;subst e1 e2;exact p3)
 rw [aJ1]at h1;exact⟨l,h1,h3,h2⟩
def aMo:List It:=[.kind,.int,.int,.list [.int],.list [.Gt],.list [.int],.list [.int,.list [.Gt]],.kind,.int]
theorem aMp{vs:List Value}{ds:List D} (hr:RdA S C aMo vs ds):∃t:Tu,(∀(j:Nat) (d:Dt) (v:Value),(tuC t)[j]? =some d->vs[j]? =some v->YJ S C d v)/\WK t:=by
 obtain⟨u0,d0,a0,b0⟩:=hr.ex (j:=0) rfl;obtain⟨u1,d1,a1,b1⟩:=hr.ex (j:=1) rfl;obtain⟨u2,d2,a2,b2⟩:=hr.ex (j:=2) rfl;obtain⟨u3,d3,a3,b3⟩:=hr.ex (j:=3) rfl;obtain⟨u4,d4,a4,b4⟩:=hr.ex (j:=4) rfl;obtain⟨u5,d5,a5,b5⟩:=hr.ex (j:=5) rfl;obtain⟨u6,d6,a6,b6⟩:=hr.ex (j:=6) rfl;obtain⟨u7,d7,a7,b7⟩:=hr.ex (j:=7) rfl;obtain⟨u8,d8,a8,b8⟩:=hr.ex (j:=8) rfl;obtain⟨kind,rfl,_,hk⟩:=b0.aAV;obtain⟨id,rfl,_,IQ,hi2⟩:=b1.Wv;obtain⟨ep,rfl,_,_⟩:=b2.Wv;obtain⟨x,g3,l3⟩:=aE5 b3;obtain⟨fC,g4,l4⟩:=aNG b4;obtain⟨next,g5,l5⟩:=aE5 b5;obtain⟨gN,g6,l6,l6'⟩:=aJ3 b6;obtain⟨of,rfl,_,ho⟩:=b7.aAV;obtain⟨fr,rfl,_,hf1,hf2⟩:=b8.Wv;refine⟨⟨⟨kind,id,ep,x,fC,next,gN⟩,of,fr⟩,fun j d v e1 e2=>?_,⟨hk,ho,⟨IQ,hi2⟩,⟨hf1,hf2⟩,l3,l5,l4,l6,l6'⟩⟩
 match j,e1 with
 | 0,e1=>injection e1 with e1;rw [a0]at e2;injection e2 with e2;subst e1 e2;exact .int
 | 1,e1=>injection e1 with e1;rw [a1]at e2;injection e2 with e2;subst e1 e2;exact .int
 | 2,e1=>injection e1 with e1;rw [a2]at e2;injection e2 with e2;subst e1 e2;exact .int
 | 3,e1=>injection e1 with e1;rw [a3]at e2;injection e2 with e2;subst e1 e2;exact g3
 | 4,e1=>injection e1 with e1;rw [a4]at e2;injection e2 with e2;subst e1 e2;exact g4
 | 5,e1=>injection e1 with e1;rw [a5]at e2;injection e2 with e2;subst e1 e2;exact g5
 | 6,e1=>injection e1 with e1;rw [a6]at e2;injection e2 with e2;subst e1 e2;exact g6
 | 7,e1=>injection e1 with e1;rw [a7]at e2;injection e2 with e2;subst e1 e2;exact .int
 | 8,e1=>injection e1 with e1;rw [a8]at e2;injection e2 with e2;subst e1 e2;exact .int
theorem aJ4{v:Value}{d:D} (h:Rd S C (.list aMo) v d):∃ts:List Tu,YJ S C (.list (Ca ts) ts.length) v/\(∀t∈ts,WK t)/\ts.length<=140737488355328:=by
 obtain⟨l,h1,h2,h3,_⟩:=Qa h tuC WK (by decide) (fun _=>rfl) (fun vs ds hr=>aMp hr);rw [aJ2]at h1;exact⟨l,h1,h2,h3⟩
end
end Go.Am
set_option maxRecDepth 100000
namespace Go.Am
end Go.Am
set_option maxRecDepth 8000
namespace Go.Am
open Go.Proofs.OG Go.Mq
def Yf:Bh:=⟨0,[1,2,3,4],[],[],[]⟩
def XM (two:Bool) (t:Nat) (sh:V) (O:Nat->Tag) (s:Bh):List V:=pv two++(.ptr t 0::sh::pK O s)
section
variable{M n:Nat}{x:VE}{S:Hp}{K:KV}{two:Bool}
theorem aL0:gM GQ=none:=rfl
theorem aO6:gM HK=none:=rfl
theorem aL1:gM GR=none:=rfl
theorem aL2 (hx:Deep PP bK gM M (n+1) x) (hK:K (.agg (pv true)) S):x.call GQ [] S K:=by
 refine hx.call aL0 fun y hy=>?_;rw [Sh];unfold ZF;refine cG rfl fun b hb=>?_;unfold cS rR;show iF _ [nu 0,nu 0,nu 0,nu 0,ni 0,ni 0,ni 0,ni 0,ni 0,ni 0,ni 0,ni 0] _
 iterate 12 (refine⟨rfl,cJ rfl,?_⟩)
 show(nI 12 (.ptr b 0) (.agg (pv true)) (aL S b (.row [nu 0,nu 0,nu 0,nu 0,ni 0,ni 0,ni 0,ni 0,ni 0,ni 0,ni 0,ni 0] 29)) fun S=>bR 12 (.ptr b 0) S fun v2 _=>bF v2 S K);refine iH (n:=12) (i:=b) aB jN rfl rfl ?_;refine kQ (n:=12) (i:=b) aB rfl ?_;exact bL (fun j o q=>by rw [fD,aC (fun c=>by rw [c,hb]at q;cases q)];exact q) hK
theorem aO7 (hM:1000000<M) (hx:Deep PP bK gM M (n+2) x) (hK:∀O,K (.agg (pK O Yf)) S):x.call HK [.agg (pv two)] S K:=by
 refine hx.call aO6 fun y hy=>?_;rw [aBn];unfold Ja;refine cC jN fun p hp=>?_;have dL:bU S (aL S p (.row (pv two) 29)):= .aK hp;have rp:aL S p (.row (pv two) 29) p=some (.row (pv two) 29):=aB;generalize aL S p (.row (pv two) 29)=S1 at dL rp;refine cG (l:=[ni 0,.nil,.nil,.nil,.nil]) rfl fun r hr=>?_;have fO:bU S1 (aL S1 r (.row [ni 0,.nil,.nil,.nil,.nil] 36)):= .aK hr;have rr:aL S1 r (.row [ni 0,.nil,.nil,.nil,.nil] 36) r=some (.row [ni 0,.nil,.nil,.nil,.nil] 36):=aB;have ET:S r=none:=dL.none hr;generalize aL S1 r (.row [ni 0,.nil,.nil,.nil,.nil] 36)=S2 at fO rr;rw [lA (fO _ _ rp)];refine aEF (two:=two) hy ?_;rw [rC,fL,bE];refine cG (l:=[ni 0,.nil,.nil,.nil,.nil]) rfl fun q hq=>?_;have pR:bU S2 (aL S2 q (.row [ni 0,.nil,.nil,.nil,.nil] 36)):= .aK hq;have rq:aL S2 q (.row [ni 0,.nil,.nil,.nil,.nil] 36) q=some (.row [ni 0,.nil,.nil,.nil,.nil] 36):=aB;have hq0:S q=none:=dL.none (fO.none hq);have hqr:q≠r:=fun c=>by rw [c,rr]at hq;cases hq
 have rr3:=pR _ _ rr;have EN:=(dL.trans fO).trans pR;have Ju:=pR _ _ (fO _ _ rp);generalize aL S2 q (.row [ni 0,.nil,.nil,.nil,.nil] 36)=S3 at EN rq rr3 Ju;rw [aZ,cT (o:=0+5) Ju rfl];obtain⟨M',EM⟩:∃k,M=k+1+1+1+1+1:=⟨M-5,by omega⟩;rw [hy.most,EM]
 have step:∀(i m:Nat) (u:V) (acc:List Int) (S4:Hp),i<4->acc.length<=4->bU S S4->GL 3 S S4 u (kW acc)->S4 q=some (.row [ni 0,u,.nil,.nil,.nil] 36)->S4 r=some (.row [ni 0,.nil,.nil,.nil,.nil] 36)->
  (∀u' S',bU S S'->GL 3 S S' u' (kW (acc++[((i+1:Nat):Int)]))->S' q=some (.row [ni 0,u',.nil,.nil,.nil] 36)->S' r=some (.row [ni 0,.nil,.nil,.nil,.nil] 36)->pW y m (.ptr r 0) (.ptr q 0) (ni 4) (ni (i+1)) S' K)->
  pW y (m+1) (.ptr r 0) (.ptr q 0) (ni 4) (ni i) S4 K:=by
  intro i m u acc S4 hi hal hs hg rq4 Lj hk;rw [IW];unfold AC;refine aF ?_;rw [aQ,zJ hi,bW,aZ,cT (o:=0+1) rq4 rfl,bG (by omega)];refine hg.app (t:= .root 0) (d:= .int .i64 ((i+1:Nat):Int)) hs (by rw [EB];omega) (zv:=ni 0) rfl (by decide) fun u' S5 EW k5 o5 g5=>?_
  have oM:∀{b:Nat} {o:Ob},S4 b=some o->(∀vs e m,o≠ .gD vs e m)->S5 b=some o:=fun {b o} e ho=>k5 _ _ e fun m c=>by
   obtain⟨vs,n,q2⟩:=hg.there c;rw [e]at q2;injection q2 with q2;exact ho _ _ _ q2
  have rq5:=oM rq4 (fun vs e m c=>by cases c);have rr5:=oM Lj (fun vs e m c=>by cases c);rw [aZ,DV rq5 (show 0+1<5 by decide) g5.one,bG (by omega)];have e1:kW acc++[.int .i64 ((i+1:Nat):Int)]=kW (acc++[((i+1:Nat):Int)]):=by unfold kW;rw [QE];rfl
  rw [e1]at g5;exact hk u' _ (fun j o e=>by rw [aC (fun c=>by rw [c,hq0]at e;cases e)];exact EW _ _ e) (g5.set rq5 fun vs m c=>by cases c) aB (by rw [aC (aP hqr)];exact rr5)
 refine step 0 _ .nil [] S3 (by decide) (by decide) EN .nil rq rr3 fun u1 S4 IS g4 q4 r4=>?_;refine step 1 _ u1 [1] S4 (by decide) (by decide) IS g4 q4 r4 fun u2 S5 EW g5 q5 r5=>?_;refine step 2 _ u2 [1,2] S5 (by decide) (by decide) EW g5 q5 r5 fun u3 S6 UA g6 q6 r6=>?_;refine step 3 _ u3 [1,2,3] S6 (by decide) (by decide) UA g6 q6 r6 fun u4 S7 le7 g7 q7 r7=>?_;have g7:GL 3 S S7 u4 (kW Yf.mem):=g7;rw [IW];unfold AC;refine aF ?_;rw [aQ,jM (by decide),bE];refine kQ (n:=5) (i:=q) q7 rfl ?_;refine iH (n:=5) (i:=r) r7 (by simp only [UG,List.all_nil,g7.one];rfl) rfl rfl ?_;refine kQ (n:=5) (i:=r) aB rfl ?_;have fu:=(g7.set (o:= .row [ni 0,u4,.nil,.nil,.nil] 36) r7 fun vs m c=>by cases c).Bd;rw [EB]at fu;refine⟨S,fun O=> .agg (pK O Yf),fun j o e=>by rw [aC (fun c=>by rw [c,ET]at e;cases e)];exact le7 j o e,fun O=> .agg ⟨rfl,fun j v u e1 e2=>?_⟩,fun O=>hK O⟩
 match j with
 | 0=>injection e1 with e1;injection e2 with e2;subst e1 e2;exact .mF _
 | 1=>injection e1 with e1;injection e2 with e2;subst e1 e2;exact .ZG fu
 | 2=>injection e1 with e1;injection e2 with e2;subst e1 e2;exact .ZG .nil
 | 3=>injection e1 with e1;injection e2 with e2;subst e1 e2;exact .ZG .nil
 | 4=>injection e1 with e1;injection e2 with e2;subst e1 e2;exact .ZG .nil
 | j+5=>simp at e1
theorem aO8 (hx:Deep PP bK gM M (n+1) x){sd:Nat} (hS:EQ sd) (hK:∀t s S',S t=none->bU S S'->jS S' t s [] 0->K (.ptr t 0) S'):x.call RE [nu sd] S K:=by
 refine hx.call aQ9 fun y hy=>?_;rw [aC3];unfold Ow;refine⟨rfl,by simp,⟨rfl,rfl,by simp,⟨rfl,fun t ht=>aM (hK t (BitVec.ofNat 64 sd) _ ht (.aK ht) ⟨.nil,?_,.nil⟩)⟩⟩⟩;rw [aRa hS];exact aB
theorem aL3 (hM:1000000<M) (hx:Deep PP bK gM M (n+3) x){sd:Nat} (hS:EQ sd) (hK:∀y t s O S',bU S S'->S y=none->S t=none->y≠t->S' y=some (.row (XM true t .nil O Yf) 38)->jS S' t s [] 0->K (.ptr y 0) S'):x.call GR [nu sd] S K:=by
 refine hx.call aL1 fun y hy=>?_;rw [Si];unfold ZH;refine aL2 (n:=n+1) hy ?_;refine cG rfl fun b hb=>?_;refine iH (n:=12) (i:=b) aB jN rfl rfl ?_;rw [fD];have dL:bU S (aL S b (.row (pv true) 29)):= .aK hb;have rb:aL S b (.row (pv true) 29) b=some (.row (pv true) 29):=aB;generalize aL S b (.row (pv true) 29)=S1 at dL rb;have smp:∀{p:Prop},aU (.agg (pv true)) (.agg (pv true)) p=p:=fun {p}=>cN rfl;rw [lA rb,lA rb];refine aO8 (n:=n+1) hy hS fun t s S2 ht fO tp=>?_;rw [lA (fO _ _ rb),smp,lA (fO _ _ rb),smp];refine aO7 (n:=n) hM hy fun O=>?_;rw [lA (fO _ _ rb),smp]
 have Zw:∀{k:V->Prop},k (.agg (XM true t .nil O Yf))->cS [(.int .u64 (.ofNat 0)),(.int .u64 (.ofNat 0)),(.int .u64 (.ofNat 0)),(.int .u64 (.ofNat 0)),(.int .i64 (.ofNat 0)),(.int .i64 (.ofNat 0)),(.int .i64 (.ofNat 0)),(.int .i64 (.ofNat 0)),(.int .i64 (.ofNat 0)),(.int .i64 (.ofNat 0)),(.int .i64 (.ofNat 0)),(.int .i64 (.ofNat 0)),(.pointer none),(.slice none 0 0),(.int .i64 (.ofNat 0)),(.slice none 0 0),(.slice none 0 0),(.slice none 0 0),(.slice none 0 0)] [(0,12,.agg (pv true)),(12,1,.ptr t 0),(14,5,.agg (pK O Yf))] k:=fun {k} hk=>
  ⟨jN,rfl,cJ rfl,rfl,cJ rfl,PI,rfl,cJ rfl,hk⟩
 refine Zw ?_;rw [lA (fO _ _ rb),smp];refine⟨cC rfl fun _ _=>trivial,cC rfl fun q hq=>?_⟩;have pR:bU S2 (aL S2 q (.row (XM true t .nil O Yf) 38)):= .aK hq
 have hqt:q≠t:=fun c=>by
  obtain⟨w,h1,_⟩:=tp;rw [c,h1]at hq;cases hq
 refine aM (hK q t s O _ ((dL.trans fO).trans pR) (dL.none (fO.none hq)) (dL.none ht) hqt aB (tp.at (by rw [aC (aP hqt)])))
end
set_option maxRecDepth 8000
theorem aBo (z:Int):∃N,N<18446744073709551616/\(0<=z->z<18446744073709551616->N=z.toNat)/\∀k:V->Prop,LE .u64 (.int .i64 z) k=k (nu N):=by
 have h:∃N:Nat,N<18446744073709551616/\IntKind.u64.wrap z= .ofNat N/\(0<=z->z<18446744073709551616->N=z.toNat):=by
  refine⟨(z%18446744073709551616).toNat,by omega,?_,fun h1 h2=>by omega⟩;simp [IntKind.wrap,IntKind.bits,IntKind.signed];omega
 obtain⟨N,h1,h2,h3⟩:=h;refine⟨N,h1,h3,fun k=>?_⟩;show k (.int .u64 (sM .u64 z))=_;rw [KG,h2]
theorem aO9{N:Nat} (h:N<4611686018427387904){k:V->Prop}:LE .i64 (nu N) k=k (ni N):=by
 show k (.int .i64 (sM .i64 (.ofNat N)))=_;rw [aFZ (by omega)]
def shC (sh:List (List (Nat×Nat))):List Dt:=sh.map fun l=> .list (pds l) l.length
inductive Shs:V->List (List (Nat×Nat))->Prop
 | no:Shs .nil []
 | four {O:Tag} {sh:List (List (Nat×Nat))} (h4:sh.length=4) (h:∀l∈sh,l.length=2/\∀p∈l,EQ p.1/\EQ p.2):Shs (.list O (shC sh) sh.length) sh
theorem Shs.same{v:V}{sh:List (List (Nat×Nat))} (h:Shs v sh):DU v=true:=by cases h<;>rfl
theorem Shs.len{v:V}{sh:List (List (Nat×Nat))} (h:Shs v sh){k:V->Prop}:bP v k=k (ni sh.length):=by cases h<;>rfl
def Um (x:Nat) (fs rs:List (List Nat)):Prop:=∃D:List Nat,D.length=6/\(∀c∈D,c<11)/\fs=fsR 1 [x,3] D/\rs=rsR 1 2 D
def ZI (fs rs:List (List Nat)):List (List (Nat×Nat)):=(List.range 4).map fun i=>shL fs rs (i+1)
def aI3 (fs rs:List (List Nat)):En:=⟨1,0,0,[],iQ fs rs,[],[]⟩
def aPa (s:Bh) (l:List Int):En:=⟨3,0,s.ep,[],[],l,[]⟩
def aI4 (s:Bh) (ds:List (Int×List (List Nat))):En:=⟨4,0,s.ep,[],[],[],ds⟩
def aC4 (l:List (Nat×Nat)) (c:List (List Nat)):Prop:=∃D:List Nat,D.length=12/\(∀c∈D,c<11)/\c=JQ (tH (fT true l D) (bT true l D)) 0
theorem XN{α β γ:Type}{g:α->β->γ}{A:List α}{B:List β}{p:γ->Prop} (h:∀a∈A,∀b∈B,p (g a b)):∀c∈List.zipWith g A B,p c:=by
 induction A generalizing B with
 | nil=>intro c hc;simp at hc
 | cons a A ih=>
  cases B with
  | nil=>intro c hc;simp at hc
  | cons b B=>
   intro c hc;rw [List.zipWith_cons_cons]at hc;rcases List.mem_cons.1 hc with rfl | hc
   ·exact h _ (.head _) _ (.head _)
   ·exact ih (fun a ha b hb=>h a (.tail _ ha) b (.tail _ hb)) c hc
theorem aPb (i:Nat):∀(l:List Nat) (x e:Nat),x<23->atF i l x e<23:=by
 intro l;induction l with
 | nil=>intro x e h;exact h
 | cons y l ih=>intro x e _;exact ih _ _ (PJ _)
theorem aPc (l:List Nat) (i:Nat):atG l i<23:=aPb i l _ _ (PJ _)
theorem Un{x:Nat}{fs rs:List (List Nat)} (h:Um x fs rs):fs.length=2/\rs.length=2/\(∀q∈fs,q.length=2/\∀c∈q,c<11)/\∀q∈rs,q.length=2/\∀c∈q,c<11:=by
 obtain⟨D,h1,h2,rfl,rfl⟩:=h;have a:=aEC (T:=1) [x,3] D (by rw [h1];exact bQ 6) h2;have b:=aED (T:=1) 2 D (by rw [h1];decide) h2;exact⟨aEA 1 _ _,aEB 1 _ _,a,b⟩
theorem aEP{x:Nat}{fs rs:List (List Nat)} (h:Um x fs rs):(iQ fs rs).length=2/\∀c∈iQ fs rs,c.length=2/\∀a∈c,a<23:=by
 obtain⟨h1,h2,h3,h4⟩:=Un h;refine⟨by unfold iQ;rw [uO,h1,h2];rfl,?_⟩;refine XN fun f hf r hr=>⟨?_,?_⟩
 ·unfold BT;rw [uO,(h3 f hf).1,(h4 r hr).1];rfl
 ·exact XN fun a _ b _=>aIu a b
theorem aI5{l:List (Nat×Nat)} (hl:l.length=2){D:List Nat} (hD:D.length=12) (hc:∀c∈D,c<11):(tH (fT true l D) (bT true l D)).length=2/\∀m∈tH (fT true l D) (bT true l D),m.length=2/\∀c∈m,c.length=2/\∀a∈c,a<23:=by
 obtain⟨s1,s2⟩:=aIY (n:=2) (Q:=3) rfl l D (by rw [hD,hl];decide) hc;have e1:(fT true l D).length=2:=by unfold fT;rw [aIU,hl]
 have e2:(bT true l D).length=2:=by unfold bT;rw [aIV,hl]
 refine⟨by unfold tH;rw [uO,e1,e2];rfl,XN fun f hf b hb=>?_⟩;have q1:=s1 f hf;have q2:=s2 b hb;refine⟨by unfold iQ;rw [uO,q1.1,q2.1];rfl,XN fun r hr t ht=>⟨?_,XN fun a _ b _=>aIu a b⟩⟩;unfold BT;rw [uO,(q1.2 r hr).1,(q2.2 t ht).1];rfl
theorem aL4{l:List (Nat×Nat)} (hl:l.length=2){c:List (List Nat)} (h:aC4 l c):c.length=2/\∀q∈c,q.length=2/\∀a∈q,a<23:=by
 obtain⟨D,h1,h2,rfl⟩:=h;obtain⟨m1,m2⟩:=aI5 hl h1 h2;refine⟨by unfold JQ;rw [mE];exact m1,fun q hq=>?_⟩;unfold JQ at hq;obtain⟨m,hm,rfl⟩:=List.mem_map.1 hq;refine⟨by unfold AD;rw [mE];exact(m2 m hm).1,fun a ha=>?_⟩;unfold AD at ha;obtain⟨r,_,rfl⟩:=List.mem_map.1 ha;exact aPc _ _
theorem aPd{x:Nat}{fs rs:List (List Nat)} (h:Um x fs rs):(ZI fs rs).length=4/\∀l∈ZI fs rs,l.length=2/\∀p∈l,EQ p.1/\EQ p.2:=by
 obtain⟨h1,h2,h3,h4⟩:=Un h;refine⟨by simp [ZI],fun l hl=>?_⟩;unfold ZI at hl;obtain⟨i,_,rfl⟩:=List.mem_map.1 hl
 have aEG:∀(l:List Nat) (X:Nat),ev 11 l X<11:=fun l X=>by
  unfold ev;cases l with
  | nil=>show 0<11;decide
  | cons a l=>exact jD _ (by decide)
 refine⟨by unfold shL;rw [uO,h1,h2];rfl,?_⟩;unfold shL;exact XN fun a _ b _=>⟨lJ (aEG a _),lJ (aEG b _)⟩
def tuV (O:Nat->Tag) (t:Tu):List V:=XO O t.e++[n8 t.of,.int .i64 t.fr]
theorem aPe (O:Tag) (o:Nat) (t:Tu):Tl O o (tuC t)=tuV (fun k=> .sub O (o+k)) t:=rfl
section
variable{M n:Nat}{x:VE}{S:Hp}{K:KV}{O:Nat->Tag}
theorem Ei:gM dG=none:=rfl
theorem Ox (hx:Deep PP bK gM M (n+1) x){y:Nat}{u:Tu} (hr:u.of≠1\/u.e.kind≠1/\u.e.kind≠3/\u.e.kind≠4) (hK:∀O,K (.agg (XO O u.e)) S):x.call dG [.ptr y 0,.agg (tuV O u)] S K:=by
 refine hx.call Ei fun w hw=>?_;rw [vA];unfold pX;refine cC rfl fun b hb=>?_;have dL:bU S (aL S b (.row (tuV O u) 45)):= .aK hb;have rb:aL S b (.row (tuV O u) 45) b=some (.row (tuV O u) 45):=aB;generalize aL S b (.row (tuV O u) 45)=S1 at dL rb;refine cG (l:=[n8 0,ni 0,ni 0,.nil,.nil,.nil,.nil]) rfl fun r hr'=>?_;have fO:bU S1 (aL S1 r (.row [n8 0,ni 0,ni 0,.nil,.nil,.nil,.nil] 42)):= .aK hr';have rr:aL S1 r (.row [n8 0,ni 0,ni 0,.nil,.nil,.nil,.nil] 42) r=some (.row [n8 0,ni 0,ni 0,.nil,.nil,.nil,.nil] 42):=aB;have ZJ:=fO _ _ rb;have EN:=dL.trans fO;have ET:S r=none:=dL.none hr';generalize aL S1 r (.row [n8 0,ni 0,ni 0,.nil,.nil,.nil,.nil] 42)=S2 at EN rr ZJ
 have fin:bR 7 (.ptr b 0) S2 fun v6 S=>nI 7 (.ptr r 0) v6 S fun S=>bR 7 (.ptr r 0) S fun v7 _=>bF v7 S K:=by
  rw [tE ZJ,dR (cJ rfl)];show nI 7 (.ptr r 0) (.agg (XO O u.e)) S2 _;refine iH (n:=7) (i:=r) rr Ej rfl rfl ?_;refine kQ (n:=7) (i:=r) aB rfl ?_;exact bL (fun j o q=>by rw [aC (fun c=>by rw [c,ET]at q;cases q)];exact EN j o q) (hK O)
 rw [aZ,cT (o:=0+7) (v:=n8 u.of) ZJ rfl];show aJ PP .neq 5 (n8 u.of) (n8 1) _;rw [show ∀k:V->Prop,aJ PP .neq 5 (n8 u.of) (n8 1) k=k (.bool (!decide (u.of=1)))from fun k=>by rw [OZ];congr 3;simp;omega];by_cases c:u.of=1
 ·have hr:=hr.resolve_left (fun h=>h c)
  rw [bI c,fL,bE,aY,aY,cT (o:=0) (v:=n8 u.e.kind) ZJ rfl];show aJ PP .eql 5 (n8 u.e.kind) (n8 1) _;rw [IN,bO hr.1,bE];show aJ PP .eql 5 (n8 u.e.kind) (n8 3) _;rw [IN,bO hr.2.1,bE];show aJ PP .eql 5 (n8 u.e.kind) (n8 4) _;rw [IN,bO hr.2.2,bE,aY];exact fin
 ·rw [bO c,DB,bW,aY]
  exact fin
end
set_option maxRecDepth 8000
section
variable{M n:Nat}{x:VE}{S:Hp}{K:KV}{O:Nat->Tag}
theorem aC5{t:TypeId}{a b:Nat}{k:V->Prop}:aJ PP .neq t (n8 a) (n8 b) k=k (.bool (!decide (a=b))):=by rw [OZ];congr 3;simp;omega
theorem aI6{s:Bh}{t:Nat}{sh:V}{k:Nat}:(XM true t sh O s)[0+14+k]? =(pK O s)[k]? :=by
 unfold XM;rw [kH (by rw [BR];omega),BR,show 0+14+k-12=k+1+1 by omega];rfl
theorem aBp (hM:1000000<M) (hx:Deep PP bK gM M (n+17) x){y t:Nat}{cs:List V}{id fr:Int}{aRq:List V} (wK:cs.length=9) (ho:cs.all gB=true) (h0:cs[0]? =some (n8 1)) (h1:cs[1]? =some (.int .i64 id)) (h7:cs[7]? =some (n8 1)){s:Bh}{WL:V}{sh:List (List (Nat×Nat))} (hsh:Shs WL sh)
 (ry:S y=some (.row (XM true t WL O s) 38)) {s0:BitVec 64} {ah:List Nat} {d:Nat} (hd:d<300000) (tp:jS S t s0 ah d)
 (hK:∀N fs rs RI O' S',(0<=id->id<18446744073709551616->N=id.toNat)->Um (N%11) fs rs->(∀j o,j≠t->j≠y->S j=some o->S' j=some o)->S' y=some (.row (XM true t RI O s) 38)->Shs RI (if s.ep=0 then ZI fs rs else sh)->(∃s' SU,jS S' t s' SU (d+6))->K (.agg (XO O' (aI3 fs rs))) S'):
 x.call dG [.ptr y 0,.agg cs] S K:=by
 refine hx.call Ei fun w hw=>?_;rw [vA];unfold pX;refine cC ho fun b hb=>?_;have dL:bU S (aL S b (.row cs 45)):= .aK hb;have rb:aL S b (.row cs 45) b=some (.row cs 45):=aB;generalize aL S b (.row cs 45)=S1 at dL rb;refine cG (l:=[n8 0,ni 0,ni 0,.nil,.nil,.nil,.nil]) rfl fun r hr=>?_;have fO:bU S1 (aL S1 r (.row [n8 0,ni 0,ni 0,.nil,.nil,.nil,.nil] 42)):= .aK hr;have rr:aL S1 r (.row [n8 0,ni 0,ni 0,.nil,.nil,.nil,.nil] 42) r=some (.row [n8 0,ni 0,ni 0,.nil,.nil,.nil,.nil] 42):=aB;have ZJ:=fO _ _ rb;have EN:=dL.trans fO;have ET:S r=none:=dL.none hr;have Yg:=EN _ _ ry;have hry:r≠y:=fun c=>by rw [c,ry]at ET;cases ET
 have hby:b≠y:=fun c=>by rw [c,ry]at hb;cases hb
 have tpc:=tp;obtain⟨wt,ht1,ht2⟩:=tpc;have hrt:r≠t:=fun c=>by rw [c,ht1]at ET;cases ET
 have hbt:b≠t:=fun c=>by rw [c,ht1]at hb;cases hb
 have hyt:y≠t:=fun c=>by rw [c,ht1]at ry;injection ry with ry;injection ry with _ ry;cases ry
 generalize aL S1 r (.row [n8 0,ni 0,ni 0,.nil,.nil,.nil,.nil] 42)=S2 at EN rr ZJ Yg;have tp2:jS S2 t s0 ah d:=⟨wt,EN _ _ ht1,ht2⟩;obtain⟨N,hN,hN0,vN⟩:=aBo id;have lq:∀{S':Hp} {K:KV},S' y=some (.row (XM true t WL O s) 38)->aW (.ptr y (0+1)) S' K=K (nu 11) S':=fun {S' K} h=>cT h rfl;have lt:∀{S':Hp} {K:KV},S' y=some (.row (XM true t WL O s) 38)->aW (.ptr y (0+12)) S' K=K (.ptr t 0) S':=fun {S' K} h=>cT h rfl;have lp:∀{S':Hp} {K:KV},S' y=some (.row (XM true t WL O s) 38)->bR 12 (.ptr y 0) S' K=K (.agg (pv true)) S':=fun {S' K} h=>by rw [tE h,dR (by show 0+12<=19;decide)];rfl
 have li:∀{S':Hp} {K:KV},S' b=some (.row cs 45)->aW (.ptr b (0+1)) S' K=K (.int .i64 id) S':=fun {S' K} h=>cT h (by rw [eJ];exact h1);have smi:∀{z:Int} {p:Prop},aU (.int .i64 z) (.int .i64 z) p=p:=fun {z p}=>cN rfl;have smp:∀{i o:Nat} {p:Prop},aU (.ptr i o) (.ptr i o) p=p:=fun {i o p}=>cN rfl;have sma:∀{p:Prop},aU (.agg (pv true)) (.agg (pv true)) p=p:=fun {p}=>cN rfl;rw [aZ,cT (o:=0+7) ZJ (by rw [eJ];exact h7)];show aJ PP .neq 5 (n8 1) (n8 1) _;rw [aC5,bI rfl,fL,bE,aY,aY,cT (o:=0) ZJ h0];show aJ PP .eql 5 (n8 1) (n8 1) _;rw [IN,bI rfl,bW,cK,aY,lp Yg,aY,aZ,li ZJ,vN,cK,aY,aZ,lq Yg,YZ (by decide),cK,aZ,lt Yg,lt Yg,smp,lq Yg,cE,li ZJ,smi,lp Yg,sma];have MP:∀{K:KV},(∀j,S2 j=none->K (.own j 0 2 2) (aL S2 j (.row (oD [N%11,3]) 22)))->aS 22 2 [(.int .u64 (.ofNat 0))] [(0,1,nu (N%11)),(1,1,nu 3)] S2 K:=fun {K} hk=>He hk;refine⟨MP fun _ _=>trivial,MP fun q hq=>?_⟩;have hqt:q≠t:=fun c=>by rw [c,EN _ _ ht1]at hq;cases hq
 have hqy:q≠y:=fun c=>by rw [c,Yg]at hq;cases hq
 have hqb:q≠b:=fun c=>by rw [c,ZJ]at hq;cases hq
 have hqr:q≠r:=fun c=>by rw [c,rr]at hq;cases hq
 have pR:bU S2 (aL S2 q (.row (oD [N%11,3]) 22)):= .aK hq;have rq:aL S2 q (.row (oD [N%11,3]) 22) q=some (.row (oD [N%11,3]) 22):=aB;have tp3:jS (aL S2 q (.row (oD [N%11,3]) 22)) t s0 ah d:=tp2.at (by rw [aC (aP hqt)]);have ry3:=pR _ _ Yg;have Fs:=pR _ _ ZJ;have rr3:=pR _ _ rr;have leB:=EN.trans pR;generalize aL S2 q (.row (oD [N%11,3]) 22)=S3 at rq tp3 ry3 Fs rr3 leB;have nv:NV (del S3 t) (.own q 0 2 2) [N%11,3]:= .own (l:=[N%11,3]) (by rw [RC hqt];exact rq) (fun i z h=>by rw [eJ];exact IJ h) (by rw [oE];simp);refine aL5 (n:=n) (two:=true) (l:=[N%11,3]) hM hw nv (fun c hc=>?_) rfl (by omega) tp3 fun S4 fs rs but tp4 hfs hrs O1 O2z=>?_
 ·rcases List.mem_cons.1 hc with rfl | hc
  ·exact lJ (jD _ (by decide))
  ·rcases List.mem_cons.1 hc with rfl | hc
   ·decide
   ·cases hc
 have aPf:Um (N%11) fs rs:=⟨_,wG _ ah s0,PC _ ah s0,hfs,hrs⟩;have Oy:S4 y=some (.row (XM true t WL O s) 38):=by rw [but _ hyt];exact ry3
 have rb4:S4 b=some (.row cs 45):=by rw [but _ hbt];exact Fs
 have Lj:S4 r=some (.row [n8 0,ni 0,ni 0,.nil,.nil,.nil,.nil] 42):=by rw [but _ hrt];exact rr3
 have kp4:∀j o,j≠t->S j=some o->S4 j=some o:=fun j o hj e=>by rw [but _ hj];exact leB _ _ e
 obtain⟨CX,XL⟩:=aEP aPf
 have fin:∀S5 RI,(∀j o,j≠t->j≠y->S j=some o->S5 j=some o)->S5 y=some (.row (XM true t RI O s) 38)->Shs RI (if s.ep=0 then ZI fs rs else sh)->(∃s' SU,jS S5 t s' SU (d+6))->S5 r=some (.row [n8 0,ni 0,ni 0,.nil,.nil,.nil,.nil] 42)->kG w (.ptr r 0) (.list O2z (eL (iQ fs rs)) (iQ fs rs).length) S5 K:=by
  intro S5 RI kp ry5 hs5 tp5 rr5;rw [HL _ (by rw [hw.most];omega)];unfold nV;refine aF ?_;refine⟨rfl,cJ rfl,rfl,cJ rfl,?_⟩;show(nI 7 (.ptr r 0) (.agg [n8 1,ni 0,ni 0,.nil,.list O2z (eL (iQ fs rs)) (iQ fs rs).length,.nil,.nil]) S5 fun S=>bR 7 (.ptr r 0) S fun v1 _=>bF v1 S K);refine iH (n:=7) (i:=r) rr5 rfl rfl rfl ?_;refine kQ (n:=7) (i:=r) aB rfl ?_;have kp6:∀j o,j≠t->j≠y->S j=some o->aL S5 r (.row [n8 1,ni 0,ni 0,.nil,.list O2z (eL (iQ fs rs)) (iQ fs rs).length,.nil,.nil] 42) j=some o:=fun j o h1 h2 e=>by rw [aC (fun c=>by rw [c,ET]at e;cases e)];exact kp j o h1 h2 e
  obtain⟨s9,ah9,tp9⟩:=tp5;refine⟨_,fun O'=> .agg (XO (fun k=>if k=4 then O2z else O' k) (aI3 fs rs)),.refl _,fun O'=> .agg ⟨rfl,fun j v u e1 e2=>?_⟩,fun O'=>hK N fs rs RI _ _ hN0 aPf kp6 (by rw [aC (aP hry)];exact ry5) hs5 ⟨s9,ah9,tp9.at (by rw [aC (aP hrt)])⟩⟩
  match j with
  | 0=>injection e1 with e1;injection e2 with e2;subst e1 e2;exact .mF _
  | 1=>injection e1 with e1;injection e2 with e2;subst e1 e2;exact .mF _
  | 2=>injection e1 with e1;injection e2 with e2;subst e1 e2;exact .mF _
  | 3=>injection e1 with e1;injection e2 with e2;subst e1 e2;exact .ZG .nil
  | 4=>injection e1 with e1;injection e2 with e2;subst e1 e2;exact .mF _
  | 5=>injection e1 with e1;injection e2 with e2;subst e1 e2;exact .ZG .nil
  | 6=>injection e1 with e1;injection e2 with e2;subst e1 e2;exact .ZG .nil
  | j+7=>simp at e1
 rw [lq Oy,cE,li rb4,smi];refine dC (v:= .list O1 (shD fs rs (tN true)) (tN true)) rfl ?_;refine dC (v:= .list O2z (eL (iQ fs rs)) (iQ fs rs).length) rfl ?_;refine dC (v:=ni 0) rfl ?_;rw [IK,bI rfl];have lep:∀{K:KV},aW (.ptr y (0+14+0)) S4 K=K (ni s.ep) S4:=fun {K}=>cT Oy (by rw [aI6];rfl);rw [aE,aN];try dsimp only
 rw [aE,aN,cK];try dsimp only
 rw [aE,aN,aZ];try dsimp only
 rw [aE,aN,aZ];try dsimp only
 rw [aE,aN,lep];try dsimp only
 rw [aE,aN];try dsimp only
 rw [IK,aE,dI];by_cases c:s.ep=0
 ·rw [bI c,bW,cK,aZ,DV Oy (show 0+13<19 by decide) rfl]
  obtain⟨s5,ah5,w5,q5,u5⟩:=tp4
  have hsd:Shs (.list O1 (shD fs rs (tN true)) (tN true)) (if s.ep=0 then ZI fs rs else sh):=by
   rw [aO c];obtain⟨g1,g2⟩:=aPd aPf;have:=Shs.four (O:=O1) g1 g2;rw [g1]at this;have e:shC (ZI fs rs)=shD fs rs (tN true):=by unfold shC ZI shD;rw [List.map_map];rfl
   rw [e]at this;exact this
  refine fin _ (.list O1 (shD fs rs (tN true)) (tN true)) (fun j o h1 h2 e=>by rw [aC h2];exact kp4 j o h1 e) aB hsd ⟨s5,ah5,w5,by rw [aC (aP hyt)];exact q5,u5⟩ (by rw [aC hry];exact Lj)
 ·rw [bO c,bE]
  refine fin S4 WL (fun j o h1 _ e=>kp4 j o h1 e) Oy (by rw [aG c];exact hsh) tp4 Lj
theorem Yh (hx:Deep PP bK gM M (n+1) x){y t:Nat}{cs:List V} (wK:cs.length=9) (ho:cs.all gB=true) (h0:cs[0]? =some (n8 3)) (h7:cs[7]? =some (n8 1)){s:Bh}{WL:V} (ry:S y=some (.row (XM true t WL O s) 38)){Sb:Hp}{vn:V}{l:List Int} (hle:bU Sb S) (h5:cs[5]? =some vn) (hvo:gB vn=true) (hf:∀{S':Hp},bU S S'->Du Sb S' vn (.list (kW l) l.length))
 (hK:∀O',K (.agg (XO O' (aPa s l))) Sb):x.call dG [.ptr y 0,.agg cs] S K:=by
 refine hx.call Ei fun w hw=>?_;rw [vA];unfold pX;refine cC ho fun b hb=>?_;have dL:bU S (aL S b (.row cs 45)):= .aK hb;have rb:aL S b (.row cs 45) b=some (.row cs 45):=aB;generalize aL S b (.row cs 45)=S1 at dL rb;refine cG (l:=[n8 0,ni 0,ni 0,.nil,.nil,.nil,.nil]) rfl fun r hr=>?_;have fO:bU S1 (aL S1 r (.row [n8 0,ni 0,ni 0,.nil,.nil,.nil,.nil] 42)):= .aK hr;have rr:aL S1 r (.row [n8 0,ni 0,ni 0,.nil,.nil,.nil,.nil] 42) r=some (.row [n8 0,ni 0,ni 0,.nil,.nil,.nil,.nil] 42):=aB;have ZJ:=fO _ _ rb;have EN:=dL.trans fO;have ET:S r=none:=dL.none hr;have Yg:=EN _ _ ry;generalize aL S1 r (.row [n8 0,ni 0,ni 0,.nil,.nil,.nil,.nil] 42)=S2 at EN rr ZJ Yg;rw [aZ,cT (o:=0+7) ZJ (by rw [eJ];exact h7)];show aJ PP .neq 5 (n8 1) (n8 1) _;rw [aC5,bI rfl,fL,bE,aY,aY,cT (o:=0) ZJ h0];show aJ PP .eql 5 (n8 3) (n8 1) _;rw [IN,bO (by decide),bE];show aJ PP .eql 5 (n8 3) (n8 3) _;rw [IN,bI rfl,bW,cK,aZ,aZ,cT (o:=0+14+0) (v:=ni s.ep) Yg (by rw [aI6];rfl),aY,aZ,cT (o:=0+5) ZJ (by rw [eJ];exact h5)]
 have Zw:∀{k:V->Prop},k (.agg [n8 3,ni 0,ni s.ep,.nil,.nil,vn,.nil])->cS [(.int .u8 (.ofNat 0)),(.int .i64 (.ofNat 0)),(.int .i64 (.ofNat 0)),(.slice none 0 0),(.slice none 0 0),(.slice none 0 0),(.slice none 0 0)] [(0,1,n8 3),(2,1,ni s.ep),(5,1,vn)] k:=fun {k} hk=>by
  unfold cS rR;show iF [(0,1,n8 3),(2,1,ni s.ep),(5,1,vn)] [n8 0,ni 0,ni 0,.nil,.nil,.nil,.nil] _;unfold iF iF iF iF;rw [vc1 (v:=n8 3) rfl,vc1 (v:=ni s.ep) rfl,vc1 hvo];exact⟨rfl,by simp,rfl,by simp [bA],rfl,by simp [bA],hk⟩
 refine Zw ?_;refine iH (n:=7) (i:=r) rr (by simp only [UG,List.all_nil,hvo];rfl) rfl rfl ?_;refine kQ (n:=7) (i:=r) aB rfl ?_;have leX:bU Sb (aL S2 r (.row [n8 3,ni 0,ni s.ep,.nil,.nil,vn,.nil] 42)):=fun j o q=>by rw [aC (fun c=>by rw [c]at q;have:=hle _ _ q;rw [ET]at this;cases this)];exact EN _ _ (hle _ _ q)
 have hfz:Du Sb (aL S2 r (.row [n8 3,ni 0,ni s.ep,.nil,.nil,vn,.nil] 42)) vn (.list (kW l) l.length):=hf fun j o q=>by rw [aC (fun c=>by rw [c,ET]at q;cases q)];exact EN _ _ q
 refine⟨Sb,fun O'=> .agg (XO O' (aPa s l)),leX,fun O'=> .agg ⟨rfl,fun j v u e1 e2=>?_⟩,fun O'=>hK _⟩
 match j with
 | 0=>injection e1 with e1;injection e2 with e2;subst e1 e2;exact .mF _
 | 1=>injection e1 with e1;injection e2 with e2;subst e1 e2;exact .mF _
 | 2=>injection e1 with e1;injection e2 with e2;subst e1 e2;exact .mF _
 | 3=>injection e1 with e1;injection e2 with e2;subst e1 e2;exact .ZG .nil
 | 4=>injection e1 with e1;injection e2 with e2;subst e1 e2;exact .ZG .nil
 | 5=>injection e1 with e1;injection e2 with e2;subst e1 e2;exact .ZG hfz
 | 6=>injection e1 with e1;injection e2 with e2;subst e1 e2;exact .ZG .nil
 | j+7=>simp at e1
end
set_option maxRecDepth 8000
theorem SL.aC6{el:TypeId}{S0 S1 S:Hp}{v:V}{ds:List Dt}{n:Nat} (h:SL el S0 S v ds n) (hs:∀i vs m,S i=some (.gD vs el m)->S0 i=none->S1 i=none):SL el S1 S v ds n:=by
 cases h with
 | nil=>exact .nil
 | acc h0 h hl hv=>exact .acc (hs _ _ _ h h0) h hl hv
def OA (sh:List (List (Nat×Nat))):Nat->List (Int×List (List Nat))->Prop
 | _,[]=>True
 | i,d::ds=>(∃l,sh[i]? =some l/\d.1=((i+1:Nat):Int)/\aC4 l d.2)/\OA sh (i+1) ds
theorem OA.app{sh:List (List (Nat×Nat))}{e:Int×List (List Nat)}{l:List (Nat×Nat)}:∀{ds:List (Int×List (List Nat))} {i:Nat},OA sh i ds->sh[i+ds.length]? =some l->e.1=((i+ds.length+1:Nat):Int)->aC4 l e.2->OA sh i (ds++[e]):=by
 intro ds;induction ds with
 | nil=>intro i _ h1 h2 h3;exact⟨⟨l,h1,h2,h3⟩,trivial⟩
 | cons d ds ih=>
  intro i h h1 h2 h3;refine⟨h.1,ih h.2 ?_ ?_ h3⟩
  ·rw [oX]at h1;rw [show i+1+ds.length=i+(ds.length+1)by omega];exact h1
  ·rw [oX]at h2;rw [h2];congr 1;omega
section
variable{M n:Nat}{x:VE}{S:Hp}{K:KV}{O:Nat->Tag}
theorem aI7{t:TypeId}{a b:Nat}{k:V->Prop}:aJ PP .leq t (ni a) (ni b) k=k (.bool (decide (a<=b))):=by rw [JX];congr 2;simp
theorem aRr{t:TypeId}{a b:Nat} (h:b≠0){k:V->Prop}:aJ PP .rem t (nu a) (nu b) k=k (nu (a%b)):=YZ h
theorem aBq (hM:1000000<M) (hx:Deep PP bK gM M (n+23) x){y t:Nat}{cs:List V}{fr:Int} (wK:cs.length=9) (ho:cs.all gB=true) (h0:cs[0]? =some (n8 4)) (h7:cs[7]? =some (n8 1)) (h8:cs[8]? =some (.int .i64 fr)){s:Bh}{WL:V}{sh:List (List (Nat×Nat))} (hsh:Shs WL sh)
 (ry:S y=some (.row (XM true t WL O s) 38)) {s0:BitVec 64} {ah:List Nat} {d:Nat} (hd:d<300000) (tp:jS S t s0 ah d)
 (hK:∀N ds O' S',N<3->OA sh N ds->ds.length=(if sh.length=4 then 2 else 0)->(∀j o,j≠t->j≠y->S j=some o->S' j=some o)->S' y=some (.row (XM true t WL O s) 38)->(∃s' SU d',d'<=d+24/\jS S' t s' SU d')->K (.agg (XO O' (aI4 s ds))) S'):
 x.call dG [.ptr y 0,.agg cs] S K:=by
 refine hx.call Ei fun w hw=>?_;rw [vA];unfold pX;refine cC ho fun b hb=>?_;have dL:bU S (aL S b (.row cs 45)):= .aK hb;have rb:aL S b (.row cs 45) b=some (.row cs 45):=aB;generalize aL S b (.row cs 45)=S1 at dL rb;refine cG (l:=[n8 0,ni 0,ni 0,.nil,.nil,.nil,.nil]) rfl fun r hr=>?_;have fO:bU S1 (aL S1 r (.row [n8 0,ni 0,ni 0,.nil,.nil,.nil,.nil] 42)):= .aK hr;have rr:aL S1 r (.row [n8 0,ni 0,ni 0,.nil,.nil,.nil,.nil] 42) r=some (.row [n8 0,ni 0,ni 0,.nil,.nil,.nil,.nil] 42):=aB;have ZJ:=fO _ _ rb;have EN:=dL.trans fO;have ET:S r=none:=dL.none hr;have Yg:=EN _ _ ry;have hry:r≠y:=fun c=>by rw [c,ry]at ET;cases ET
 have tpc:=tp;obtain⟨wt,ht1,ht2⟩:=tpc;have hrt:r≠t:=fun c=>by rw [c,ht1]at ET;cases ET
 have hyt:y≠t:=fun c=>by rw [c,ht1]at ry;injection ry with ry;injection ry with _ ry;cases ry
 generalize aL S1 r (.row [n8 0,ni 0,ni 0,.nil,.nil,.nil,.nil] 42)=S2 at EN rr ZJ Yg;obtain⟨N,hN,hN0,vN⟩:=aBo fr;have lp:∀{S':Hp} {K:KV},S' y=some (.row (XM true t WL O s) 38)->bR 12 (.ptr y 0) S' K=K (.agg (pv true)) S':=fun {S' K} h=>by rw [tE h,dR (by show 0+12<=19;decide)];rfl
 have l5:∀{S':Hp} {K:KV},S' y=some (.row (XM true t WL O s) 38)->aW (.ptr y (0+5)) S' K=K (ni 4) S':=fun {S' K} h=>cT h rfl;have l6:∀{S':Hp} {K:KV},S' y=some (.row (XM true t WL O s) 38)->aW (.ptr y (0+6)) S' K=K (ni 1) S':=fun {S' K} h=>cT h rfl;have lt:∀{S':Hp} {K:KV},S' y=some (.row (XM true t WL O s) 38)->aW (.ptr y (0+12)) S' K=K (.ptr t 0) S':=fun {S' K} h=>cT h rfl;have ls:∀{S':Hp} {K:KV},S' y=some (.row (XM true t WL O s) 38)->aW (.ptr y (0+13)) S' K=K WL S':=fun {S' K} h=>cT h rfl;have smp:∀{i o:Nat} {p:Prop},aU (.ptr i o) (.ptr i o) p=p:=fun {i o p}=>cN rfl;have sma:∀{p:Prop},aU (.agg (pv true)) (.agg (pv true)) p=p:=fun {p}=>cN rfl;have sms:∀{p:Prop},aU WL WL p=p:=fun {p}=>cN hsh.same;rw [aZ,cT (o:=0+7) ZJ (by rw [eJ];exact h7)];show aJ PP .neq 5 (n8 1) (n8 1) _;rw [aC5,bI rfl,fL,bE,aY,aY,cT (o:=0) ZJ h0];show aJ PP .eql 5 (n8 4) (n8 1) _;rw [IN,bO (by decide),bE];show aJ PP .eql 5 (n8 4) (n8 3) _;rw [IN,bO (by decide),bE];show aJ PP .eql 5 (n8 4) (n8 4) _;rw [IN,bI rfl,bW,cK,aZ,aZ,cT (o:=0+14+0) (v:=ni s.ep) Yg (by rw [aI6];rfl)]
 have Zw:∀{k:V->Prop},k (.agg [n8 4,ni 0,ni s.ep,.nil,.nil,.nil,.nil])->cS [(.int .u8 (.ofNat 0)),(.int .i64 (.ofNat 0)),(.int .i64 (.ofNat 0)),(.slice none 0 0),(.slice none 0 0),(.slice none 0 0),(.slice none 0 0)] [(0,1,n8 4),(2,1,ni s.ep)] k:=fun {k} hk=>by
  unfold cS rR;show iF [(0,1,n8 4),(2,1,ni s.ep)] [n8 0,ni 0,ni 0,.nil,.nil,.nil,.nil] _;unfold iF iF iF;rw [vc1 (v:=n8 4) rfl,vc1 (v:=ni s.ep) rfl];exact⟨rfl,by simp,rfl,by simp [bA],hk⟩
 refine Zw ?_;refine cG (l:=[n8 0,ni 0,ni 0,.nil,.nil,.nil,.nil]) rfl fun e he=>?_;refine iH (n:=7) (i:=e) aB rfl rfl rfl ?_;rw [fD];have pR:bU S2 (aL S2 e (.row [n8 4,ni 0,ni s.ep,.nil,.nil,.nil,.nil] 42)):= .aK he;have re:aL S2 e (.row [n8 4,ni 0,ni s.ep,.nil,.nil,.nil,.nil] 42) e=some (.row [n8 4,ni 0,ni s.ep,.nil,.nil,.nil,.nil] 42):=aB;have he0:S e=none:=EN.none he;have hey:e≠y:=fun c=>by rw [c,ry]at he0;cases he0
 have het:e≠t:=fun c=>by rw [c,ht1]at he0;cases he0
 have her:e≠r:=fun c=>by rw [c,rr]at he;cases he
 have ry3:=pR _ _ Yg;have Fs:=pR _ _ ZJ;have rr3:=pR _ _ rr;have leB:=EN.trans pR;generalize aL S2 e (.row [n8 4,ni 0,ni s.ep,.nil,.nil,.nil,.nil] 42)=S3 at re ry3 Fs rr3 leB;have tp3:jS S3 t s0 ah d:=⟨wt,leB _ _ ht1,ht2⟩;rw [aZ,cT (o:=0+8) Fs (by rw [eJ];exact h8),vN,cK,aY,aZ,l5 ry3,cK,aY,aZ,l6 ry3,Xt (by decide) (by decide)];show LE .u64 (ni 3) _;rw [Hb (by decide),aRr (by decide),aO9 (by have:=jD N (show 3>0 by decide);omega)];have hF:N%3<3:=jD _ (by decide);generalize N%3=F at hF;rw [hw.most]
 have fin:∀(u:V) (acc:List (Int×List (List Nat))) (S4:Hp),acc.length=(if sh.length=4 then 2 else 0)->(∀j o,j≠t->j≠y->S j=some o->S4 j=some o)->S4 y=some (.row (XM true t WL O s) 38)->(∃s' SU d',d'<=d+24/\jS S4 t s' SU d')->S4 r=some (.row [n8 0,ni 0,ni 0,.nil,.nil,.nil,.nil] 42)->
  S4 e=some (.row [n8 4,ni 0,ni s.ep,.nil,.nil,.nil,u] 42)->SL 68 S S4 u (ME acc) acc.length->OA sh F acc->bR 7 (.ptr e 0) S4 fun v64 S=>nI 7 (.ptr r 0) v64 S fun S=>bR 7 (.ptr r 0) S fun v65 _=>bF v65 S K:=by
  intro u acc S4 hal kp Oy tp4 Lj re4 VZ QC;refine kQ (n:=7) (i:=e) re4 rfl ?_;refine iH (n:=7) (i:=r) Lj (by simp only [UG,List.all_nil,VZ.one];rfl) rfl rfl ?_;refine kQ (n:=7) (i:=r) aB rfl ?_;obtain⟨s9,ah9,d9,hd9,w9,q9,u9⟩:=tp4
  let SE:Hp:=fun j=>if j=t then S4 t else if j=y then S4 y else S j
  have eT:SE t=S4 t:=aO rfl;have eY:SE y=S4 y:=by show(if y=t then _ else if y=y then _ else _)=_;rw [aG hyt,aO rfl]
  have eO:∀j,j≠t->j≠y->SE j=S j:=fun j h1 h2=>by show(if j=t then _ else if j=y then _ else _)=_;rw [aG h1,aG h2]
  have leE:bU SE (aL S4 r (.row [n8 4,ni 0,ni s.ep,.nil,.nil,.nil,u] 42)):=fun j o hj=>by
   by_cases c1:j=t
   ·rw [c1,eT]at hj;rw [c1,aC (aP hrt)];exact hj
   ·by_cases c2:j=y
    ·rw [c2,eY]at hj;rw [c2,aC (aP hry)];exact hj
    ·rw [eO j c1 c2]at hj
     rw [aC (fun c=>by rw [c,ET]at hj;cases hj)];exact kp j o c1 c2 hj
  have aOO:SL 68 SE (aL S4 r (.row [n8 4,ni 0,ni s.ep,.nil,.nil,.nil,u] 42)) u (ME acc) acc.length:=by
   have h2:=VZ.set (o:= .row [n8 4,ni 0,ni s.ep,.nil,.nil,.nil,u] 42) Lj fun vs m c=>by cases c
   refine h2.aC6 fun i' vs m g1 g0=>?_;have hit:i'≠t:=fun c=>by rw [c,aC (aP hrt),q9]at g1;cases g1
   have hiy:i'≠y:=fun c=>by rw [c,aC (aP hry),Oy]at g1;cases g1
   rw [eO _ hit hiy];exact g0
  refine⟨SE,fun O'=> .agg (XO O' (aI4 s acc)),leE,fun O'=> .agg ⟨rfl,fun j v u e1 e2=>?_⟩,fun O'=>hK F acc O' SE hF QC hal (fun j o h1 h2 h3=>by rw [eO j h1 h2];exact h3) (by rw [eY];exact Oy) ⟨s9,ah9,d9,by omega,w9,by rw [eT];exact q9,u9⟩⟩
  match j with
  | 0=>injection e1 with e1;injection e2 with e2;subst e1 e2;exact .mF _
  | 1=>injection e1 with e1;injection e2 with e2;subst e1 e2;exact .mF _
  | 2=>injection e1 with e1;injection e2 with e2;subst e1 e2;exact .mF _
  | 3=>injection e1 with e1;injection e2 with e2;subst e1 e2;exact .ZG .nil
  | 4=>injection e1 with e1;injection e2 with e2;subst e1 e2;exact .ZG .nil
  | 5=>injection e1 with e1;injection e2 with e2;subst e1 e2;exact .ZG .nil
  | 6=>injection e1 with e1;injection e2 with e2;subst e1 e2;exact .ZG aOO.Bd
  | j+7=>simp at e1
 have go:∀(q i m:Nat) (u:V) (acc:List (Int×List (List Nat))) (S4:Hp),i+q=F+2->q<m->F<=i->(∀j o,j≠t->j≠y->S j=some o->S4 j=some o)->S4 y=some (.row (XM true t WL O s) 38)->(∃s' SU d',d'<=d+12*(i-F)/\jS S4 t s' SU d')->S4 r=some (.row [n8 0,ni 0,ni 0,.nil,.nil,.nil,.nil] 42)->
  S4 e=some (.row [n8 4,ni 0,ni s.ep,.nil,.nil,.nil,u] 42)->SL 68 S S4 u (ME acc) acc.length->OA sh F acc->acc.length=(if sh.length=4 then i-F else 0)->fV w m (.ptr y 0) (.ptr r 0) (.ptr e 0) (ni F) (ni i) S4 K:=by
  intro q;induction q with
  | zero=>
   intro i m u acc S4 hi hm hFi kp Oy tp4 Lj re4 VZ QC hal;obtain⟨m,rfl⟩:=bH (show m≠0 by omega);rw [oQ];unfold jO;refine aF ?_;rw [cK,aY,aZ,l6 Oy,bG (by omega)];rw [aI7];rw [bO (by omega)]
   iterate 7 (rw [aE,iS];try dsimp only)
   rw [aE,dJ,bE];exact fin u acc S4 (by rw [hal];split<;>omega) kp Oy (by obtain⟨a1,a2,a3,a4,a5⟩:=tp4;exact⟨a1,a2,a3,by omega,a5⟩) Lj re4 VZ QC
  | succ q ih=>
   intro i m u acc S4 hi hm hFi kp Oy tp4 Lj re4 VZ QC hal;obtain⟨m,rfl⟩:=bH (show m≠0 by omega);rw [oQ];unfold jO;refine aF ?_;rw [cK,aY,aZ,l6 Oy,bG (by omega)];rw [aI7];rw [bI (by omega),aE,aN];try dsimp only
   rw [aE,aN];try dsimp only
   rw [aE,aN,cK];try dsimp only
   rw [aE,aN,aZ];try dsimp only
   rw [aE,aN,ls Oy];try dsimp only
   rw [aE,aN,hsh.len];try dsimp only
   rw [aE,aN,aQ];try dsimp only
   rw [aE,dI];cases hsh with
   | no=>
    rw [jM (by simp),bE];exact fin u acc S4 hal kp Oy (by obtain⟨a1,a2,a3,a4,a5⟩:=tp4;exact⟨a1,a2,a3,by omega,a5⟩) Lj re4 VZ QC
   | @four Osz sh h4 aTq=>
    have hi4:i<sh.length:=by omega
    obtain⟨FN,aRs⟩:=aTq _ (cO hi4);have hgl:sh[i]? =some sh[i]:=aT hi4;have QA:(shC sh)[i*1]? =some (.list (pds sh[i]) sh[i].length):=by rw [kX];unfold shC;rw [eH,hgl];rfl
    generalize sh[i]=L at FN aRs hgl QA;have lL:∀{S':Hp} {K:KV},aW (.uB Osz (shC sh) (i*1)) S' K=K (.list (.sub Osz (i*1)) (pds L) L.length) S':=fun {S' K}=>by rw [yA,cX QA];rfl
    have sml:∀{t:Tag} {cs:List Dt} {n:Nat} {p:Prop},aU (.list t cs n) (.list t cs n) p=p:=fun {t cs n p}=>cN rfl;obtain⟨s4,ah4,d4,hd4,tp4⟩:=tp4;rw [zJ hi4,bW,cK,aY,lp Oy,cK,aZ,ls Oy,jL hi4,lL,cK,aY,aZ,l5 Oy,cK,aZ,lt Oy,lt Oy,smp,l5 Oy,cE,lL,sml,ls Oy,sms,lp Oy,sma];refine⟨cG (l:=[.nil,.nil,.nil]) rfl fun _ _=>trivial,?_⟩;refine aPg (n:=n) (two:=true) hM hw FN aRs (by omega) tp4 fun D Sb S5 vr vc t1 but tpb hD EW gr gc=>?_;have hDl:D.length=12:=by rw [hD,wG,FN];rfl
    have hDc:∀c∈D,c<11:=by rw [hD];exact PC _ _ _
    have up5:∀{j:Nat} {o:Ob},j≠t->S4 j=some o->S5 j=some o:=fun {j o} h e=>EW _ _ (by rw [but _ h];exact e);have ry5:=up5 hyt Oy;have rr5:=up5 hrt Lj;have re5:=up5 het re4;have kp5:∀j o,j≠t->j≠y->S j=some o->S5 j=some o:=fun j o h1 h2 h3=>up5 h1 (kp j o h1 h2 h3);obtain⟨w4,q4,u4⟩:=tp4;have aTr:SL 68 S S5 u (ME acc) acc.length:=VZ.but fun j vs m hj=>up5 (fun c=>by rw [c,q4]at hj;cases hj) hj;obtain⟨s5,ah5,w5,q5,u5⟩:=tpb;have ht5:=EW _ _ q5;rw [ls ry5,sms];refine dC (v:= .agg [.list t1 (mD (tH (fT true L D) (bT true L D))) (tH (fT true L D) (bT true L D)).length,vr,vc]) rfl ?_;refine dC (v:=ni 0) rfl ?_;rw [ls ry5,sms];refine⟨cG (l:=[.nil,.nil,.nil]) rfl fun _ _=>trivial,?_⟩;refine cG (l:=[.nil,.nil,.nil]) rfl fun g hg=>?_;refine iH (n:=3) (i:=g) aB (by simp only [UG,List.all_nil,gr.one,gc.one];rfl) rfl rfl ?_;rw [fD];have UA:bU S5 (aL S5 g (.row [.list t1 (mD (tH (fT true L D) (bT true L D))) (tH (fT true L D) (bT true L D)).length,vr,vc] 79)):= .aK hg;have rg:aL S5 g (.row [.list t1 (mD (tH (fT true L D) (bT true L D))) (tH (fT true L D) (bT true L D)).length,vr,vc] 79) g=some (.row [.list t1 (mD (tH (fT true L D) (bT true L D))) (tH (fT true L D) (bT true L D)).length,vr,vc] 79):=aB;generalize aL S5 g (.row [.list t1 (mD (tH (fT true L D) (bT true L D))) (tH (fT true L D) (bT true L D)).length,vr,vc] 79)=S6 at UA rg;have ry6:=UA _ _ ry5;have rr6:=UA _ _ rr5;have re6:=UA _ _ re5;have ht6:=UA _ _ ht5;have aTs:=aTr.up UA;have lu:∀{S':Hp} {K:KV},S' e=some (.row [n8 4,ni 0,ni s.ep,.nil,.nil,.nil,u] 42)->aW (.ptr e (0+6)) S' K=K u S':=fun {S' K} h=>cT h rfl;have smu:∀{p:Prop},aU u u p=p:=fun {p}=>cN VZ.same;rw [IK,bI rfl,bW,aZ,lu re6,bG (by omega),cK,aY,lp ry6,aY,cT (o:=0) rg rfl];obtain⟨m1,m2⟩:=aI5 FN hDl hDc;have b23:∀{a:Nat},a<23->EQ a:=fun {a} h=>show a<18446744073709551616 by omega
    refine aPh (n:=n+16) (two:=true) hM hw (show(0:Nat)<18446744073709551616 by decide) (fun ls hls=>?_) (by omega) fun t7=>?_
    ·obtain⟨z1,z2⟩:=m2 ls hls
     refine⟨fun c hc=>?_,by omega⟩;obtain⟨z3,z4⟩:=z2 c hc;exact⟨fun a ha=>b23 (z4 a ha),by omega⟩
    rw [lu re6,smu];show cS [(.int .i64 (.ofNat 0)),(.slice none 0 0)] [(0,1,.int .i64 ((i+1:Nat):Int)),(1,1,T t7 (.list (eL (JQ (tH (fT true L D) (bT true L D)) 0)) (JQ (tH (fT true L D) (bT true L D)) 0).length))] _;rw [Oz,lu re6,smu];have tso:Jz [.int .i64 ((i+1:Nat):Int),T t7 (.list (eL (JQ (tH (fT true L D) (bT true L D)) 0)) (JQ (tH (fT true L D) (bT true L D)) 0).length)] [.int .i64 ((i+1:Nat):Int),.list (eL (JQ (tH (fT true L D) (bT true L D)) 0)) (JQ (tH (fT true L D) (bT true L D)) 0).length]:= .cons t7 (.int .i64 ((i+1:Nat):Int)) (.cons t7 (.list (eL (JQ (tH (fT true L D) (bT true L D)) 0)) (JQ (tH (fT true L D) (bT true L D)) 0).length) .nil);refine⟨HH (z:=[ni 0,.nil]) rfl rfl rfl tso.one fun _ _=>trivial,?_⟩;have aUC:acc.length<=2:=by rw [hal];split<;>omega
    let SE:Hp:=fun j=>if j=t then S6 t else if j=y then S6 y else S j
    have eT:SE t=S6 t:=aO rfl;have eY:SE y=S6 y:=by show(if y=t then _ else if y=y then _ else _)=_;rw [aG hyt,aO rfl]
    have eO:∀j,j≠t->j≠y->SE j=S j:=fun j h1 h2=>by show(if j=t then _ else if j=y then _ else _)=_;rw [aG h1,aG h2]
    have leE:bU SE S6:=fun j o hj=>by
     by_cases c1:j=t
     ·rw [c1,eT]at hj;rw [c1];exact hj
     ·by_cases c2:j=y
      ·rw [c2,eY]at hj;rw [c2];exact hj
      ·rw [eO j c1 c2]at hj
       exact UA _ _ (kp5 j o c1 c2 hj)
    have aRt:SL 68 SE S6 u (ME acc) acc.length:=by
     refine aTs.aC6 fun i' vs m g1 g0=>?_;have hit:i'≠t:=fun c=>by rw [c,ht6]at g1;cases g1
     have hiy:i'≠y:=fun c=>by rw [c,ry6]at g1;cases g1
     rw [eO _ hit hiy];exact g0
    refine aRt.app leE (by omega) (aEQ acc) (zv:=[ni 0,.nil]) rfl rfl tso rfl (by decide) fun u7 S7 le7 k7 o7 sl7=>?_;have oM:∀{b:Nat} {o:Ob},S6 b=some o->(∀vs e m,o≠ .gD vs e m)->S7 b=some o:=fun {b o} h1 h2=>k7 _ _ h1 (aRt.ne h1 h2);have ry7:=oM ry6 (fun vs e m c=>by cases c);have rr7:=oM rr6 (fun vs e m c=>by cases c);have re7:=oM re6 (fun vs e m c=>by cases c);have ht7:=oM ht6 (fun vs e m c=>by cases c);rw [aZ,DV re7 (show 0+6<7 by decide) sl7.one];rw [xI _ (by rw [hw.most];omega)];unfold iK;refine aF ?_;rw [bG (by omega)];have e2:ME acc++[.int .i64 ((i+1:Nat):Int),.list (eL (JQ (tH (fT true L D) (bT true L D)) 0)) (JQ (tH (fT true L D) (bT true L D)) 0).length]=ME (acc++[(((i+1:Nat):Int),JQ (tH (fT true L D) (bT true L D)) 0)]):=by rw [aER];rfl
    rw [e2]at sl7;have sl8:=sl7.set (o:= .row [n8 4,ni 0,ni s.ep,.nil,.nil,.nil,u7] 42) re7 fun vs m c=>by cases c
    have hiF:acc.length=i-F:=by rw [hal,aO h4]
    refine ih (i+1) m u7 (acc++[(((i+1:Nat):Int),JQ (tH (fT true L D) (bT true L D)) 0)]) _ (by omega) (by omega) (by omega) (fun j o h1 h2 h3=>?_) (by rw [aC (aP hey)];exact ry7) ⟨s5,ah5,_,?_,w5,by rw [aC (aP het)];exact ht7,u5⟩ (by rw [aC (aP her)];exact rr7) aB ?_ (QC.app (l:=L) (by rw [hiF,show F+(i-F)=i by omega];exact hgl) ?_ ⟨D,hDl,hDc,rfl⟩) ?_
    ·rw [aC (fun c=>by rw [c,he0]at h3;cases h3)]
     exact le7 _ _ (by rw [eO j h1 h2];exact h3)
    ·have:(tQ true+tQ true)*L.length=12:=by rw [FN];rfl
     rw [this];omega
    ·rw [kI]
     refine sl8.aC6 fun i' vs m g1 g0=>?_;have hit:i'≠t:=fun c=>by rw [c,aC (aP het),ht7]at g1;cases g1
     have hiy:i'≠y:=fun c=>by rw [c,aC (aP hey),ry7]at g1;cases g1
     rw [<-eO _ hit hiy];exact g0
    ·show((i+1:Nat):Int)=_;rw [hiF];congr 1;omega
    ·rw [kI,hiF,aO h4];show i-F+1=_;omega
 refine go 2 F M .nil [] S3 (by omega) (by omega) (by omega) (fun j o _ _ e=>leB _ _ e) ry3 ⟨s0,ah,d,by omega,tp3⟩ rr3 re .nil trivial (by rw [Nat.sub_self];split<;>rfl)
end
set_option maxRecDepth 8000
inductive Pa (s:Bh) (sh:List (List (Nat×Nat))) (u:Tu):En->List (List (Nat×Nat))->Prop
 | raw (h:u.of≠1\/u.e.kind≠1/\u.e.kind≠3/\u.e.kind≠4):Pa s sh u u.e sh
 | load (N:Nat) (fs rs:List (List Nat)) (h1:u.of=1) (h2:u.e.kind=1) (h3:0<=u.e.id->u.e.id<18446744073709551616->N=u.e.id.toNat) (h:Um (N%11) fs rs):Pa s sh u (aI3 fs rs) (if s.ep=0 then ZI fs rs else sh)
 | beg (h1:u.of=1) (h2:u.e.kind=3):Pa s sh u (aPa s u.e.next) sh
 | aI8 (N:Nat) (ds:List (Int×List (List Nat))) (h1:u.of=1) (h2:u.e.kind=4) (hN:N<3) (h:OA sh N ds) (hl:ds.length=(if sh.length=4 then 2 else 0)):Pa s sh u (aI4 s ds) sh
theorem aI9{c:List Nat} (h:∀a∈c,a<23):LC c:=fun a ha=>by have:=h a ha;show a<18446744073709551616;omega
theorem aNx{ls:List (List Nat)} (h1:ls.length=2) (h2:∀c∈ls,c.length=2/\∀a∈c,a<23):Jy ls:=⟨by omega,fun c hc=>⟨aI9 (h2 c hc).2,by have:=(h2 c hc).1;omega⟩⟩
theorem OA.sz{sh:List (List (Nat×Nat))} (hs:∀l∈sh,l.length=2):∀{ds:List (Int×List (List Nat))} {i:Nat},OA sh i ds->∀d∈ds,d.2.length=2/\∀c∈d.2,c.length=2/\∀a∈c,a<23:=by
 intro ds;induction ds with
 | nil=>intro i _ d hd;cases hd
 | cons e ds ih=>
  intro i h d hd;rcases List.mem_cons.1 hd with rfl | hd
  ·obtain⟨⟨l,h1,h2,h3⟩,_⟩:=h
   exact aL4 (hs l (CY h1)) h3
  ·exact ih h.2 d hd
theorem Shs.two{v:V}{sh:List (List (Nat×Nat))} (h:Shs v sh):∀l∈sh,l.length=2:=by
 cases h with
 | no=>intro l hl;cases hl
 | four h4 h=>exact fun l hl=>(h l hl).1
theorem Pa.sz{s:Bh}{v:V}{sh sh':List (List (Nat×Nat))}{u:Tu}{e:En} (h:Pa s sh u e sh') (hs:Shs v sh) (hu:aBm u.e):aBm e:=by
 cases h with
 | raw h=>exact hu
 | load N fs rs h1 h2 h3 h=>
  obtain⟨g1,g2⟩:=aEP h;exact⟨(by decide:1<256),(by decide:0<1000000),aNx g1 g2,(by decide:0<1000000),(by decide:0<1000000),fun d hd=>by cases hd⟩
 | beg h1 h2=>exact⟨(by decide:3<256),(by decide:0<1000000),⟨(by decide:0*24<=140737488355328),fun c hc=>by cases hc⟩,hu.next,(by decide:0<1000000),fun d hd=>by cases hd⟩
 | aI8 N ds h1 h2 hN h hl=>
  have hz:=h.sz hs.two;refine⟨(by decide:4<256),(by decide:0<1000000),⟨(by decide:0*24<=140737488355328),fun c hc=>by cases hc⟩,(by decide:0<1000000),?_,fun d hd=>aNx (hz d hd).1 (hz d hd).2⟩;show ds.length<1000000;rw [hl];split<;>omega
theorem aPi (s:Bh) (e:En):(doF s e).1.ep<=s.ep+1:=by
 unfold doF
 repeat' (split<;>try (first | exact QF _ | exact bQ _))
 all_goals first | (show 1<=_;omega) | (show s.ep<=s.ep+1;omega) | skip
theorem Ek.sz{s:Bh} (h:Ek s) (he:s.ep<1000000):aBr s:=by
 have hm:=Hj h.mem
 have wK:s.fC.length<=2/\∀c∈s.fC,c.length=2/\∀a∈c,a<23:=by
  rcases NP s.ep with h0 | h0
  ·rw [(h.c0 h0).1];exact⟨by decide,fun c hc=>by cases hc⟩
  ·obtain⟨g1,g2⟩:=CL.1 (h.c1 h0)
   exact⟨by omega,fun c hc=>⟨(g2 c hc).1,fun a ha=>Hk ((g2 c hc).2 a ha)⟩⟩
 refine⟨he,by omega,by omega,fun c hc=>⟨aI9 (wK.2 c hc).2,by have:=(wK.2 c hc).1;omega⟩,?_,by have:=h.few;omega,fun a ha=>?_⟩
 ·rcases h.nx with q | q
  ·rw [q];decide
  ·have:=Hj q;omega
 ·obtain⟨x,_,_,hx⟩:=h.ask
  rw [hx a ha];exact(by decide:1<1000000)
section
variable{M n:Nat}{x:VE}{S:Hp}{K:KV}{O:Nat->Tag}
theorem aL6 (hM:1000000<M) (hx:Deep PP bK gM M (n+23) x){y t:Nat}{Ou:Nat->Tag}{u:Tu}{s:Bh}{WL:V}{sh:List (List (Nat×Nat))} (hsh:Shs WL sh) (ry:S y=some (.row (XM true t WL O s) 38)){s0:BitVec 64}{ah:List Nat}{d:Nat} (hd:d<300000) (tp:jS S t s0 ah d)
 (hK:∀e sh' RI O' S',Pa s sh u e sh'->(∀j o,j≠t->j≠y->S j=some o->S' j=some o)->S' y=some (.row (XM true t RI O s) 38)->Shs RI sh'->(∃s' SU d',d'<=d+24/\jS S' t s' SU d')->K (.agg (XO O' e)) S'):
 x.call dG [.ptr y 0,.agg (tuV Ou u)] S K:=by
 by_cases h1:u.of=1
 ·have e7:(tuV Ou u)[7]? =some (n8 1):=by show some (n8 u.of)=_;rw [h1]
  by_cases k1:u.e.kind=1
  ·have e0:(tuV Ou u)[0]? =some (n8 1):=by show some (n8 u.e.kind)=_;rw [k1]
   refine aBp (n:=n+6) (aRq:=[]) hM hx rfl rfl e0 (id:=u.e.id) rfl e7 (fr:=0) hsh ry hd tp fun N fs rs RI O' S' hN hm kp ry' hs' tp'=>?_;obtain⟨s9,ah9,tp9⟩:=tp';exact hK _ _ RI O' S' (.load N fs rs h1 k1 hN hm) kp ry' hs' ⟨s9,ah9,d+6,by omega,tp9⟩
  by_cases k3:u.e.kind=3
  ·have e0:(tuV Ou u)[0]? =some (n8 3):=by show some (n8 u.e.kind)=_;rw [k3]
   refine Yh (n:=n+22) hx rfl rfl e0 e7 ry (Sb:=S) (vn:= .list (Ou 5) (kW u.e.next) u.e.next.length) (l:=u.e.next) (.refl _) rfl rfl (fun _=> .list) fun O'=>?_;exact hK _ _ WL O' S (.beg h1 k3) (fun j o _ _ e=>e) ry hsh ⟨s0,ah,d,by omega,tp⟩
  by_cases k4:u.e.kind=4
  ·have e0:(tuV Ou u)[0]? =some (n8 4):=by show some (n8 u.e.kind)=_;rw [k4]
   refine aBq (n:=n) hM hx rfl rfl e0 e7 (fr:=u.fr) rfl hsh ry hd tp fun N ds O' S' hN QC hl kp ry' tp'=>?_;exact hK _ _ WL O' S' (.aI8 N ds h1 k4 hN QC hl) kp ry' hsh tp'
  ·exact Ox (n:=n+22) hx (.inr ⟨k1,k3,k4⟩) fun O'=>hK _ _ WL O' S (.raw (.inr ⟨k1,k3,k4⟩)) (fun j o _ _ e=>e) ry hsh ⟨s0,ah,d,by omega,tp⟩
 ·exact Ox (n:=n+22) hx (.inl h1) fun O'=>hK _ _ WL O' S (.raw (.inl h1)) (fun j o _ _ e=>e) ry hsh ⟨s0,ah,d,by omega,tp⟩
end
set_option maxRecDepth 8000
section
variable{M n:Nat}{x:VE}{S:Hp}{K:KV}{O:Nat->Tag}
theorem aJa:gM pY=none:=rfl
theorem aES (hx:Deep PP bK gM M (n+1) x) (hK:K (.bool true) S):x.call AO [] S K:=hx.IL (g:=aLC) rfl ⟨rfl,hK⟩
theorem aL7{s:Bh}{t:Nat}{sh:V}{y:Nat}{S1:Hp} (ry:S1 y=some (.row (XM true t sh O s) 38)):bR 5 (.ptr y (0+14)) S1 K=K (.agg (pK O s)) S1:=by
 rw [tE ry,dR (cJ rfl)];rfl
theorem aJb{s:Bh}{t:Nat}{sh:V}{y:Nat}{S1:Hp} (ry:S1 y=some (.row (XM true t sh O s) 38)):bR 12 (.ptr y 0) S1 K=K (.agg (pv true)) S1:=by
 rw [tE ry,dR (cJ rfl)];rfl
theorem aTt{O':Nat->Tag}{s s':Bh}{t:Nat}{sh:V}{y:Nat}{S1:Hp}{k:Hp->Prop} (ry:S1 y=some (.row (XM true t sh O s) 38)) (hk:k (aL S1 y (.row (XM true t sh O' s') 38))):nI 5 (.ptr y (0+14)) (.agg (pK O' s')) S1 k:=by
 unfold nI;simp only [ry];exact⟨rfl,rfl,cJ rfl,hk⟩
theorem tu9{O:Tag}{ts:List Tu}{i:Nat}{u:Tu} (h:ts[i]? =some u):bR 9 (.uB O (Ca ts) (i*9)) S K=K (.agg (tuV (fun k=> .sub O (i*9+k)) u)) S:=by
 obtain⟨h1,h2⟩:=aI1 h;rw [RJ,dR h1,h2,aPe]
theorem aL8{p:Prop}{u:Tu}:aU (.agg (tuV O u)) (.agg (tuV O u)) p=p:=cN rfl
theorem zp5{K:KV} (hk:∀i,S i=none->K (.ptr i 0) (aL S i (.row [ni 0,.nil,.nil,.nil,.nil] 36))):dQ [(.int .i64 (.ofNat 0)),(.slice none 0 0),(.slice none 0 0),(.slice none 0 0),(.slice none 0 0)] 36 S K:=cG (l:=[ni 0,.nil,.nil,.nil,.nil]) rfl hk
theorem aPj{i:Nat} (h:S i=some (.row [ni 0,.nil,.nil,.nil,.nil] 36)){s:Bh}{k:Hp->Prop} (hk:k (aL S i (.row (pK O s) 36))):nI 5 (.ptr i 0) (.agg (pK O s)) S k:=iH (n:=5) (i:=i) h rfl rfl rfl hk
theorem aJc (Pb:140737488355328<M) (hx:Deep PP bK gM M (n+23) x){Ol:Tag}{ts:List Tu} (Ov:∀u∈ts,WK u) (Ul:∀u∈ts,aGg u) (hl:ts.length<=150) (hK:∀S',K (.bool true) S'){y t:Nat} (hyt:y≠t):
 ∀(q i m:Nat) (s:Bh) (sh:List (List (Nat×Nat))) (WL:V) (O:Nat->Tag) (S:Hp),i+q=ts.length->q<m->Ek s->s.ep<=i->Shs WL sh->S y=some (.row (XM true t WL O s) 38)->(∃s' SU d',d'<=24*i/\jS S t s' SU d')->jK x m (.list Ol (Ca ts) ts.length) (.ptr y 0) (ni i) S K:=by
 have hM:1000000<M:=by omega
 intro q;induction q with
 | zero=>
  intro i m s sh WL O S hi hm QC hep hsh ry tp;obtain⟨m,rfl⟩:=bH (show m≠0 by omega);rw [yF];unfold pZ;refine aF ?_;rw [cZ,aQ,jM (by omega),bE];exact aM (hK _)
 | succ q ih=>
  intro i m s sh WL O S hi hm QC hep hsh ry tp;obtain⟨m,rfl⟩:=bH (show m≠0 by omega);rw [yF];unfold pZ;refine aF ?_;have hlt:i<ts.length:=by omega
  have hu:ts[i]? =some ts[i]:=aT hlt;have hur:=(Ov _ (cO hlt)).sz (Ul _ (cO hlt));generalize ts[i]=u at hu hur;obtain⟨s0,ah0,d0,hd0,tp⟩:=tp;rw [cZ,aQ,zJ hlt,bW,cK,aY,aJb ry,cK,aZ,aL7 ry,jL hlt,tu9 hu,tu9 hu,aL8,aL7 ry,El,aJb ry,XP];refine⟨zp5 fun _ _=>trivial,?_⟩;refine aL6 (n:=n) hM hx hsh ry (by omega) tp fun e sh' RI Oe S1 hen kp ry1 aTu tp1=>?_;have aTv:=hen.sz hsh hur;rw [aL7 ry1,El,aJb ry1,XP,aL7 ry1,El,aJb ry1,XP];refine⟨zp5 fun _ _=>trivial,?_⟩;refine aTw (n:=n+9) (two:=true) Pb hx QC (QC.sz (by omega)) aTv fun O2z=>?_;have aBs:=QC.step e;have aTx:=aPi s e;generalize (doF s e).1=s' at aBs aTx;refine dC (v:= .agg (pK O2z s')) rfl ?_;refine dC (v:=ni (doF s e).2) rfl ?_;refine⟨zp5 fun _ _=>trivial,?_⟩;refine zp5 fun b hb=>?_;refine aPj aB ?_;rw [fD];have dL:bU S1 (aL S1 b (.row (pK O2z s') 36)):= .aK hb;have rb:aL S1 b (.row (pK O2z s') 36) b=some (.row (pK O2z s') 36):=aB;have hby:b≠y:=fun c=>by rw [c,ry1]at hb;cases hb
  obtain⟨s9,ah9,d9,hd9,w9,q9,u9⟩:=tp1;have hbt:b≠t:=fun c=>by rw [c,q9]at hb;cases hb
  have Yg:=dL _ _ ry1;have rt2:=dL _ _ q9;generalize aL S1 b (.row (pK O2z s') 36)=S2 at dL rb Yg rt2;refine kQ (n:=5) (i:=b) rb rfl ?_;rw [cK,aZ];refine aTt (O':=O2z) (s':=s') Yg ?_;have ry3:aL S2 y (.row (XM true t RI O2z s') 38) y=some (.row (XM true t RI O2z s') 38):=aB;have Fs:aL S2 y (.row (XM true t RI O2z s') 38) b=some (.row (pK O2z s') 36):=by rw [aC hby];exact rb
  have rt3:aL S2 y (.row (XM true t RI O2z s') 38) t=some (.row [vb s9,w9,ni d9] 140):=by rw [aC (aP hyt)];exact rt2
  generalize aL S2 y (.row (XM true t RI O2z s') 38)=S3 at ry3 Fs rt3;have hz':=aBs.sz (show s'.ep<1000000 by omega);have next:jK x m (.list Ol (Ca ts) ts.length) (.ptr y 0) (ni (i+1)) S3 K:=ih (i+1) m s' sh' RI O2z S3 (by omega) (by omega) aBs (by omega) aTu ry3 ⟨s9,ah9,d9,by omega,w9,rt3,u9⟩;have l0:∀{K:KV},aW (.ptr b 0) S3 K=K (ni s'.ep) S3:=cT Fs rfl;have l1:∀{K:KV},aW (.ptr b (0+1)) S3 K=K (.list (O2z 1) (kW s'.mem) s'.mem.length) S3:=cT Fs rfl;have l2:∀{K:KV},aW (.ptr b (0+2)) S3 K=K (.list (O2z 2) (eL s'.fC) s'.fC.length) S3:=cT Fs rfl;have l3:∀{K:KV},aW (.ptr b (0+3)) S3 K=K (.list (O2z 3) (kW s'.next) s'.next.length) S3:=cT Fs rfl;have l4:∀{K:KV},aW (.ptr b (0+4)) S3 K=K (.list (O2z 4) (aD s'.asked) s'.asked.length) S3:=cT Fs rfl;have l9:∀{K:KV},aW (.ptr y (0+9)) S3 K=K (ni 1) S3:=cT ry3 rfl;have l0':∀{K:KV},aW (.ptr b 0) S3 K=K (ni s'.ep) S3:=cT Fs rfl;have l2':∀{K:KV},aW (.ptr b 2) S3 K=K (.list (O2z 2) (eL s'.fC) s'.fC.length) S3:=cT Fs rfl;have l3':∀{K:KV},aW (.ptr b 3) S3 K=K (.list (O2z 3) (kW s'.next) s'.next.length) S3:=cT Fs rfl;have l4':∀{K:KV},aW (.ptr b 4) S3 K=K (.list (O2z 4) (aD s'.asked) s'.asked.length) S3:=cT Fs rfl;have l9':∀{K:KV},aW (.ptr y 9) S3 K=K (ni 1) S3:=cT ry3 rfl;have lp:∀{K:KV},bR 12 (.ptr y 0) S3 K=K (.agg (pv true)) S3:=aJb ry3;have sm:∀{t:Tag} {cs:List Dt} {n:Nat} {p:Prop},aU (.list t cs n) (.list t cs n) p=p:=fun {t cs n p}=>cN rfl;have Pc:∀{a:Bool} {k:V->Prop},aJ PP .neq 4 (.bool a) (.bool a) k=k (.bool false):=fun {a k}=>propext ⟨fun h=>by have h2:k (.bool (!decide (a=a))):=h.2;rw [show(!decide (a=a))=false by simp]at h2;exact h2,fun h=>⟨by kernel_rfl,by show k (.bool (!decide (a=a)));rw [show(!decide (a=a))=false by simp];exact h⟩⟩;obtain⟨x0,TQ,Wa,oP⟩:=aBs.ask;rw [cK,aY,lp,aZ,l1];refine aC7 (n:=n+19) (two:=true) hM hx hz'.mem ?_;rw [aBs.mem,rC,fL];have Pd:∀{k:V->Prop},aJ PP .lss 3 (ni s'.ep) (.int .i64 (.ofNat 0)) k=k (.bool false):=fun {k}=>by show aJ PP .lss 3 (ni s'.ep) (ni 0) k=_;rw [aQ,jM (by omega)]
  have Pe:∀{k:V->Prop},SP .not (.bool true) k=k (.bool false):=fun {k}=>rfl;rcases NP s'.ep with he | he
  ·obtain⟨hc0,hn0⟩:=aBs.c0 he
   have hg2:∀{k:V->Prop},aJ PP .gtr 3 (ni s'.fC.length) (.int .i64 (.ofNat 0)) k=k (.bool false):=fun {k}=>by show aJ PP .gtr 3 (ni s'.fC.length) (ni 0) k=_;rw [uX,hc0];rfl
   have hg3:∀{k:V->Prop},aJ PP .gtr 3 (ni s'.next.length) (.int .i64 (.ofNat 0)) k=k (.bool false):=fun {k}=>by show aJ PP .gtr 3 (ni s'.next.length) (ni 0) k=_;rw [uX,hn0];rfl
   have hg0:∀{k:V->Prop},aJ PP .gtr 3 (ni s'.ep) (.int .i64 (.ofNat 0)) k=k (.bool false):=fun {k}=>by show aJ PP .gtr 3 (ni s'.ep) (ni 0) k=_;rw [uX,bO (by omega)]
   have IE:∀{k:V->Prop},aJ PP .eql 3 (ni s'.ep) (.int .i64 (.ofNat 0)) k=k (.bool true):=fun {k}=>by show aJ PP .eql 3 (ni s'.ep) (ni 0) k=_;rw [IK,bI he]
   repeat (first | (rw [aE,aN];try dsimp only) | (rw [aE,iS];try dsimp only) | (rw [aE,sH];try dsimp only) | (rw [aE,yG];try dsimp only) | (rw [aE,dI];try dsimp only) | (rw [aE,dJ];try dsimp only) | rw [aE,iL] | rw [aE,kM] | rw [aE,qA] | rw [aE,tK] | rw [aY] | rw [aZ] | rw [cK] | rw [l0] | rw [l2] | rw [l3] | rw [l4] | rw [l9] | rw [l9'] | rw [l0'] | rw [l2'] | rw [l3'] | rw [l4'] | rw [lp] | rw [cZ] | rw [Pd] | rw [hg2] | rw [hg3] | rw [hg0] | rw [IE] | rw [Pe] | rw [Pc] | rw [cE] | rw [sm])
   refine Yi (n:=n+14) (two:=true) hM hx hz'.asked oP ⟨TQ,Wa⟩ ?_
   repeat (first | (rw [aE,aN];try dsimp only) | (rw [aE,iS];try dsimp only) | (rw [aE,sH];try dsimp only) | (rw [aE,yG];try dsimp only) | (rw [aE,dI];try dsimp only) | (rw [aE,dJ];try dsimp only) | rw [aE,iL] | rw [aE,kM] | rw [aE,qA] | rw [aE,tK] | rw [aY] | rw [aZ] | rw [cK] | rw [l0] | rw [l2] | rw [l3] | rw [l4] | rw [l9] | rw [l9'] | rw [l0'] | rw [l2'] | rw [l3'] | rw [l4'] | rw [lp] | rw [cZ] | rw [Pd] | rw [hg2] | rw [hg3] | rw [hg0] | rw [IE] | rw [Pe] | rw [Pc] | rw [cE] | rw [sm])
   rw [uX,show decide (1<if s'.asked=[]then 0 else 1)=false from bO (by split<;>omega)]
   repeat (first | (rw [aE,aN];try dsimp only) | (rw [aE,iS];try dsimp only) | (rw [aE,sH];try dsimp only) | (rw [aE,yG];try dsimp only) | (rw [aE,dI];try dsimp only) | (rw [aE,dJ];try dsimp only) | rw [aE,iL] | rw [aE,kM] | rw [aE,qA] | rw [aE,tK] | rw [aY] | rw [aZ] | rw [cK] | rw [l0] | rw [l2] | rw [l3] | rw [l4] | rw [l9] | rw [l9'] | rw [l0'] | rw [l2'] | rw [l3'] | rw [l4'] | rw [lp] | rw [cZ] | rw [Pd] | rw [hg2] | rw [hg3] | rw [hg0] | rw [IE] | rw [Pe] | rw [Pc] | rw [cE] | rw [sm])
   rw [bE,bG (by omega)];exact next
  ·have aNy:=aBs.c1 he
   have Bx:=(CL.1 aNy).1;have hg2:∀{k:V->Prop},aJ PP .gtr 3 (ni s'.fC.length) (.int .i64 (.ofNat 0)) k=k (.bool true):=fun {k}=>by show aJ PP .gtr 3 (ni s'.fC.length) (ni 0) k=_;rw [uX,Bx];rfl
   have hg0:∀{k:V->Prop},aJ PP .gtr 3 (ni s'.ep) (.int .i64 (.ofNat 0)) k=k (.bool true):=fun {k}=>by show aJ PP .gtr 3 (ni s'.ep) (ni 0) k=_;rw [uX,bI he]
   have IE:∀{k:V->Prop},aJ PP .eql 3 (ni s'.ep) (.int .i64 (.ofNat 0)) k=k (.bool false):=fun {k}=>by show aJ PP .eql 3 (ni s'.ep) (ni 0) k=_;rw [IK,bO (by omega)]
   repeat (first | (rw [aE,aN];try dsimp only) | (rw [aE,iS];try dsimp only) | (rw [aE,sH];try dsimp only) | (rw [aE,yG];try dsimp only) | (rw [aE,dI];try dsimp only) | (rw [aE,dJ];try dsimp only) | rw [aE,iL] | rw [aE,kM] | rw [aE,qA] | rw [aE,tK] | rw [aY] | rw [aZ] | rw [cK] | rw [l0] | rw [l2] | rw [l3] | rw [l4] | rw [l9] | rw [l9'] | rw [l0'] | rw [l2'] | rw [l3'] | rw [l4'] | rw [lp] | rw [cZ] | rw [Pd] | rw [hg2] | rw [hg0] | rw [IE] | rw [Pe] | rw [Pc] | rw [cE] | rw [sm])
   refine Pf (n:=n+12) (two:=true) (S0:=S3) hM hx .val (fun c hc=>(hz'.iQ c hc).1) ?_;rw [aNy];rcases aBs.nx with hn0 | hcm
   ·have hg3:∀{k:V->Prop},aJ PP .gtr 3 (ni s'.next.length) (.int .i64 (.ofNat 0)) k=k (.bool false):=fun {k}=>by show aJ PP .gtr 3 (ni s'.next.length) (ni 0) k=_;rw [uX,hn0];rfl
    repeat (first | (rw [aE,aN];try dsimp only) | (rw [aE,iS];try dsimp only) | (rw [aE,sH];try dsimp only) | (rw [aE,yG];try dsimp only) | (rw [aE,dI];try dsimp only) | (rw [aE,dJ];try dsimp only) | rw [aE,iL] | rw [aE,kM] | rw [aE,qA] | rw [aE,tK] | rw [aY] | rw [aZ] | rw [cK] | rw [l0] | rw [l2] | rw [l3] | rw [l4] | rw [l9] | rw [l9'] | rw [l0'] | rw [l2'] | rw [l3'] | rw [l4'] | rw [lp] | rw [cZ] | rw [Pd] | rw [hg2] | rw [hg3] | rw [hg0] | rw [IE] | rw [Pe] | rw [Pc] | rw [cE] | rw [sm])
    refine Yi (n:=n+14) (two:=true) hM hx hz'.asked oP ⟨TQ,Wa⟩ ?_
    repeat (first | (rw [aE,aN];try dsimp only) | (rw [aE,iS];try dsimp only) | (rw [aE,sH];try dsimp only) | (rw [aE,yG];try dsimp only) | (rw [aE,dI];try dsimp only) | (rw [aE,dJ];try dsimp only) | rw [aE,iL] | rw [aE,kM] | rw [aE,qA] | rw [aE,tK] | rw [aY] | rw [aZ] | rw [cK] | rw [l0] | rw [l2] | rw [l3] | rw [l4] | rw [l9] | rw [l9'] | rw [l0'] | rw [l2'] | rw [l3'] | rw [l4'] | rw [lp] | rw [cZ] | rw [Pd] | rw [hg2] | rw [hg3] | rw [hg0] | rw [IE] | rw [Pe] | rw [Pc] | rw [cE] | rw [sm])
    rw [uX,show decide (1<if s'.asked=[]then 0 else 1)=false from bO (by split<;>omega)]
    repeat (first | (rw [aE,aN];try dsimp only) | (rw [aE,iS];try dsimp only) | (rw [aE,sH];try dsimp only) | (rw [aE,yG];try dsimp only) | (rw [aE,dI];try dsimp only) | (rw [aE,dJ];try dsimp only) | rw [aE,iL] | rw [aE,kM] | rw [aE,qA] | rw [aE,tK] | rw [aY] | rw [aZ] | rw [cK] | rw [l0] | rw [l2] | rw [l3] | rw [l4] | rw [l9] | rw [l9'] | rw [l0'] | rw [l2'] | rw [l3'] | rw [l4'] | rw [lp] | rw [cZ] | rw [Pd] | rw [hg2] | rw [hg3] | rw [hg0] | rw [IE] | rw [Pe] | rw [Pc] | rw [cE] | rw [sm])
    rw [bE,bG (by omega)];exact next
   ·have hg3:∀{k:V->Prop},aJ PP .gtr 3 (ni s'.next.length) (.int .i64 (.ofNat 0)) k=k (.bool true):=fun {k}=>by show aJ PP .gtr 3 (ni s'.next.length) (ni 0) k=_;rw [uX,Hj hcm];rfl
    repeat (first | (rw [aE,aN];try dsimp only) | (rw [aE,iS];try dsimp only) | (rw [aE,sH];try dsimp only) | (rw [aE,yG];try dsimp only) | (rw [aE,dI];try dsimp only) | (rw [aE,dJ];try dsimp only) | rw [aE,iL] | rw [aE,kM] | rw [aE,qA] | rw [aE,tK] | rw [aY] | rw [aZ] | rw [cK] | rw [l0] | rw [l2] | rw [l3] | rw [l4] | rw [l9] | rw [l9'] | rw [l0'] | rw [l2'] | rw [l3'] | rw [l4'] | rw [lp] | rw [cZ] | rw [Pd] | rw [hg2] | rw [hg3] | rw [hg0] | rw [IE] | rw [Pe] | rw [Pc] | rw [cE] | rw [sm])
    refine aC7 (n:=n+19) (two:=true) hM hx hz'.next ?_;rw [hcm]
    repeat (first | (rw [aE,aN];try dsimp only) | (rw [aE,iS];try dsimp only) | (rw [aE,sH];try dsimp only) | (rw [aE,yG];try dsimp only) | (rw [aE,dI];try dsimp only) | (rw [aE,dJ];try dsimp only) | rw [aE,iL] | rw [aE,kM] | rw [aE,qA] | rw [aE,tK] | rw [aY] | rw [aZ] | rw [cK] | rw [l0] | rw [l2] | rw [l3] | rw [l4] | rw [l9] | rw [l9'] | rw [l0'] | rw [l2'] | rw [l3'] | rw [l4'] | rw [lp] | rw [cZ] | rw [Pd] | rw [hg2] | rw [hg3] | rw [hg0] | rw [IE] | rw [Pe] | rw [Pc] | rw [cE] | rw [sm])
    refine Yi (n:=n+14) (two:=true) hM hx hz'.asked oP ⟨TQ,Wa⟩ ?_
    repeat (first | (rw [aE,aN];try dsimp only) | (rw [aE,iS];try dsimp only) | (rw [aE,sH];try dsimp only) | (rw [aE,yG];try dsimp only) | (rw [aE,dI];try dsimp only) | (rw [aE,dJ];try dsimp only) | rw [aE,iL] | rw [aE,kM] | rw [aE,qA] | rw [aE,tK] | rw [aY] | rw [aZ] | rw [cK] | rw [l0] | rw [l2] | rw [l3] | rw [l4] | rw [l9] | rw [l9'] | rw [l0'] | rw [l2'] | rw [l3'] | rw [l4'] | rw [lp] | rw [cZ] | rw [Pd] | rw [hg2] | rw [hg3] | rw [hg0] | rw [IE] | rw [Pe] | rw [Pc] | rw [cE] | rw [sm])
    rw [uX,show decide (1<if s'.asked=[]then 0 else 1)=false from bO (by split<;>omega)]
    repeat (first | (rw [aE,aN];try dsimp only) | (rw [aE,iS];try dsimp only) | (rw [aE,sH];try dsimp only) | (rw [aE,yG];try dsimp only) | (rw [aE,dI];try dsimp only) | (rw [aE,dJ];try dsimp only) | rw [aE,iL] | rw [aE,kM] | rw [aE,qA] | rw [aE,tK] | rw [aY] | rw [aZ] | rw [cK] | rw [l0] | rw [l2] | rw [l3] | rw [l4] | rw [l9] | rw [l9'] | rw [l0'] | rw [l2'] | rw [l3'] | rw [l4'] | rw [lp] | rw [cZ] | rw [Pd] | rw [hg2] | rw [hg3] | rw [hg0] | rw [IE] | rw [Pe] | rw [Pc] | rw [cE] | rw [sm])
    rw [bE,bG (by omega)];exact next
theorem aPk{l:List Int} (h:l.Pairwise fun a b=>a<=b):FT l=l:=by
 unfold FT;exact List.mergeSort_of_pairwise (h.imp fun h=>bI h)
theorem aJd:LL [1,2,3,4]=true:=by
 unfold LL;rw [aPk (by decide)];decide
theorem aL9:Ek Yf:=⟨aJd,fun _=>⟨rfl,rfl⟩,fun h=>bC h (by decide),.inl rfl,⟨0,by decide,by decide,fun a ha=>by cases ha⟩,by decide⟩
theorem aJe (Pb:140737488355328<M) (hx:Deep PP bK gM M (n+24) x){sd:Nat} (hS:EQ sd){Ol:Tag}{ts:List Tu} (Ov:∀u∈ts,WK u) (hl:ts.length<=140737488355328) (hK:∀S',K (.bool true) S'):x.call pY [nu sd,.list Ol (Ca ts) ts.length] S K:=by
 have hM:1000000<M:=by omega
 refine hx.call aJa fun y hy=>?_;rw [Bi];unfold LM;refine aO4 (n:=n+21) hM hy Ov hl fun b hb=>?_;rw [hy.most];cases b with
 | true=>
  rw [aE,sH];try dsimp only
  rw [aE,sH];try dsimp only
  rw [aE,dI,bW];refine aES (n:=n+22) hy ?_;exact aM (hK _)
 | false=>
  obtain⟨Ul,FN⟩:=hb rfl;rw [aE,aN];refine aES (n:=n+22) hy ?_
  try dsimp only
  rw [aE,aN,rC];try dsimp only
  rw [aE,dJ,fL,bE];refine aL3 (n:=n+20) hM hy hS fun p t s O S' hs hp ht Tt rp tp=>?_;exact aJc (n:=n) Pb hy Ov Ul FN hK Tt ts.length 0 M Yf [] .nil O S' (by omega) (by omega) aL9 (bQ 0) .no rp ⟨s,[],0,bQ 0,tp⟩
end
end Go.Am
set_option maxRecDepth 100000
namespace Go.Am
open Go.RowKit Go.MapKept Go.Proofs
def c0 (ws:List Value) (n:Nat):Cx:=⟨fun _=>none,fun _ _=>none,fun k=>ws[k]?,n⟩
theorem aJ5 (P:Program) (S:St) (ws:List Value):VS P (fun _=>False) S (c0 ws S.n) (fun _=>none) S:=by
 refine⟨.refl S,fun b h=>h.elim,(fun i o e _=>by cases e),(fun i vs t n e=>by cases e),fun i j b l _=>?_,(fun i n w e=>by cases e),⟨0,fun i _=>⟨rfl,rfl,fun n=>rfl⟩⟩,⟨ws.length,fun k hk=>FC hk⟩,(fun i vs t n m b e=>by cases e),(fun i vs t n b w e o e1=>by cases e1)⟩;rcases l with ⟨o,e,_⟩ | ⟨vs,t,n,m,e,_⟩<;>cases e
theorem aGF{ws:List Value}{n b:Nat}:¬dO (fun _=>False) (c0 ws n) (fun _=>none) b:=by
 rintro(h | ⟨i,⟨o,e,_⟩ | ⟨vs,t,n,m,e,_⟩⟩)
 ·exact h
 ·cases e
 ·cases e
theorem aJ6{ws:List Value} (S:St):EP (fun _=>False) S S (dO (fun _=>False) (c0 ws S.n) (fun _=>none)):=⟨bQ _,fun _ _ _=>rfl,fun b hb=>(aGF hb).elim⟩
theorem Lay.none{P:Program}{w:World} (hsz:P.globals.size<=w.heap.size):Lay P w (Rn.globals P.globals.size) (St.none P.globals.size):=by
 refine⟨Rel.none hsz,fun i o h=>?_⟩;have:(St.none P.globals.size).obj i=Option.none:=rfl;rw [this]at h;cases h
def Zc:V->Prop
 | .bool b=>b=true
 | _=>False
theorem aGG{W:World}{U:Rn}{S:St} (hsz:PP.globals.size<=W.heap.size) (hg:Laid gs W) (hl:Lay PP W U S) (roots:List Value){f:FuncId}{va:List V}{us vs:List Value}{M m:Nat} (ra:lT (c0 roots S.n) S (dO (fun _=>False) (c0 roots S.n) (fun _=>none)) va us) (hu:lR U us vs)
 (hv:(Yn PP bK gM M m).call f va (fun _=>none) (fun v _=>Zc v)):Calls PP f ⟨vs⟩ W (fun e w'=>e= .returned (.bool true)/\Below W.heap.size W w'):=by
 have hk:=(aJS (P:=PP) (B:=fun _=>False) (Sb:=S) (tb:=bK) aOG M m).aEZ f (aJ5 PP S roots) ra (K:=fun v _=>isTrue v) (fun c' h' S' v w _ _ _ r hb=>by
  cases r with
  | bool=>exact hb
  | _=>cases hb) hv
 obtain⟨_,SK⟩:=(aCN (P:=PP) (w0:=W) (tb:=bK) (most:=M) (aLA (w:=W) hsz hg) Oi Oh m).1 f us S (fun v _=>isTrue v) U W vs hk hl.1 hu;refine Calls.mono (callsIn_wide.1 SK) ?_
 rintro e w' ⟨v',rfl,U3,v,S3,vO,hv,hrel,_⟩
 cases v with
 | bool b=>
  have hb:b=true:=vO;subst hb;rw [hv.of_flat rfl];exact⟨rfl,hrel.base⟩
 | _=>cases vO
theorem aPw:aFQ PP 8 23=some [.list aMo]:=by kernel_rfl
theorem aGH{H:Type}{enc:TypeId×Value->H}{W:World}{v:Value}{d:DataW H}{p:List MemPlace} (hc:v.cells= #[v]) (h:DataW.Trod enc PP W 0 (fun _=>true) true 23 v d p) (hz:∀b off,MemPlace.cell b off∈p->W.frozen? ⟨b,off,none⟩=false) (hw:∀x∈d.weights PP 23,x<=reachBytes)
 {U:Rn} {S:St} (hl:Lay PP W U S):∃U' S' u ts,Ext U U'/\Lay PP W U' S'/\QZ S S'/\VR U' u v/\YJ S' (fun _=>False) (.list (Ca ts) ts.length) u/\(∀t∈ts,WK t)/\ts.length<=140737488355328:=by
 obtain⟨F,hF⟩:=h;obtain⟨U',S',vs,ds,e1,l1,x1,KL,hr⟩:=lay (P:=PP) (w:=W) (fun _=>true) (fun _=>rfl) F 8 23 v.cells.toList d p hF hz hw [.list aMo] aPw U S hl;rw [hc]at KL;have hlen:vs.length=1:=hr.len
 match vs,hlen,KL,hr with
 | [u],_,KL,hr=>
  have hd:ds.length=1:=hr.Wt
  match ds,hd,hr with
  | [d1],_,hr=>
   obtain⟨l,h1,h2,h3⟩:=aJ4 (hr.rd 0 _ _ _ rfl rfl rfl);exact⟨U',S',u,l,e1,l1,x1,KL.2 0 u v rfl rfl,h1,h2,h3⟩
theorem called_turns{H:Type}{enc:TypeId×Value->H}{W:World} (hsz:PP.globals.size<=W.heap.size) (hg:Laid gs W){f:FuncId}
 (law:∀{M n:Nat} {x:VE} {sd:Nat} {O:Tag} {ts:List Tu},140737488355328<M->Deep PP bK gM M (n+40) x->EQ sd->(∀t∈ts,WK t)->ts.length<=140737488355328->x.call f [nu sd,.list O (Ca ts) ts.length] (fun _=>none) (fun v _=>Zc v))
 {sd:Nat} (hS:sd<18446744073709551616) {v:Value} {d2:DataW H} {p2:List MemPlace} (hc:v.cells= #[v]) (h:DataW.Trod enc PP W 0 (fun _=>true) true 23 v d2 p2)
 (hz:∀b off,MemPlace.cell b off∈p2->W.frozen? ⟨b,off,none⟩=false) (hw:∀x∈d2.weights PP 23,x<=reachBytes):
 Calls PP f ⟨[.int .u64 (.ofNat sd),v]⟩ W (fun e w'=>e= .returned (.bool true)/\Below W.heap.size W w'):=by
 obtain⟨U,S,u,ts,_,hl,_,hu,hr,h8,hll⟩:=aGH hc h hz hw (Lay.none hsz);obtain⟨M,hM⟩:∃M:Nat,140737488355328<M:=⟨140737488355329,by omega⟩;obtain⟨m,-⟩:∃m:Nat,m=0:=⟨0,rfl⟩
 refine aGG (M:=M) (m:=m+40) hsz hg hl [u] (va:=[nu sd,.list (.root 0) (Ca ts) ts.length]) (us:=[.int .u64 (.ofNat sd),u])
  (.cons .int (.cons (.list (.root rfl) (hr.mono (aJ6 S))) .nil))
  (.cons (VR.flat rfl) (.cons hu (.nil _))) ?_
 exact law (n:=m) hM (aGj (m+40)) hS h8 hll
theorem law_vsound{M n:Nat}{x:VE}{sd:Nat}{O:Tag}{ts:List Tu} (hM:140737488355328<M) (hx:Deep PP bK gM M (n+40) x) (hS:EQ sd) (h:∀t∈ts,WK t) (hl:ts.length<=140737488355328):x.call pY [nu sd,.list O (Ca ts) ts.length] (fun _=>none) (fun v _=>Zc v):=aJe (n:=n+16) hM hx hS h hl fun _=>rfl
end Go.Am
