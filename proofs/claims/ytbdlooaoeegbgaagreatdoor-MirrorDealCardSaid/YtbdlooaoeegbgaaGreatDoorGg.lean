/- mirror: a dealing is made. -/
import Derived.Test.YtbdlooaoeegbgaaGreatDoorGf

set_option linter.unusedVariables false
set_option maxRecDepth 4000
namespace Go.Am
open Go.Proofs.JQ
def RS (k N:Nat) (fs bs:List (List (List Nat))):List (List Dt):=(List.range N).map fun i=>vC k (i+1) fs bs
def CS (k N:Nat) (fs bs:List (List (List Nat))):List (List Dt):=(List.range N).map fun i=>vE k (i+1) fs bs
theorem aCr (k N:Nat) (fs bs:List (List (List Nat))):RS k (N+1) fs bs=RS k N fs bs++[vC k (N+1) fs bs]:=by unfold RS;rw [List.range_succ,List.map_append];rfl
theorem aCs (k N:Nat) (fs bs:List (List (List Nat))):CS k (N+1) fs bs=CS k N fs bs++[vE k (N+1) fs bs]:=by unfold CS;rw [List.range_succ,List.map_append];rfl
section
variable{M n:Nat}{x:VE}{Sz S0:Hp}{K:KV}{two:Bool}{t d:Nat}{s:BitVec 64}{ah:List Nat}
theorem Zs (hM:1000000<M) (hx:Deep PP bH gM M (n+9) x){bp bd bS k N:Nat}{SF SB:Hp}{v w vm:V}{fs bs:List (List (List Nat))} (hk:0<k) (hk2:k<1000) (hN:N<1000) (hlen:bs.length=fs.length) (hfl:fs.length<1000) (hf:∀m∈fs,OM k m) (hb:∀m∈bs,OM k m) (hm1:jK vm=true) (nS:SB bS=none) (nd:SB bd=none) (hne:bd≠bS)
 (hK:∀S' vr vc,bE SB S'->GG SB S' vr (RS k N fs bs)->GG SB S' vc (CS k N fs bs)->K (.tuple [.agg [vm,vr,vc],ni 0]) S'):
 ∀(r i m:Nat) (Sz:Hp) (vr vc:V),i+r=N->r<m->bE SB Sz->Sz bp=some (.row (pv two) 25)->Sz bd=some (.row [.nil,.nil,.nil] 60)->Sz bS=some (.row [vm,vr,vc] 60)->GL 31 SF Sz v (mD fs)->GL 31 SF Sz w (mD bs)->GG SB Sz vr (RS k i fs bs)->GG SB Sz vc (CS k i fs bs)->(∀j m m',vr= .acc j m->vc≠ .acc j m')->
  dO x m (ni N) (.ptr bp 0) (.ptr bd 0) v w (.ptr bS 0) (nu (i+1)) Sz K:=by
 intro r;induction r with
 | zero=>
  intro i m Sz vr vc hi hm le rp rd rS gv gw gr gc ap;obtain⟨m,rfl⟩:=Nat.exists_eq_succ_of_ne_zero (show m≠0 by omega);rw [vL];unfold pF;refine aE ?_;have ei:i=N:=by omega
  subst ei;rw [LB (by omega),Xu,decide_eq_false (by omega),aZ,iU rS,cF (by simp)];show rH 3 (.ptr bd 0) (.agg [vm,vr,vc]) Sz _;refine qT (n:=3) rd (by simp [hm1,gr.one,gc.one]) rfl rfl ?_;rw [iU (upd_same),cF (by simp)];refine aJ (hK _ vr vc (fun j o e=>by rw [aB (fun c=>by rw [c,nd]at e;cases e)];exact le _ _ e) (gr.set rd fun vs e m c=>by cases c) (gc.set rd fun vs e m c=>by cases c))
 | succ r ih=>
  intro i m Sz vr vc hi hm le rp rd rS gv gw gr gc ap;obtain⟨m,rfl⟩:=Nat.exists_eq_succ_of_ne_zero (show m≠0 by omega);rw [vL];unfold pF;refine aE ?_;rw [LB (by omega),Xu,decide_eq_true (by omega),cU,gv.len,HR,hx.most];refine Zr (two:=two) (SF:=SF) (SS:=Sz) hM hx (show b64 (i+1)from Nat.lt_of_le_of_lt (show i+1<=1000 by omega) (by decide)) hk hk2 hlen hfl hf hb gv gw rp fs.length 0 M Sz .nil .nil (by omega) (by omega) (.refl _) (by rw [List.take_zero];exact .nil) (by rw [List.take_zero];exact .nil) (fun j m m' e=>by cases e) fun m2 S2 u1 u2 gP g1 g2 ap2=>?_;rw [nX];unfold iZ;refine aE ?_;have rS2:=gP _ _ rS;have sr:∀{q:Prop},aL vr vr q=q:=fun {q}=>bQ gr.same;have sc:∀{q:Prop},aL vc vc q=q:=fun {q}=>bQ gc.same;have a1:[vm,vr,vc][1]? =some vr:=rfl;have a2:[vm,vr,vc][2]? =some vc:=rfl;rw [aR,decide_eq_false (by omega),aZ,aN,cG rS2 a1,aN,cG rS2 a2,cG rS2 a2,sc,cG rS2 a1,sr];refine⟨yS g1.one fun _ _=>trivial,yS g2.one fun _ _=>trivial,?_⟩;have leB:=le.trans gP;have Ug:=gr.up gP;have Zt:=gc.up gP;have g1B:=g1.base le;have g2B:=g2.base le;have hiR:(RS k i fs bs).length<=1000000:=by unfold RS;simp;omega
  have hiC:(CS k i fs bs).length<=1000000:=by unfold CS;simp;omega
  refine Ug.app leB hiR g1B fun vr3 S3 kP p3 o3 gr3=>?_
  have q3:∀{j:Nat} {o:Ob},S2 j=some o->(∀vs m,o≠ .dF vs 30 m)->S3 j=some o:=fun {j o} e hno=>p3 _ _ e fun m c=>by
   obtain⟨vs,n,e2⟩:=Ug.there c;rw [e]at e2;injection e2 with e2;exact hno _ _ e2
  have rS3:=q3 rS2 (fun vs m e=>by cases e);have gc3:GG SB S3 vc (CS k i fs bs):=Zt.keep p3 (fun j m e=>Ug.there e) fun j m m' e c=>ap j m' m c e;have g23:GL 44 SB S3 u2 (vE k (i+1) fs bs):=g2B.but fun j vs m e=>q3 e fun vs' m' c=>by injection c with _ c;cases c
  have ap3:∀j m m',vr3= .acc j m->vc≠ .acc j m':=fun j m m' e c=>by
   rcases o3 j m e with ⟨m2,e2⟩ | e2
   ·exact ap j m2 m' e2 c
   ·obtain⟨vs,n,e4⟩:=Zt.there c
    rw [e2]at e4;cases e4
  have gl3:∀{u:V} {ds:List Dt},GL 31 SF Sz u ds->GL 31 SF S3 u ds:=fun {u ds} g=>(g.up gP).but fun j vs m e=>q3 e fun vs' m' c=>by injection c with _ c;cases c
  rw [cG rS3 a2,sc,aN,cG rS3 a2,sc];refine⟨yS g2.one fun _ _=>trivial,?_⟩;refine gc3.app kP hiC g23 fun vc4 S4 le4 p4 o4 gc4=>?_
  have q4:∀{j:Nat} {o:Ob},S3 j=some o->(∀vs m,o≠ .dF vs 30 m)->S4 j=some o:=fun {j o} e hno=>p4 _ _ e fun m c=>by
   obtain⟨vs,n,e2⟩:=gc3.there c;rw [e]at e2;injection e2 with e2;exact hno _ _ e2
  have rS4:=q4 rS3 (fun vs m e=>by cases e);have gr4:GG SB S4 vr3 (RS k i fs bs++[vC k (i+1) fs bs]):=gr3.keep p4 (fun j m e=>gc3.there e) fun j m m' e c=>ap3 j m m' e c
  have ap4:∀j m m',vr3= .acc j m->vc4≠ .acc j m':=fun j m m' e c=>by
   rcases o4 j m' c with ⟨m2,e2⟩ | e2
   ·exact ap3 j m m2 e e2
   ·obtain⟨vs,n,e4⟩:=gr3.there e
    rw [e2]at e4;cases e4
  have gl4:∀{u:V} {ds:List Dt},GL 31 SF Sz u ds->GL 31 SF S4 u ds:=fun {u ds} g=>(gl3 g).but fun j vs m e=>q4 e fun vs' m' c=>by injection c with _ c;cases c
  rw [EB rS4 (by simp) gr3.one,aN];have rS5:upd S4 bS (.row ([vm,vr,vc].set 1 vr3) 60) bS=some (.row [vm,vr3,vc] 60):=upd_same;rw [EB rS5 (by simp) gc4.one,fP,aGB (by omega)];rw [<-aCr]at gr4;rw [<-aCs]at gc4;have low:∀{j:Nat} {o:Ob},Sz j=some o->(∀vs m,o≠ .dF vs 30 m)->S4 j=some o:=fun {j o} e hno=>q4 (q3 (gP _ _ e) hno) hno;have hpS:bp≠bS:=fun c=>by rw [c,rS]at rp;injection rp with rp;injection rp with _ rp;cases rp
  refine ih (i+1) m (upd S4 bS (.row ([vm,vr3,vc].set 2 vc4) 60)) vr3 vc4 (by omega) (by omega) (fun j o e=>by rw [aB (fun c=>by rw [c,nS]at e;cases e)];exact le4 _ _ e) ?_ ?_ upd_same ((gl4 gv).set rS4 fun vs m c=>by cases c) ((gl4 gw).set rS4 fun vs m c=>by cases c) (gr4.set rS4 fun vs e m c=>by cases c) (gc4.set rS4 fun vs e m c=>by cases c) ap4
  ·rw [aB hpS];exact low rp fun vs m c=>by cases c
  ·rw [aB hne];exact low rd fun vs m c=>by cases c
theorem ZS{n:Nat}{l:List Nat} (h:l.length=n*n) (hl:∀c∈l,c<23):OM n (iO n l):=by
 refine⟨PQ _ _,fun q hq=>?_⟩;unfold iO at hq;obtain⟨i,hi,rfl⟩:=List.mem_map.1 hq;have hi:=List.mem_range.1 hi;refine⟨?_,fun c hc=>hl c (List.mem_of_mem_drop (List.mem_of_mem_take hc))⟩;rw [List.length_take,List.length_drop,h];have:(i+1)*n<=n*n:=Nat.mul_le_mul_right _ hi;rw [Nat.succ_mul]at this;omega
theorem Lv{n Q:Nat} (hQ:Q+1=n*n):∀(l:List (Nat×Nat)) (D:List Nat),(Q+Q)*l.length<=D.length->(∀c∈D,c<23)->(∀m∈fM n Q l D,OM n m)/\∀m∈bM n Q l D,OM n m:=by
 intro l;induction l with
 | nil=>
  intro D _ _;constructor
  ·intro m h;cases h
  ·intro m h;cases h
 | cons p l ih=>
  intro D hD hc;rw [List.length_cons,Nat.mul_succ]at hD;obtain⟨h1,h2⟩:=ih (D.drop (Q+Q)) (by rw [List.length_drop];omega) (fun c h=>hc c (List.mem_of_mem_drop h));refine⟨fun m hm=>?_,fun m hm=>?_⟩
  ·rw [SY]at hm
   rcases List.mem_cons.1 hm with rfl | hm
   ·refine ZS (by rw [List.length_cons,List.length_take];omega) fun c h=>?_
    rcases List.mem_cons.1 h with rfl | h
    ·exact Nat.mod_lt _ (by decide)
    ·exact hc c (List.mem_of_mem_take h)
   ·exact h1 m hm
  ·rw [SZ]at hm
   rcases List.mem_cons.1 hm with rfl | hm
   ·refine ZS (by rw [List.length_cons,List.length_take,List.length_drop];omega) fun c h=>?_
    rcases List.mem_cons.1 h with rfl | h
    ·exact Nat.mod_lt _ (by decide)
    ·exact hc c (List.mem_of_mem_drop (List.mem_of_mem_take h))
   ·exact h2 m hm
theorem OM.sq{k:Nat} (hk:k<1000){f b:List (List Nat)} (h1:OM k f) (h2:OM k b):Sq f b:=
 ⟨h1.l64,h2.l64,fun q hq=>by rw [(h1.2 q hq).1];omega,by rw [h1.1];omega,by rw [h1.1,h2.1],fun i a b=>by rw [(h1.2 _ (List.getElem_mem a)).1,(h2.2 _ (List.getElem_mem b)).1]⟩
def fT (two:Bool) (L:List (Nat×Nat)) (D:List Nat):List (List (List Nat)):=fM (tT two+1) (tQ two) L D
def bT (two:Bool) (L:List (Nat×Nat)) (D:List Nat):List (List (List Nat)):=bM (tT two+1) (tQ two) L D
theorem Zu (hM:1000000<M) (hx:Deep PP bH gM M (n+22) x){O:Tag}{L:List (Nat×Nat)} (hL:L.length=2) (aET:∀p∈L,b64 p.1/\b64 p.2) (h:Tape Sz t s ah 0)
 (hK:∀D S' vr vc t1,D=drawn ((tQ two+tQ two)*L.length) ah s->bE (del Sz t) S'->GG (del Sz t) S' vr (RS (tT two+1) (tN two) (fT two L D) (bT two L D))->GG (del Sz t) S' vc (CS (tT two+1) (tN two) (fT two L D) (bT two L D))->
  K (.tuple [.agg [.list t1 (mD (pD (fT two L D) (bT two L D))) (pD (fT two L D) (bT two L D)).length,vr,vc],ni 0]) S'):
 x.call kF [.agg (pv two),.list O (PF L) L.length,ni (tN two),.ptr t 0] Sz K:=by
 have hQ:tQ two<9:=by cases two<;>decide
 have hT:tT two<=2:=by cases two<;>decide
 have hN:tN two<=7:=by cases two<;>decide
 have hN1:1<=tN two:=by cases two<;>decide
 have hQQ:tQ two+1=(tT two+1)*(tT two+1):=by cases two<;>rfl
 refine hx.call aES fun y hy=>?_;rw [Ih];unfold RI;obtain⟨w0,hw0,_⟩:=id h;refine cO jL fun p hp=>?_;have hpt:p≠t:=ne_of hp hw0;have le1:bE Sz (upd Sz p (.row (pv two) 25)):= .aH hp;have rp:upd Sz p (.row (pv two) 25) p=some (.row (pv two) 25):=upd_same;generalize upd Sz p (.row (pv two) 25)=S1 at le1 rp;refine eI (l:=[.nil,.nil,.nil]) rfl fun bd hbd=>?_;have hdt:bd≠t:=ne_of hbd (le1 _ _ hw0);have gP:bE S1 (upd S1 bd (.row [.nil,.nil,.nil] 60)):= .aH hbd;have rd:upd S1 bd (.row [.nil,.nil,.nil] 60) bd=some (.row [.nil,.nil,.nil] 60):=upd_same;generalize upd S1 bd (.row [.nil,.nil,.nil] 60)=S2 at gP rd;have Cr:=gP _ _ rp;have ND:=le1.trans gP;rw [RF Cr];refine Pc (two:=two) hy ?_;rw [jV,Bool.not_true,aF,aI];dsimp only;rw [aF,aI];dsimp only;rw [gF,aF,aI,RF Cr];dsimp only;rw [aF,aI];dsimp only;refine ZC (n:=n+20) (two:=two) hy ?_;rw [aF,aI];dsimp only;rw [nB,decide_eq_true hL,Bool.not_true,aF,dB,aF,aI];dsimp only;rw [aF,aI];dsimp only;rw [aR,decide_eq_false (by omega),aF,dB,aF,aI];dsimp only;rw [aF,aI];dsimp only;rw [xR,decide_eq_false (by omega),aF,dB,aZ,gF,hy.most];have delN:del Sz t t=none:=by unfold del;rw [if_pos rfl]
 have leB:bE (del Sz t) S2:=Ci.trans ND;have hp0:del Sz t p=none:=by rw [zN hpt];exact hp
 have hbd0:del Sz t bd=none:=by rw [zN hdt];exact le1.none hbd
 have Uc:Tape S2 t s ah (0+(tQ two+tQ two)*0):=h.Pt (el:=31) (by decide) fun j o e _=>ND _ _ e;refine Zq (n:=n) (t:=t) (d:=0) (N:=tN two) (SB:=del Sz t) (L:=L) (AH:=ah) (S:=s) hM hy (by rw [hL];decide) aET (fun S3 v w kP zP rd3 gv gw=>?_) L.length 0 M S2 .nil .nil s ah [] [] (by omega) (by rw [hL];omega) leB Cr rd delN (by rw [hL];decide) Uc .nil .nil (fun j m m' e=>by cases e) rfl rfl rfl rfl;generalize hD:drawn ((tQ two+tQ two)*L.length) ah s=D at gv gw hK;have hDl:D.length=(tQ two+tQ two)*L.length:=by rw [<-hD];exact mZ _ _ _
 have hDc:∀c∈D,c<23:=by rw [<-hD];exact zM _ _ _
 obtain⟨sqf,sqb⟩:=Lv (n:=tT two+1) (Q:=tQ two) hQQ L D (by omega) hDc;have lF:(fM (tT two+1) (tQ two) L D).length=2:=by rw [Lt,hL]
 have lB:(bM (tT two+1) (tQ two) L D).length=2:=by rw [Lu,hL]
 rw [RF zP];refine Zj (n:=n+1) hM hy (by rw [lF];decide) (by rw [lF,lB]) (fun i a b=>(sqf _ (List.getElem_mem a)).sq (by omega) (sqb _ (List.getElem_mem b))) gv gw fun t1=>?_
 have hbl:∀{k:V->Prop} {u:V},jK u=true->oY u=(fun p=>p [u])->k (.agg [u,.nil,.nil])->gQ [(.slice none 0 0),(.slice none 0 0),(.slice none 0 0)] [(0,1,u)] k:=fun {k u} h1 hc hk=>by
  have hz:AK [(.slice none 0 0),(.slice none 0 0),(.slice none 0 0)]=some [.nil,.nil,.nil]:=rfl;unfold gQ mY;rw [hz];show jE [(0,1,u)] [.nil,.nil,.nil] _;unfold jE;rw [hc];exact⟨rfl,by simp,hk⟩
 refine hbl rfl rfl ?_;refine eI (l:=[.nil,.nil,.nil]) rfl fun bS hbS=>?_;refine qT (n:=3) (i:=bS) upd_same rfl rfl rfl ?_;rw [fP,hy.most];have le4:bE S3 (upd S3 bS (.row [.list t1 (mD (pD (fM (tT two+1) (tQ two) L D) (bM (tT two+1) (tQ two) L D))) (pD (fM (tT two+1) (tQ two) L D) (bM (tT two+1) (tQ two) L D)).length,.nil,.nil] 60)):= .aH hbS;refine Zs (n:=n+12) (two:=two) (i:=0) (k:=tT two+1) (SB:=del Sz t) hM hy (by omega) (by omega) (by omega) (by rw [lF,lB]) (by rw [lF];decide) sqf sqb rfl (kP.none hbS) hbd0 (Ne.symm (ne_of hbS rd3)) (fun S' vr vc a b c=>hK D S' vr vc t1 rfl a b c) (tN two) M _ .nil .nil (by omega) (by omega) (kP.trans le4) (le4 _ _ zP) (le4 _ _ rd3) upd_same (gv.up le4) (gw.up le4) .nil .nil (fun j m m' e=>by cases e)
end
set_option maxRecDepth 4000
def cX (a:List Nat) (k:Nat):List Nat:=a.map fun c=>c*k%23
theorem iM (a:List Nat) (k:Nat):(cX a k).length=a.length:=List.length_map _
theorem ZT (a:List Nat) (k:Nat):qB (cX a k):=fun c hc=>by
 obtain⟨z,_,rfl⟩:=List.mem_map.1 hc;exact qS q23
def sG (next:List Nat) (at_:Nat):List Nat:=next.flatMap fun a=>cX (cX next a) at_
def kV (row:List Nat) (back:Nat):List Nat->List Nat
 | []=>[]
 | d::l=>(row.drop 1).map (kR d)++((row.drop 1).map (iN back d)++kV row back l)
theorem Zv (row:List Nat) (back:Nat):∀diff,qB (kV row back diff):=by
 intro diff;induction diff with
 | nil=>intro c hc;cases hc
 | cons d l ih=>
  intro c hc;rcases List.mem_append.1 hc with hc | hc
  ·obtain⟨a,_,rfl⟩:=List.mem_map.1 hc;exact qS q23
  ·rcases List.mem_append.1 hc with hc | hc
   ·obtain⟨a,_,rfl⟩:=List.mem_map.1 hc;exact Nat.lt_trans (sub_lt _ _) (by decide)
   ·exact ih c hc
theorem ZU (row:List Nat) (back:Nat):∀diff,(kV row back diff).length=diff.length*(row.length-1+(row.length-1)):=by
 intro diff;induction diff with
 | nil=>simp [kV]
 | cons d l ih=>simp only [kV,List.length_append,List.length_map,List.length_drop,ih,List.length_cons,Nat.succ_mul];omega
inductive AN (S0 Sz:Hp):V->List Nat->Prop
 | nil:AN S0 Sz .nil []
 | acc {i:Nat} {l:List Nat} (h0:S0 i=none) (h:Sz i=some (.dF (gA l) 22 l.length)):AN S0 Sz (.acc i l.length) l
section
variable{M n:Nat}{x:VE}{Sz S0:Hp}{K:KV}{two:Bool}
theorem AN.app{v:V}{l m:List Nat}{O:Tag} (h:AN S0 Sz v l) (hs:bE S0 Sz) (hm:0<m.length) (hl:l.length+m.length<=1000000) (hk:∀w S',bE S0 S'->(∀j o,Sz j=some o->(∀vs m,o≠ .dF vs 22 m)->S' j=some o)->AN S0 S' w (l++m)->K w S'):kI 22 1 8 v (.list O (tV m) m.length) Sz K:=by
 refine(NV.list (Sz:=Sz) (O:=O) (l:=m)).src ?_;obtain⟨q,hq⟩:∃q,m.length=q+1:=⟨m.length-1,by omega⟩;rw [hq];refine⟨SQ m,?_⟩;cases h with
 | nil=>
  refine⟨by omega,fun i hi=>?_⟩;have:=hk (.acc i m.length) (upd Sz i (.dF (gA m) 22 m.length)) (hs.trans (.aH hi)) (fun j o e _=>by rw [aB (fun c=>by rw [c,hi]at e;cases e)];exact e) (.acc (hs.none hi) upd_same);rw [hq]at this;exact this
 | @acc i _ h0 h=>
  simp only [h];refine⟨trivial,trivial,by rw [cY,Nat.mul_one],by omega,?_⟩;have e:l.length+(q+1)=(l++m).length:=by rw [List.length_append,hq]
  rw [e,<-SP];exact hk _ _ (fun j o e=>by rw [aB (fun c=>by rw [c,h0]at e;cases e)];exact hs _ _ e) (fun j o e hno=>by rw [aB (fun c=>by rw [c,h]at e;injection e with e;exact hno _ _ e.symm)];exact e) (.acc h0 upd_same)
theorem aCt:gM qY=none:=rfl
theorem aGC:gM yN=none:=rfl
theorem aCu:gM sB=none:=rfl
theorem Pu (hM:1000000<M) (hx:Deep PP bH gM M (n+2) x){v:V}{a:List Nat}{k:Nat} (hv:NV Sz v a) (ha:a.length<1000) (a64:qB a) (hk:b64 k) (hK:∀t,K (.list t (tV (cX a k)) a.length) Sz):x.call qY [v,nu k,nu 23] Sz K:=by
 refine hx.call aCt fun y hy=>?_;rw [Dm];unfold OA;refine Xw hy q23 ?_;rw [jV,Bool.not_true,aZ,hv.len];refine⟨Nat.le_refl _,by omega,by omega,fun r hr=>?_⟩;have le1:bE Sz (upd Sz r (.row (gA (List.replicate a.length 0)) 22)):= .aH hr;show aV v fun v4=>jR y y.most (nu k) (nu 23) (.own r 0 a.length a.length) v v4 (ni 0) (upd Sz r (.row (List.replicate a.length [nu 0]).flatten 22)) K;rw [zeros,(hv.up le1).len,hy.most]
 have go:∀(q i m:Nat) (S1:Hp) (us:List Nat),i+q=a.length->q<m->bE Sz S1->S1 r=some (.row (gA us) 22)->us.length=a.length->us.take i=(cX a k).take i->jR y m (nu k) (nu 23) (.own r 0 a.length a.length) v (ni a.length) (ni i) S1 K:=by
  intro q;induction q with
  | zero=>
   intro i m S1 us hi hm le rr hus he;obtain⟨m,rfl⟩:=Nat.exists_eq_succ_of_ne_zero (show m≠0 by omega);rw [xK];unfold qP;refine aE ?_;rw [aR,lY (by omega),aZ];rw [List.take_of_length_le (by omega),List.take_of_length_le (by rw [iM];omega)]at he;subst he;have:=Id (K:=K) le hr rr (fun t=>by rw [iM];exact hK t);rw [iM]at this;exact this
  | succ q ih=>
   intro i m S1 us hi hm le rr hus he;obtain⟨m,rfl⟩:=Nat.exists_eq_succ_of_ne_zero (show m≠0 by omega);rw [xK];unfold qP;refine aE ?_;have hi1:i<a.length:=by omega
   obtain⟨p,hp,hld⟩:=(hv.up le).at (i:=i) (List.getElem?_eq_getElem hi1);rw [aR,AZ hi1,cU,hp,hld _ (.refl _)];refine HG hy (a64 _ (List.getElem_mem hi1)) hk q23 ?_;refine⟨hi1,?_⟩;rw [Nat.zero_add,Nat.mul_one];refine BD rr rfl (by rw [cY];omega) ?_;rw [qE (by rw [cY];omega),II,aX (by omega)];refine ih (i+1) m _ (us.set i (a[i]*k%23)) (by omega) (by omega) (fun j o e=>by rw [aB (fun c=>by rw [c,hr]at e;cases e)];exact le _ _ e) upd_same (by rw [List.length_set];exact hus) ?_
   have e1:(us.set i (a[i]*k%23)).take (i+1)=us.take i++[a[i]*k%23]:=by
    rw [List.take_add_one,List.take_set_of_le (Nat.le_refl i),List.getElem?_set_self (by omega)];rfl
   have e2:(cX a k).take (i+1)=(cX a k).take i++[a[i]*k%23]:=by
    rw [List.take_add_one];unfold cX;rw [List.getElem?_map,List.getElem?_eq_getElem hi1];rfl
   rw [e1,e2,he]
 exact go a.length 0 M _ (List.replicate a.length 0) (by omega) (by omega) le1 upd_same (by rw [List.length_replicate]) rfl
def yO (two:Bool):Nat:=2*(tQ two+tQ two)
theorem aGD (hx:Deep PP bH gM M (n+1) x) (hK:K (ni (yO two)) Sz):x.call yN [.agg (pv two)] Sz K:=by
 refine hx.call aGC fun y hy=>?_;rw [Dn];unfold OB;refine cO jL fun p hp=>?_;have le1:bE Sz (upd Sz p (.row (pv two) 25)):= .aH hp;have rp:upd Sz p (.row (pv two) 25) p=some (.row (pv two) 25):=upd_same;generalize upd Sz p (.row (pv two) 25)=S1 at le1 rp;have hT:tT two<=2:=by cases two<;>decide
 have e6:(pv two)[6]? =some (ni (tT two)):=rfl;have e7:(pv two)[7]? =some (ni 1):=rfl;have e8:(pv two)[8]? =some (ni 1):=rfl;have hmul:(tT two+1)*(tT two+1)<=9:=by cases two<;>decide
 have Ia:1<=(tT two+1)*(tT two+1):=by cases two<;>decide
 rw [aN,cG rp e7,pB (by decide),aN,cG rp e8,aX (by decide),pB (by decide),aN,cG rp e6,aX (by omega),aN,cG rp e6,aX (by omega),pB (by omega),nD Ia (by omega),pB (by omega)];have e:2*1*(1+1)*((tT two+1)*(tT two+1)-1)=yO two:=by unfold yO tQ;omega
 rw [e];exact jG le1 hK
structure OnD (b0 b1 b2 b3 lo:Nat) (vd:V) (diff line:List Nat) (back:Nat) (Sz:Hp):Prop where
 r0:Sz b0=some (.row [nu 23,nu back,vd] 86)
 r1:Sz b1=some (.row [.acc lo line.length] 32)
 r2:Sz b2=some (.row [ni 1] 3)
 r3:Sz b3=some (.row [ni 1] 3)
 d:NV Sz vd diff
 l:Sz lo=some (.dF (gA line) 22 line.length)
theorem OnD.up{b0 b1 b2 b3 lo:Nat}{vd:V}{diff line:List Nat}{back:Nat}{Sz S':Hp} (h:OnD b0 b1 b2 b3 lo vd diff line back Sz) (hle:bE Sz S'):OnD b0 b1 b2 b3 lo vd diff line back S':=
 ⟨hle _ _ h.r0,hle _ _ h.r1,hle _ _ h.r2,hle _ _ h.r3,h.d.up hle,hle _ _ h.l⟩
theorem OnD.nv{b0 b1 b2 b3 lo:Nat}{vd:V}{diff line:List Nat}{back:Nat}{Sz:Hp} (h:OnD b0 b1 b2 b3 lo vd diff line back Sz) (c:1<=line.length):NV Sz (.tW lo line.length 1 (line.length-1) (line.length-1)) (line.drop 1):=by
 have:NV Sz (.tW lo line.length 1 (line.drop 1).length (line.length-1)) (line.drop 1):= .tW h.l (fun j n hj=>by rw [List.getElem?_drop]at hj;exact rG hj) (by rw [cY,List.length_drop];omega);rw [List.length_drop]at this;exact this
theorem Zw (hM:1000000<M) (hx:Deep PP bH gM M (n+3) x){l b0 b1 b2 b3 lo:Nat}{vd:V}{diff line:List Nat}{back:Nat} (Cq:qB diff) (VI:qB line) (hb:b64 back) (hl0:1<line.length) (hll:line.length<1000) (hdl:diff.length<1000){Inv:Nat->Hp->Prop}
 (hI:∀k Sz,Inv k Sz->OnD b0 b1 b2 b3 lo vd diff line back Sz)
 (step:∀(y:VE),Deep PP bH gM M (n+2) y->∀(k:Nat) (Sz:Hp) (z:Nat) (rest:List Nat) (K:KV),(kV line back diff).drop k=z::rest->Inv k Sz->(∀S',Inv (k+1) S'->K (.bool true) S')->y.R l [nu z] Sz K) (h0:Inv 0 Sz)
 (hK:∀k Sz,(kV line back diff).drop k=[]->Inv k Sz->K (.tuple []) Sz):x.call bD [.yield l,.ptr b0 0,.ptr b1 0,.ptr b2 0,.ptr b3 0] Sz K:=by
 refine hx.call Pf fun y hy=>?_;rw [uT];unfold oF;have q0:=hI 0 Sz h0;rw [aN,cG q0.r0 rfl,q0.d.len,hy.most];have aB0:(line.drop 1).length=line.length-1:=List.length_drop
 have aEl:∀(d i m0:Nat),b64 d->(∀k Sz,Inv k Sz->(kV line back diff).drop k=kV line back (diff.drop (i+1))->bW y m0 (.yield l) (.ptr b0 0) (.ptr b1 0) (.ptr b2 0) (.ptr b3 0) vd (ni diff.length) (ni (i+1)) Sz K)->i<1000->
  ∀(r j m k:Nat) (Sz:Hp),j+r=line.length-1->r<m->Inv k Sz->(kV line back diff).drop k=((line.drop 1).drop j).map (iN back d)++kV line back (diff.drop (i+1))->
   bZ y m m0 (.yield l) (.ptr b0 0) (.ptr b1 0) (.ptr b2 0) (.ptr b3 0) (nu d) vd (ni diff.length) (ni i) (.tW lo line.length 1 (line.length-1) (line.length-1)) (ni (line.length-1)) (ni j) Sz K:=by
  intro d i m0 hd hk hi r;induction r with
  | zero=>
   intro j m k Sz hj hm h he;obtain⟨m,rfl⟩:=Nat.exists_eq_succ_of_ne_zero (show m≠0 by omega);rw [dI];unfold cK;refine aE ?_;rw [aR,lY (by omega),aZ,aX (by omega)];rw [List.drop_eq_nil_of_le (show(line.drop 1).length<=j by omega)]at he;exact hk k Sz h he
  | succ r ih=>
   intro j m k Sz hj hm h he;obtain⟨m,rfl⟩:=Nat.exists_eq_succ_of_ne_zero (show m≠0 by omega);rw [dI];unfold cK;refine aE ?_;have hlt:j<(line.drop 1).length:=by omega
   have q:=hI k Sz h;have nv:=q.nv (by omega);obtain⟨p,hp,hld⟩:=nv.at (i:=j) (List.getElem?_eq_getElem hlt);have hz:=VI _ (List.mem_of_mem_drop (List.getElem_mem hlt));rw [aR,AZ (by omega),cU,hp,hld Sz (.refl Sz),aN,cG q.r0 rfl,aN,cG (o:=1) q.r0 rfl,aN,cG q.r0 rfl,aN,cG q.r0 rfl];refine HG hy hd hz q23 ?_;rw [cG q.r0 rfl,bO,cG q.r0 rfl,bO,cG (o:=1) q.r0 rfl,bO];refine HG hy (qS q23) hb q23 ?_;rw [cG q.r0 rfl,bO];refine ZG hy (show 0<18446744073709551616 by decide) (qS q23) q23 ?_;rw [NC];have ed:(line.drop 1).drop j=(line.drop 1)[j]::(line.drop 1).drop (j+1):=List.drop_eq_getElem_cons hlt;rw [ed,List.map_cons,List.cons_append]at he;refine step y hy k Sz _ _ _ he h fun S' h'=>?_;rw [jV,Bool.not_true,aZ,aX (by omega)];exact ih (j+1) m (k+1) S' (by omega) (by omega) h' (SU he)
 have aEm:∀(d i m0:Nat),b64 d->(∀k Sz,Inv k Sz->(kV line back diff).drop k=kV line back (diff.drop (i+1))->bW y m0 (.yield l) (.ptr b0 0) (.ptr b1 0) (.ptr b2 0) (.ptr b3 0) vd (ni diff.length) (ni (i+1)) Sz K)->i<1000->
  ∀(r j m k:Nat) (Sz:Hp),j+r=line.length-1->r<m->Inv k Sz->(kV line back diff).drop k=((line.drop 1).drop j).map (kR d)++((line.drop 1).map (iN back d)++kV line back (diff.drop (i+1)))->
   cA y m m0 (.yield l) (.ptr b0 0) (.ptr b1 0) (.ptr b2 0) (.ptr b3 0) (nu d) vd (ni diff.length) (ni i) (.tW lo line.length 1 (line.length-1) (line.length-1)) (ni (line.length-1)) (ni j) Sz K:=by
  intro d i m0 hd hk hi r;induction r with
  | zero=>
   intro j m k Sz hj hm h he;obtain⟨m,rfl⟩:=Nat.exists_eq_succ_of_ne_zero (show m≠0 by omega);rw [dJ];unfold cL;refine aE ?_;have q:=hI k Sz h;rw [aR,lY (by omega),aZ,cG q.r1 rfl,cG q.r3 rfl];rw [List.drop_eq_nil_of_le (show(line.drop 1).length<=j by omega)]at he;refine Dd q.l hl0 ?_;rw [ZV,hy.most];exact aEl d i m0 hd hk hi (line.length-1) 0 M k Sz (by omega) (by omega) h he
  | succ r ih=>
   intro j m k Sz hj hm h he;obtain⟨m,rfl⟩:=Nat.exists_eq_succ_of_ne_zero (show m≠0 by omega);rw [dJ];unfold cL;refine aE ?_;have hlt:j<(line.drop 1).length:=by omega
   have q:=hI k Sz h;have nv:=q.nv (by omega);obtain⟨p,hp,hld⟩:=nv.at (i:=j) (List.getElem?_eq_getElem hlt);have hz:=VI _ (List.mem_of_mem_drop (List.getElem_mem hlt));rw [aR,AZ (by omega),cU,hp,hld Sz (.refl Sz),aN,cG q.r0 rfl];refine HG hy hd hz q23 ?_;rw [NC];have ed:(line.drop 1).drop j=(line.drop 1)[j]::(line.drop 1).drop (j+1):=List.drop_eq_getElem_cons hlt;rw [ed,List.map_cons,List.cons_append]at he;refine step y hy k Sz _ _ _ he h fun S' h'=>?_;rw [jV,Bool.not_true,aZ,aX (by omega)];exact ih (j+1) m (k+1) S' (by omega) (by omega) h' (SU he)
 have all:∀(r i m k:Nat) (Sz:Hp),i+r=diff.length->r<m->Inv k Sz->(kV line back diff).drop k=kV line back (diff.drop i)->bW y m (.yield l) (.ptr b0 0) (.ptr b1 0) (.ptr b2 0) (.ptr b3 0) vd (ni diff.length) (ni i) Sz K:=by
  intro r;induction r with
  | zero=>
   intro i m k Sz hi hm h he;obtain⟨m,rfl⟩:=Nat.exists_eq_succ_of_ne_zero (show m≠0 by omega);rw [gS];unfold fB;refine aE ?_;rw [aR,lY (by omega),aZ];rw [List.drop_eq_nil_of_le (show diff.length<=i by omega)]at he;exact aJ (hK k Sz he h)
  | succ r ih=>
   intro i m k Sz hi hm h he;obtain⟨m,rfl⟩:=Nat.exists_eq_succ_of_ne_zero (show m≠0 by omega);rw [gS];unfold fB;refine aE ?_;have hlt:i<diff.length:=by omega
   have q:=hI k Sz h;obtain⟨p,hp,hld⟩:=q.d.at (i:=i) (List.getElem?_eq_getElem hlt);rw [aR,AZ hlt,cU,hp,hld Sz (.refl Sz),cG q.r1 rfl,cG q.r2 rfl];refine Dd q.l hl0 ?_;rw [ZV,hy.most];have ed:diff.drop i=diff[i]::diff.drop (i+1):=List.drop_eq_getElem_cons hlt;rw [ed]at he;exact aEm diff[i] i m (Cq _ (List.getElem_mem hlt)) (fun k Sz h he=>ih (i+1) m k Sz (by omega) (by omega) h he) (by omega) (line.length-1) 0 M k Sz (by omega) (by omega) h he
 exact all diff.length 0 M 0 Sz (by omega) (by omega) h0 rfl
theorem aCv (hx:Deep PP bH gM M (n+1) x){Sz:Hp}{lo:Nat}{vd:V}{diff line:List Nat}{back:Nat} (hv1:jK vd=true) (hd:NV Sz vd diff) (hl:Sz lo=some (.dF (gA line) 22 line.length))
 (hK:∀b0 b1 b2 b3 S',bE Sz S'->OnD b0 b1 b2 b3 lo vd diff line back S'->K (.func bD [] [.ptr b0 0,.ptr b1 0,.ptr b2 0,.ptr b3 0]) S'):x.call gC [.agg [nu 23,nu back,vd],.acc lo line.length,ni 1,ni 1] Sz K:=by
 refine hx.call Xh fun y hy=>?_;rw [xB];unfold qF;refine cO (by simp only [List.all_cons,List.all_nil,hv1];rfl) fun b0 h0=>?_;have le0:bE Sz (upd Sz b0 (.row [nu 23,nu back,vd] 86)):= .aH h0;have r0:upd Sz b0 (.row [nu 23,nu back,vd] 86) b0=some (.row [nu 23,nu back,vd] 86):=upd_same;generalize upd Sz b0 (.row [nu 23,nu back,vd] 86)=S1 at le0 r0;refine box1 rfl fun b1 h1=>?_;have le1:bE S1 (upd S1 b1 (.row [.acc lo line.length] 32)):= .aH h1;have r1:upd S1 b1 (.row [.acc lo line.length] 32) b1=some (.row [.acc lo line.length] 32):=upd_same;generalize upd S1 b1 (.row [.acc lo line.length] 32)=S2 at le1 r1;refine box1 rfl fun b2 h2=>?_;have gP:bE S2 (upd S2 b2 (.row [ni 1] 3)):= .aH h2;have r2:upd S2 b2 (.row [ni 1] 3) b2=some (.row [ni 1] 3):=upd_same;generalize upd S2 b2 (.row [ni 1] 3)=S3 at gP r2;refine box1 rfl fun b3 h3=>?_;have kP:bE S3 (upd S3 b3 (.row [ni 1] 3)):= .aH h3;have r3:upd S3 b3 (.row [ni 1] 3) b3=some (.row [ni 1] 3):=upd_same;generalize upd S3 b3 (.row [ni 1] 3)=S4 at kP r3;have OL:=((le0.trans le1).trans gP).trans kP;exact aJ (hK _ _ _ _ _ OL ⟨kP _ _ (gP _ _ (le1 _ _ r0)),kP _ _ (gP _ _ r1),kP _ _ r2,r3,hd.up OL,OL _ _ hl⟩)
theorem HT (next:List Nat) (a:Nat):(sG next a).length=next.length*next.length:=by
 have:∀(l:List Nat),(l.flatMap fun b=>cX (cX next b) a).length=l.length*next.length:=by
  intro l;induction l with
  | nil=>simp
  | cons b l ih=>rw [List.flatMap_cons,List.length_append,ih,iM,iM,List.length_cons,Nat.succ_mul];omega
 exact this next
theorem Lw (next:List Nat) (a:Nat):qB (sG next a):=fun c hc=>by
 obtain⟨b,_,h⟩:=List.mem_flatMap.1 hc;exact ZT _ _ c h
def RJ (line next diff draws:List Nat) (i:Nat):List Nat:=List.zipWith dD draws (kV (sG next (ev 23 line i)) (iA 19) diff)
theorem aCw (hM:1000000<M) (hx:Deep PP bH gM M (n+6) x){S0 Sz:Hp}{vd va vl vn:V}{diff line next draws:List Nat}{at_:Nat} (hv1:jK vd=true) (hv2:sE vd=true) (hd:NV Sz vd diff) (hdl:diff.length=2) (Cq:qB diff) (hl:NV Sz vl line) (hll:line.length=tT two+1) (VI:qB line) (hn:NV Sz vn next) (hnl:next.length=tT two+1) (aGE:qB next) (ha1:1<=at_) (ha2:at_<=tN two)
 (ma:MN S0 Sz va draws) (h64:qB draws) (hdr:draws.length=yO two) (hK:∀w S',bE Sz S'->MN Sz S' w (RJ line next diff draws at_)->K w S'):x.call sB [.agg (pv two),nu 19,vd,ni at_,vl,vn,va] Sz K:=by
 have hT:tT two<=2:=by cases two<;>decide
 have hT1:1<=tT two:=by cases two<;>decide
 have hN:tN two<=7:=by cases two<;>decide
 have hp:yO two<=32:=by cases two<;>decide
 have hp1:0<yO two:=by cases two<;>decide
 refine hx.call aCu fun y hy=>?_;rw [XW];unfold KF;refine cO jL fun bp hbp=>?_;have le1:bE Sz (upd Sz bp (.row (pv two) 25)):= .aH hbp;have rp:upd Sz bp (.row (pv two) 25) bp=some (.row (pv two) 25):=upd_same;generalize upd Sz bp (.row (pv two) 25)=S1 at le1 rp;rw [RF rp];refine aC1 (n:=n+3) hy hv1 (hd.up le1) hdl (by decide) (by decide) fun S2 gP=>?_;rw [iD (v:= .agg [nu 23,nu (iA 19),vd]) rfl,iD (v:= .bool true) rfl];refine eI (l:=[nu 0,nu 0,.nil]) rfl fun o ho=>?_;have ro:upd S2 o (.row [nu 0,nu 0,.nil] 86) o=some (.row [nu 0,nu 0,.nil] 86):=upd_same;have hall:[nu 23,nu (iA 19),vd].all jK=true:=by simp only [List.all_cons,List.all_nil,hv1];rfl
 refine qT (n:=3) (cs:=[nu 23,nu (iA 19),vd]) ro hall rfl rfl ?_;rw [fP];have kP:bE S2 (upd S2 o (.row [nu 23,nu (iA 19),vd] 86)):= .aH ho;have ro:upd S2 o (.row [nu 23,nu (iA 19),vd] 86) o=some (.row [nu 23,nu (iA 19),vd] 86):=upd_same;generalize upd S2 o (.row [nu 23,nu (iA 19),vd] 86)=S3 at kP ro;have uU:=(le1.trans gP).trans kP;have zP:=kP _ _ (gP _ _ rp);have e1:(pv two)[1]? =some (nu 23):=rfl;have e5:(pv two)[5]? =some (ni (tN two)):=rfl;have e6:(pv two)[6]? =some (ni (tT two)):=rfl
 have ld3:∀{S':Hp} {K:KV},bE S3 S'->bF 3 (.ptr o 0) S' K=K (.agg [nu 23,nu (iA 19),vd]) S':=fun {S' K} hle=>by
  rw [iU (hle _ _ ro),cF (by simp)];rfl
 have hl3:=hl.up uU;have hn3:=hn.up uU;rw [jV,Bool.not_true,aF,aI];dsimp only;rw [aF,aI,aR,decide_eq_false (by omega)];dsimp only;rw [aF,dB,aF,aI];dsimp only;rw [aF,aI,aN];dsimp only;rw [aF,aI,cG zP e5];dsimp only;rw [aF,aI,xR,decide_eq_false (by omega)];dsimp only;rw [aF,dB,aF,aI];dsimp only;rw [aF,aI,hl3.len];dsimp only;rw [aF,aI,aN];dsimp only;rw [aF,aI,cG zP e6];dsimp only;rw [aF,aI,aX (by omega)];dsimp only;rw [aF,aI,nB,decide_eq_true hll,Bool.not_true];dsimp only;rw [aF,dB,aF,aI];dsimp only;rw [aF,aI,hn3.len];dsimp only;rw [aF,aI,aN];dsimp only;rw [aF,aI,cG zP e6];dsimp only;rw [aF,aI,aX (by omega)];dsimp only;rw [aF,aI,nB,decide_eq_true hnl,Bool.not_true];dsimp only;rw [aF,dB,aF,aI];dsimp only;rw [aF,aI,(ma.up uU).nv.len];dsimp only;rw [aF,aI,RF zP];dsimp only;rw [aF,aI];dsimp only;refine aGD (n:=n+4) hy ?_;rw [aF,aI,nB,decide_eq_true hdr,Bool.not_true];dsimp only;rw [aF,dB,aZ,LB (by omega),aN,cG zP e1];refine UZ (n:=n+3) hM hy hl3 (by omega) VI (show at_<18446744073709551616 by omega) q23 ?_;rw [hn3.len,hy.most];generalize hat:ev 23 line at_=k;have aHK:b64 k:=by rw [<-hat];exact Pj 23 q23 _ _
 have go:∀(r i m:Nat) (S':Hp) (v:V),i+r=next.length->r<m->bE S3 S'->AN S3 S' v ((next.take i).flatMap fun b=>cX (cX next b) k)->kA y m vn va (.ptr bp 0) (.ptr o 0) (nu k) v vn (ni next.length) (ni i) S' K:=by
  intro r;induction r with
  | zero=>
   intro i m S' v hi hm le an;obtain⟨m,rfl⟩:=Nat.exists_eq_succ_of_ne_zero (show m≠0 by omega);rw [tG];unfold nK;refine aE ?_;rw [aR,lY (by omega),aZ,ld3 le,ld3 le];rw [List.take_of_length_le (by omega)]at an;have an:AN S3 S' v (sG next k):=an;have hrl:(sG next k).length=(tT two+1)*(tT two+1):=by rw [HT,hnl]
   have hmul:4<=(tT two+1)*(tT two+1)/\(tT two+1)*(tT two+1)<=9:=by cases two<;>decide
   generalize hrow:sG next k=row at an hrl;have r64:qB row:=by rw [<-hrow];exact Lw _ _
   cases an with
   | nil=>simp at hrl
   | @acc lo _ h0 hlo=>
    refine aCv (n:=n+4) hy hv1 ((hd.up uU).up le) hlo fun b0 b1 b2 b3 S5 wY hon=>?_
    have hsm:uP (.agg [nu 23,nu (iA 19),vd])=true:=by
     show(sE (nu 23)&&(sE (nu (iA 19))&&(sE vd&&true)))=true;rw [hv2];rfl
    rw [ld3 (le.trans wY),bQ hsm];have hol:(kV row (iA 19) diff).length=draws.length:=by rw [ZU,hdl,hrl,hdr];unfold yO tQ;omega
    have OL:=(uU.trans le).trans wY
    refine aC0 (n:=n) (On:=OnD b0 b1 b2 b3 lo vd diff row (iA 19)) (xs:=kV row (iA 19) diff) hM hy hon (fun Sz S' h hle=>h.up hle) hv1 (Zv _ _ _)
     (fun z hz l Inv Sz K hI step h0 hK=>Zw (n:=n+1) (Inv:=Inv) hM hz Cq r64 (by have:=Co (c:=19) (by decide) (by decide);exact Nat.lt_trans this (by decide)) (by omega) (by omega) (by omega) hI step h0 hK) (ma.up OL) h64 hol (by omega) (by omega) fun w S6 VH mw=>?_
    refine aJ (hK w S6 (OL.trans VH) ?_);unfold RJ;rw [hat,hrow];exact mw.base OL
  | succ r ih=>
   intro i m S' v hi hm le an;obtain⟨m,rfl⟩:=Nat.exists_eq_succ_of_ne_zero (show m≠0 by omega);rw [tG];unfold nK;refine aE ?_;have hi1:i<next.length:=by omega
   have hn':=hn3.up le;obtain⟨p,hp,hld⟩:=hn'.at (i:=i) (List.getElem?_eq_getElem hi1);have rp':=le _ _ zP;rw [aR,AZ hi1,cU,hp,hld _ (.refl _),aN,cG rp' e1,aN,cG rp' e1];refine Pu (n:=n+3) hM hy hn' (by omega) aGE (aGE _ (List.getElem_mem hi1)) fun t1=>?_;rw [cG rp' e1,bO];have hsl:(cX next next[i]).length=next.length:=iM _ _;rw [<-hsl];refine Pu (n:=n+3) hM hy .list (by omega) (ZT _ _) aHK fun t2=>?_;have hsl2:(cX (cX next next[i]) k).length=(cX next next[i]).length:=iM _ _;rw [<-hsl2]
   have hfl:((next.take i).flatMap fun b=>cX (cX next b) k).length<=100:=by
    have:∀(l:List Nat),(l.flatMap fun b=>cX (cX next b) k).length=l.length*next.length:=by
     intro l;induction l with
     | nil=>simp
     | cons b l ih=>rw [List.flatMap_cons,List.length_append,ih,iM,iM,List.length_cons,Nat.succ_mul];omega
    rw [this,List.length_take,Nat.min_eq_left (by omega)];have:i*next.length<=3*3:=Nat.mul_le_mul (by omega) (by omega);omega
   refine an.app le (by omega) (by omega) fun w S4 le4 p4 an4=>?_;rw [aX (by omega),hsl2,hsl];refine ih (i+1) m S4 w (by omega) (by omega) le4 ?_
   have e:(next.take (i+1)).flatMap (fun b=>cX (cX next b) k)=(next.take i).flatMap (fun b=>cX (cX next b) k)++cX (cX next next[i]) k:=by
    rw [List.take_add_one,List.getElem?_eq_getElem hi1,List.flatMap_append];simp
   rw [e];exact an4
 exact go next.length 0 M S3 .nil (by omega) (by omega) (.refl _) (by rw [List.take_zero];exact .nil)
end
set_option maxRecDepth 4000
section
variable{M n:Nat}{x:VE}{Sz:Hp}{K:KV}{two:Bool}
end
set_option maxRecDepth 4000
def SG (f g:List (List Nat)):List (List Nat):=List.zipWith (List.zipWith dD) f g
theorem Zx{α β γ δ:Type} (h:β->γ->δ) (a:α->β) (b:α->γ):∀l:List α,List.zipWith h (l.map a) (l.map b)=l.map fun x=>h (a x) (b x):=by
 intro l;induction l with
 | nil=>rfl
 | cons x l ih=>rw [List.map_cons,List.map_cons,List.zipWith_cons_cons,ih,List.map_cons]
theorem ZW (n:Nat) (F G:List Nat):iO n (List.zipWith dD F G)=SG (iO n F) (iO n G):=by
 unfold iO SG;rw [Zx];refine List.map_congr_left fun i _=>?_;rw [List.drop_zipWith,List.take_zipWith]
theorem ZX (n:Nat) (F:List Nat) (g:Nat->Nat):iO n (F.map g)=(iO n F).map (List.map g):=by
 unfold iO;rw [List.map_map];refine List.map_congr_left fun i _=>?_;show _=List.map g _;rw [<-List.map_drop,<-List.map_take]
theorem flat_get{α:Type}{g:α->List Nat}{n:Nat}:∀(l:List α) (i:Nat) (h:i<l.length),(∀x∈l,(g x).length=n)->((l.flatMap g).drop (i*n)).take n=g l[i]:=by
 intro l;induction l with
 | nil=>intro i h;cases h
 | cons x l ih=>
  intro i h hl;have hx:=hl x List.mem_cons_self;rw [List.flatMap_cons];cases i with
  | zero=>rw [Nat.zero_mul,List.drop_zero,List.take_append_of_le_length (by omega),List.take_of_length_le (by omega)];rfl
  | succ i=>
   have e:(g x++l.flatMap g).drop n=l.flatMap g:=by rw [List.drop_append_of_le_length (by omega),List.drop_of_length_le (by omega),List.nil_append]
   rw [Nat.succ_mul,Nat.add_comm (i*n) n,<-List.drop_drop,e];exact ih i (by simpa using h) fun y hy=>hl y (List.mem_cons_of_mem _ hy)
theorem Lx{next:List Nat}{k n:Nat} (hn:next.length=n):iO n (sG next k)=next.map fun a=>cX (cX next a) k:=by
 refine List.ext_getElem? fun i=>?_;unfold iO;rw [List.getElem?_map,List.getElem?_map];by_cases hi:i<n
 ·rw [List.getElem?_range hi,List.getElem?_eq_getElem (show i<next.length by omega)]
  simp only [Option.map_some]
  congr 1
  exact flat_get next i (by omega) fun x _=>by rw [iM,iM,hn]
 ·rw [List.getElem?_eq_none (by simp;omega),List.getElem?_eq_none (by omega)];rfl
def mvA (R:List (List Nat)) (d:Nat) (f:List (List Nat)):List (List Nat):=SG f (R.map (List.map (kR d)))
def mvB (R:List (List Nat)) (d:Nat) (f:List (List Nat)):List (List Nat):=SG f (R.map (List.map (iN 17 d)))
theorem Ly (d:Nat):∀(f b R:List (List Nat)),f.length=R.length->b.length=R.length->(∃n,(∀q∈f,q.length=n/\∀c∈q,c<23)/\(∀q∈b,q.length=n/\∀c∈q,c<23)/\∀q∈R,q.length=n)->dW (mvA R d f) (mvB R d b)=dW f b:=by
 intro f;induction f with
 | nil=>
  intro b R h1 h2 _;have:R=[]:=List.eq_nil_of_length_eq_zero h1.symm;subst this;have:b=[]:=List.eq_nil_of_length_eq_zero h2;subst this;rfl
 | cons x f ih=>
  intro b R h1 h2 ⟨n,hf,hb,hR⟩
  match R,b,h1,h2,hb,hR with
  | z::R,y::b,h1,h2,hb,hR=>
   have e1:=hf x List.mem_cons_self;have e2:=hb y List.mem_cons_self;have e3:=hR z List.mem_cons_self;show jX (List.zipWith dD x (z.map (kR d))) (List.zipWith dD y (z.map (iN 17 d)))::dW (mvA R d f) (mvB R d b)=jX x y::dW f b;rw [<-Dc d (by rw [e1.1,e3]) (by rw [e2.1,e3]) e1.2 e2.2,ih b R (by simpa using h1) (by simpa using h2) ⟨n,fun q hq=>hf q (List.mem_cons_of_mem _ hq),fun q hq=>hb q (List.mem_cons_of_mem _ hq),fun q hq=>hR q (List.mem_cons_of_mem _ hq)⟩]
theorem ZY{x:Nat} (h:x<23) (d:Nat):dD x (d*0%23)=x:=by unfold dD;omega
theorem Pv{f r:List Nat}{d Y:Nat} (h:f.length=r.length) (hz:ev 23 r Y=0):ev 23 (List.zipWith dD f (r.map (kR d))) Y=ev 23 f Y:=by
 rw [Db _ _ _ (by simpa using h),aGi,hz,ZY (VP _ _)]
theorem Pw{f r:List Nat}{d Y:Nat} (h:f.length=r.length) (hz:ev 23 r Y=0):ev 23 (List.zipWith dD f (r.map (iN 17 d))) Y=ev 23 f Y:=by
 rw [Db _ _ _ (by simpa using h),aGj,hz,ZY (VP _ _)]
theorem ZZ (g:Nat->Nat){Y:Nat} (hg:∀(f r:List Nat),f.length=r.length->ev 23 r Y=0->ev 23 (List.zipWith dD f (r.map g)) Y=ev 23 f Y):∀(f R:List (List Nat)),f.length=R.length->(∃n,(∀q∈f,q.length=n)/\∀q∈R,q.length=n)->(∀q∈R,ev 23 q Y=0)->BS (SG f (R.map (List.map g))) Y=BS f Y:=by
 intro f;induction f with
 | nil=>intro R h _ _;cases R with | nil=>rfl | cons z R=>cases h
 | cons x f ih=>
  intro R h ⟨n,hf,hR⟩ hz
  match R,h,hR,hz with
  | z::R,h,hR,hz=>
   show ev 23 (List.zipWith dD x (z.map g)) Y::BS (SG f (R.map (List.map g))) Y=ev 23 x Y::BS f Y;rw [hg x z (by rw [hf x List.mem_cons_self,hR z List.mem_cons_self]) (hz z List.mem_cons_self),ih R (by simpa using h) ⟨n,fun q hq=>hf q (List.mem_cons_of_mem _ hq),fun q hq=>hR q (List.mem_cons_of_mem _ hq)⟩ fun q hq=>hz q (List.mem_cons_of_mem _ hq)]
theorem Zy{a b:List Nat} (h:a.length=b.length) (j:Nat):(List.zipWith dD a b).getD j 0=dD (a.getD j 0) (b.getD j 0):=by
 rw [List.getD_eq_getElem?_getD,List.getD_eq_getElem?_getD,List.getD_eq_getElem?_getD,List.getElem?_zipWith];by_cases hj:j<a.length
 ·rw [List.getElem?_eq_getElem hj,List.getElem?_eq_getElem (show j<b.length by omega)];rfl
 ·rw [List.getElem?_eq_none (by omega),List.getElem?_eq_none (by omega)];rfl
theorem getD_map{b:List Nat}{g:Nat->Nat} (hg:g 0=0) (j:Nat):(b.map g).getD j 0=g (b.getD j 0):=by
 rw [List.getD_eq_getElem?_getD,List.getD_eq_getElem?_getD,List.getElem?_map];by_cases hj:j<b.length
 ·rw [List.getElem?_eq_getElem hj];rfl
 ·rw [List.getElem?_eq_none (by omega)];exact hg.symm
theorem aAa (g:Nat->Nat) (hg:g 0=0) (j:Nat):∀(f R:List (List Nat)),f.length=R.length->(∃n,(∀q∈f,q.length=n)/\∀q∈R,q.length=n)->tS (SG f (R.map (List.map g))) j=List.zipWith dD (tS f j) ((tS R j).map g):=by
 intro f;induction f with
 | nil=>intro R h _;cases R with | nil=>rfl | cons z R=>cases h
 | cons x f ih=>
  intro R h ⟨n,hf,hR⟩
  match R,h,hR with
  | z::R,h,hR=>
   show(List.zipWith dD x (z.map g)).getD j 0::tS (SG f (R.map (List.map g))) j=dD (x.getD j 0) (g (z.getD j 0))::List.zipWith dD (tS f j) ((tS R j).map g);rw [Zy (by rw [List.length_map,hf x List.mem_cons_self,hR z List.mem_cons_self]),getD_map hg,ih R (by simpa using h) ⟨n,fun q hq=>hf q (List.mem_cons_of_mem _ hq),fun q hq=>hR q (List.mem_cons_of_mem _ hq)⟩]
theorem aAb{k:Nat}{f R:List (List Nat)} (hf:OM k f) (hR:R.length=k/\∀q∈R,q.length=k) (g:Nat->Nat):OM k (SG f (R.map (List.map g))):=by
 refine⟨by unfold SG;rw [List.length_zipWith,List.length_map,hf.1,hR.1,Nat.min_self],fun q hq=>?_⟩;obtain⟨i,hi⟩:=List.getElem?_of_mem hq;unfold SG at hi;rw [List.getElem?_zipWith]at hi;split at hi
 next u v hu hv=>
  injection hi with hi;subst hi;have h1:=(hf.2 u (List.mem_of_getElem? hu)).1;have hv':=List.mem_of_getElem? hv;obtain⟨w,hw,rfl⟩:=List.mem_map.1 hv';refine⟨by rw [List.length_zipWith,List.length_map,h1,hR.2 w hw,Nat.min_self],fun c hc=>?_⟩;obtain⟨j,hj⟩:=List.getElem?_of_mem hc;rw [List.getElem?_zipWith]at hj;split at hj
  ·injection hj with hj;subst hj;exact yK _ _
  ·cases hj
 ·cases hi
theorem Aa{k:Nat} (hk:0<k) (g:Nat->Nat) (hg0:g 0=0){X:Nat} (hg:∀(f r:List Nat),f.length=r.length->ev 23 r X=0->ev 23 (List.zipWith dD f (r.map g)) X=ev 23 f X){f R:List (List Nat)} (hf:OM k f) (hR:R.length=k/\∀q∈R,q.length=k) (hz:∀j,ev 23 (tS R j) X=0):rowB (SG f (R.map (List.map g))) X=rowB f X:=by
 unfold rowB;rw [(aAb hf hR g).wide hk,hf.wide hk];refine List.map_congr_left fun j _=>?_;rw [aAa g hg0 j f R (by rw [hf.1,hR.1]) ⟨k,fun q hq=>(hf.2 q hq).1,hR.2⟩];exact hg _ _ (by unfold tS;rw [List.length_map,List.length_map,hf.1,hR.1]) (hz j)
theorem Ab (l:List Nat) (k X:Nat):ev 23 (cX l k) X=k*ev 23 l X%23:=by
 rw [<-NN];unfold cX
 congr 1
 refine List.map_congr_left fun c _=>?_;rw [Nat.mul_comm]
theorem Ac{next:List Nat}{k Y:Nat} (hz:ev 23 next Y=0):∀q∈next.map (fun a=>cX (cX next a) k),ev 23 q Y=0:=fun q hq=>by
 obtain⟨a,_,rfl⟩:=List.mem_map.1 hq;rw [Ab,Ab,hz,Nat.mul_zero,Nat.zero_mod,Nat.mul_zero]
theorem Ad{next:List Nat}{k X:Nat} (hz:ev 23 next X=0) (j:Nat):ev 23 (tS (next.map fun a=>cX (cX next a) k) j) X=0:=by
 have e:tS (next.map fun a=>cX (cX next a) k) j=next.map fun a=>(next.getD j 0*k)*a%23:=by
  unfold tS;rw [List.map_map];refine List.map_congr_left fun a _=>?_;show(cX (cX next a) k).getD j 0=_;unfold cX;rw [getD_map (g:=fun c=>c*k%23) (by simp),getD_map (g:=fun c=>c*a%23) (by simp),PM,Nat.mul_assoc,Nat.mul_assoc,Nat.mul_comm a k]
 rw [e,NN,hz,Nat.mul_zero]
theorem aCx{n Q k:Nat}{row:List Nat} (hr:row.length=Q+1) (h0:row[0]? =some k) (hk:k<23):∀(L:List (Nat×Nat)) (ds D:List Nat),L.length=ds.length->D.length=(Q+Q)*L.length->
 fM n Q (Cw 17 k L ds) (List.zipWith dD D (kV row 17 ds))=List.zipWith (fun f d=>mvA (iO n row) d f) (fM n Q L D) ds/\bM n Q (Cw 17 k L ds) (List.zipWith dD D (kV row 17 ds))=List.zipWith (fun f d=>mvB (iO n row) d f) (bM n Q L D) ds:=by
 obtain⟨r,hrow⟩:∃r,row=k::r:=by
  cases row with
  | nil=>cases h0
  | cons a r=>injection h0 with h0;exact⟨r,by rw [h0]⟩
 have hrl:r.length=Q:=by rw [hrow]at hr;simpa using hr
 intro L;induction L with
 | nil=>intro ds D h _;cases ds with | nil=>exact⟨rfl,rfl⟩ | cons d ds=>cases h
 | cons p L ih=>
  intro ds D h hD
  match ds,h with
  | d::ds,h=>
   rw [List.length_cons,Nat.mul_succ]at hD
   have ed:kV row 17 (d::ds)=r.map (kR d)++(r.map (iN 17 d)++kV row 17 ds):=by
    show(row.drop 1).map _++((row.drop 1).map _++_)=_;rw [hrow];rfl
   have c1:(List.zipWith dD D (kV row 17 (d::ds))).take Q=List.zipWith dD (D.take Q) (r.map (kR d)):=by
    rw [List.take_zipWith,ed,List.take_append_of_le_length (by simp;omega),List.take_of_length_le (l:=r.map (kR d)) (by simp;omega)]
   have c2:((List.zipWith dD D (kV row 17 (d::ds))).drop Q).take Q=List.zipWith dD ((D.drop Q).take Q) (r.map (iN 17 d)):=by
    have e:(r.map (kR d)++(r.map (iN 17 d)++kV row 17 ds)).drop Q=r.map (iN 17 d)++kV row 17 ds:=by rw [List.drop_append_of_le_length (by simp;omega),List.drop_of_length_le (l:=r.map (kR d)) (by simp;omega),List.nil_append]
    rw [List.drop_zipWith,List.take_zipWith,ed,e,List.take_append_of_le_length (by simp;omega),List.take_of_length_le (l:=r.map (iN 17 d)) (by simp;omega)]
   have c3:(List.zipWith dD D (kV row 17 (d::ds))).drop (Q+Q)=List.zipWith dD (D.drop (Q+Q)) (kV row 17 ds):=by
    rw [List.drop_zipWith,ed,<-List.append_assoc,List.drop_append_of_le_length (by simp;omega),List.drop_of_length_le (l:=r.map (kR d)++r.map (iN 17 d)) (by simp;omega),List.nil_append]
   obtain⟨i1,i2⟩:=ih ds (D.drop (Q+Q)) (by simpa using h) (by rw [List.length_drop];omega);have em:Cw 17 k (p::L) (d::ds)=(dD p.1 (d*k%23),lC p.2 (d*k%23*17%23) 23)::Cw 17 k L ds:=rfl;rw [em,SY,SZ,c1,c2,c3,i1,i2,SY,SZ,List.zipWith_cons_cons,List.zipWith_cons_cons]
   have a1:dD p.1 (d*k%23)%23::List.zipWith dD (D.take Q) (r.map (kR d))=List.zipWith dD (p.1%23::D.take Q) (row.map (kR d)):=by
    rw [hrow,List.map_cons,List.zipWith_cons_cons]
    congr 1
    unfold dD kR;omega
   have a2:lC p.2 (d*k%23*17%23) 23%23::List.zipWith dD ((D.drop Q).take Q) (r.map (iN 17 d))=List.zipWith dD (p.2%23::(D.drop Q).take Q) (row.map (iN 17 d)):=by
    rw [hrow,List.map_cons,List.zipWith_cons_cons]
    congr 1
    unfold dD iN lC;omega
   refine⟨?_,?_⟩
   ·congr 1
    show iO n (dD p.1 (d*k%23)%23::List.zipWith dD (D.take Q) (r.map (kR d)))=_;rw [a1,ZW,ZX];rfl
   ·congr 1
    show iO n (lC p.2 (d*k%23*17%23) 23%23::List.zipWith dD ((D.drop Q).take Q) (r.map (iN 17 d)))=_;rw [a2,ZW,ZX];rfl
theorem WA{α:Type}{k:Nat}{G:List (List Nat)->List (List Nat)->α}{R:List (List Nat)} (hG:∀f b d,OM k f->OM k b->G (mvA R d f) (mvB R d b)=G f b):∀(fs bs:List (List (List Nat))) (ds:List Nat),fs.length=ds.length->bs.length=ds.length->(∀f∈fs,OM k f)->(∀b∈bs,OM k b)->
 List.zipWith G (List.zipWith (fun f d=>mvA R d f) fs ds) (List.zipWith (fun f d=>mvB R d f) bs ds)=List.zipWith G fs bs:=by
 intro fs;induction fs with
 | nil=>intro bs ds _ _ _ _;rfl
 | cons f fs ih=>
  intro bs ds h1 h2 hf hb
  match ds,bs,h1,h2,hb with
  | d::ds,b::bs,h1,h2,hb=>
   rw [List.zipWith_cons_cons,List.zipWith_cons_cons,List.zipWith_cons_cons,List.zipWith_cons_cons,hG f b d (hf f List.mem_cons_self) (hb b List.mem_cons_self),ih bs ds (by simpa using h1) (by simpa using h2) (fun f h=>hf f (List.mem_cons_of_mem _ h)) (fun f h=>hb f (List.mem_cons_of_mem _ h))]
theorem aAc{two:Bool}{L:List (Nat×Nat)}{ds D next:List Nat}{k:Nat} (hL:L.length=2) (hds:ds.length=2) (hD:D.length=(tQ two+tQ two)*2) (hDc:∀c∈D,c<23) (hn:next.length=tT two+1) (hn0:next[0]? =some 1) (hk:k<23){L2:List (Nat×Nat)}{D2:List Nat} (hL2:L2=Cw (iA 19) k L ds) (hD2:D2=List.zipWith dD D (kV (sG next k) (iA 19) ds)):
 pD (fT two L2 D2) (bT two L2 D2)=pD (fT two L D) (bT two L D)/\∀X,ev 23 next X=0->vC (tT two+1) X (fT two L2 D2) (bT two L2 D2)=vC (tT two+1) X (fT two L D) (bT two L D)/\vE (tT two+1) X (fT two L2 D2) (bT two L2 D2)=vE (tT two+1) X (fT two L D) (bT two L D):=by
 have hQQ:tQ two+1=(tT two+1)*(tT two+1):=by cases two<;>rfl
 rw [Pn]at hL2 hD2;have hr:(sG next k).length=tQ two+1:=by rw [HT,hn,hQQ]
 have h0:(sG next k)[0]? =some k:=by
  cases next with
  | nil=>cases hn0
  | cons a l=>
   injection hn0 with hn0;subst hn0;show some (1*1%23*k%23)=some k;rw [show 1*1%23=1 from rfl,Nat.one_mul,Nat.mod_eq_of_lt hk]
 obtain⟨m1,m2⟩:=aCx (n:=tT two+1) hr h0 hk L ds D (by rw [hL,hds]) (by rw [hL];exact hD);have eF:fT two L2 D2=List.zipWith (fun f d=>mvA (iO (tT two+1) (sG next k)) d f) (fT two L D) ds:=by unfold fT;rw [hL2,hD2];exact m1
 have eB:bT two L2 D2=List.zipWith (fun f d=>mvB (iO (tT two+1) (sG next k)) d f) (bT two L D) ds:=by unfold bT;rw [hL2,hD2];exact m2
 rw [eF,eB,Lx hn];obtain⟨sf,sb⟩:=Lv (n:=tT two+1) (Q:=tQ two) hQQ L D (by rw [hL,hD];omega) hDc;have lF:(fT two L D).length=ds.length:=by unfold fT;rw [Lt,hL,hds]
 have lB:(bT two L D).length=ds.length:=by unfold bT;rw [Lu,hL,hds]
 have hR:(next.map fun a=>cX (cX next a) k).length=tT two+1/\∀q∈next.map (fun a=>cX (cX next a) k),q.length=tT two+1:=by
  refine⟨by rw [List.length_map,hn],fun q hq=>?_⟩;obtain⟨a,_,rfl⟩:=List.mem_map.1 hq;rw [iM,iM,hn]
 refine⟨WA (k:=tT two+1) (fun f b d h1 h2=>Ly d f b _ (by rw [h1.1,hR.1]) (by rw [h2.1,hR.1]) ⟨tT two+1,h1.2,h2.2,hR.2⟩) _ _ _ lF lB sf sb,fun X hX=>⟨?_,?_⟩⟩
 ·refine WA (k:=tT two+1) (fun f b d h1 h2=>?_) _ _ _ lF lB sf sb
  unfold aCp mvA mvB;rw [Aa (by omega) (kR d) (by unfold kR;simp) (fun f r h hz=>Pv h hz) h1 hR (Ad hX),Aa (by omega) (iN 17 d) (by rw [VO];simp) (fun f r h hz=>Pw h hz) h2 hR (Ad hX)]
 ·refine WA (k:=tT two+1) (fun f b d h1 h2=>?_) _ _ _ lF lB sf sb
  unfold aCq mvA mvB;rw [ZZ (kR d) (fun f r h hz=>Pv h hz) f _ (by rw [h1.1,hR.1]) ⟨tT two+1,fun q hq=>(h1.2 q hq).1,hR.2⟩ (Ac hX),ZZ (iN 17 d) (fun f r h hz=>Pw h hz) b _ (by rw [h2.1,hR.1]) ⟨tT two+1,fun q hq=>(h2.2 q hq).1,hR.2⟩ (Ac hX)]
section
variable{M n:Nat}{x:VE}{Sz:Hp}{K:KV}{two:Bool}
theorem aEU:gM nL=none:=rfl
theorem Lz (hM:1000000<M) (hx:Deep PP bH gM M (n+3) x){O1 O2:Tag}{l:List (List (List Nat))} (hl:l.length<1000) (hll:∀q∈l,q.length<1000) (hlq:∀q∈l,∀r∈q,r.length<1000) (hK:K (.bool true) Sz):x.call nL [.list O1 (mD l) l.length,.list O2 (mD l) l.length] Sz K:=by
 refine hx.call aEU fun y hy=>?_;rw [PR];unfold CZ;rw [gF,gF,nB,decide_eq_true rfl,Bool.not_true,aZ,hy.most]
 have aDi:∀{O:Tag} {i:Nat} (h:i<l.length) {Sz:Hp} {K:KV},aS (.nP O (mD l) i) Sz K=K (.list (.sub O i) (pM l[i]) l[i].length) Sz:=fun {O i} h {Sz K}=>by
  rw [uN,bR (ZR (List.getElem?_eq_getElem h))];rfl
 have go:∀(r i m:Nat),i+r=l.length->r<m->kB y m (.list O1 (mD l) l.length) (.list O2 (mD l) l.length) (ni i) Sz K:=by
  intro r;induction r with
  | zero=>
   intro i m hi hm;obtain⟨m,rfl⟩:=Nat.exists_eq_succ_of_ne_zero (show m≠0 by omega);rw [tH];unfold nM;refine aE ?_;rw [gF,aR,lY (by omega),aZ];exact aJ hK
  | succ r ih=>
   intro i m hi hm;obtain⟨m,rfl⟩:=Nat.exists_eq_succ_of_ne_zero (show m≠0 by omega);rw [tH];unfold nM;refine aE ?_;have hi1:i<l.length:=by omega
   have hm:=List.getElem_mem hi1;rw [gF,aR,AZ hi1,cU,lidx hi1,aDi hi1,lidx hi1,aDi hi1];refine aB2 (n:=n) hM hy (by have:=hll _ hm;omega) (fun q hq=>by have:=hlq _ hm q hq;omega) ?_;rw [jV,Bool.not_true,aZ,aX (by omega)];exact ih (i+1) m (by omega) (by omega)
 exact go l.length 0 M (by omega) (by omega)
def Do (k:Nat) (ds:List Dt):Prop:=∀d∈ds,∃l:List (Nat×Nat),d= .list (PF l) k/\l.length=k/\∀p∈l,b64 p.1/\b64 p.2
theorem aAd (hM:1000000<M) (hx:Deep PP bH gM M (n+3) x){du dv k N:Nat}{SF:Hp}{mu mv vr vc wr wc vt:V}{R C R2 C2:List (List Dt)}{tk:List Nat} (ru:Sz du=some (.row [mu,vr,vc] 60)) (rv:Sz dv=some (.row [mv,wr,wc] 60)) (gr:GG SF Sz vr R) (gc:GG SF Sz vc C) (Ug:GG SF Sz wr R2) (Zt:GG SF Sz wc C2) (hk:k<1000)
 (hv:IV Sz vt tk) (htk:tk.length<1000) (hj:∀j∈tk,1<=j/\j<1000/\∃r c,R[j-1]? =some r/\R2[j-1]? =some r/\C[j-1]? =some c/\C2[j-1]? =some c/\r.length=c.length/\r.length<1000/\Do k r/\Do k c) (hK:bC (.bool true) Sz K):
 ∀(r i m:Nat),i+r=tk.length->r<m->dV x m (.ptr du 0) (.ptr dv 0) vt (ni tk.length) (ni i) Sz K:=by
 have a1:[mu,vr,vc][1]? =some vr:=rfl;have a2:[mu,vr,vc][2]? =some vc:=rfl;have b1:[mv,wr,wc][1]? =some wr:=rfl;have b2:[mv,wr,wc][2]? =some wc:=rfl;intro r;induction r with
 | zero=>
  intro i m hi hm;obtain⟨m,rfl⟩:=Nat.exists_eq_succ_of_ne_zero (show m≠0 by omega);rw [kG];unfold fS;refine aE ?_;rw [aR,lY (by omega),aZ];exact hK
 | succ r ih=>
  intro i m hi hm;obtain⟨m,rfl⟩:=Nat.exists_eq_succ_of_ne_zero (show m≠0 by omega);rw [kG];unfold fS;refine aE ?_;have hi1:i<tk.length:=by omega
  obtain⟨p,hp,hld⟩:=hv.at (List.getElem?_eq_getElem hi1);obtain⟨j1,j2,rr,cc,e1,e2,e3,e4,hlen,hrl,pr,pc⟩:=hj _ (List.getElem_mem hi1);rw [aR,AZ hi1,cU,hp,hld _ (.refl _),hx.most];generalize tk[i]=j at j1 j2 e1 e2 e3 e4 ⊢;obtain⟨p1,w1,ix1,lx1,g1⟩:=gr.at e1;obtain⟨p2,w2,ix2,lx2,g2⟩:=Ug.at e2;obtain⟨p3,w3,ix3,lx3,g3⟩:=gc.at e3;obtain⟨p4,w4,ix4,lx4,g4⟩:=Zt.at e4;have s1:∀{q:Prop},aL w1 w1 q=q:=fun {q}=>bQ g1.same;have s2:∀{q:Prop},aL w2 w2 q=q:=fun {q}=>bQ g2.same;have s3:∀{q:Prop},aL w3 w3 q=q:=fun {q}=>bQ g3.same;have s4:∀{q:Prop},aL w4 w4 q=q:=fun {q}=>bQ g4.same;have sr:∀{q:Prop},aL vr vr q=q:=fun {q}=>bQ gr.same;have sc:∀{q:Prop},aL vc vc q=q:=fun {q}=>bQ gc.same;have sr2:∀{q:Prop},aL wr wr q=q:=fun {q}=>bQ Ug.same;have sc2:∀{q:Prop},aL wc wc q=q:=fun {q}=>bQ Zt.same
  have inner:∀(q s m1:Nat),s+q=rr.length->q<m1->cH x m1 m (.ptr du 0) (.ptr dv 0) (ni j) (ni s) vt (ni tk.length) (ni i) Sz K:=by
   intro q;induction q with
   | zero=>
    intro s m1 hs hm1;obtain⟨m1,rfl⟩:=Nat.exists_eq_succ_of_ne_zero (show m1≠0 by omega);rw [gK];unfold dM;refine aE ?_;rw [aN,cG ru a1,nD j1 (by omega),ix1,lx1 _ (.refl _),g1.len,aR,lY (by omega),aZ,aX (by omega)];exact ih (i+1) m (by omega) (by omega)
   | succ q ihq=>
    intro s m1 hs hm1;obtain⟨m1,rfl⟩:=Nat.exists_eq_succ_of_ne_zero (show m1≠0 by omega);rw [gK];unfold dM;refine aE ?_;have hs1:s<rr.length:=by omega
    have hs2:s<cc.length:=by omega
    obtain⟨l1,d1,n1,h1⟩:=pr _ (List.getElem_mem hs1);obtain⟨l2,d2,n2,h2⟩:=pc _ (List.getElem_mem hs2);obtain⟨o1,t1,ox1,ol1⟩:=g1.at (List.getElem?_eq_getElem hs1);obtain⟨o2,t2,ox2,ol2⟩:=g2.at (List.getElem?_eq_getElem hs1);obtain⟨o3,t3,ox3,ol3⟩:=g3.at (List.getElem?_eq_getElem hs2);obtain⟨o4,t4,ox4,ol4⟩:=g4.at (List.getElem?_eq_getElem hs2);rw [d1]at ol1 ol2;rw [d2]at ol3 ol4;have T1:∀t:Tag,T t (.list (PF l1) k)= .list t (PF l1) l1.length:=fun t=>by rw [n1];rfl
    have T2:∀t:Tag,T t (.list (PF l2) k)= .list t (PF l2) l2.length:=fun t=>by rw [n2];rfl
    rw [aN,cG ru a1,nD j1 (by omega),ix1,lx1 _ (.refl _),g1.len,aR,AZ hs1,cU,aN,cG ru a1,nD j1 (by omega),ix1,lx1 _ (.refl _),ox1,ol1 _ (.refl _),aN,cG rv b1,nD j1 (by omega),ix2,lx2 _ (.refl _),ox2,ol2 _ (.refl _),T1,T1];refine Hn (n:=n+2) hM hx (l:=l1) .list .list (by omega) h1 ?_;rw [lx2 _ (.refl _),s2,cG rv b1,sr2,lx1 _ (.refl _),s1,cG ru a1,sr,jV,Bool.not_true,aF,aI,aN];dsimp only;rw [aF,aI,cG ru a2];dsimp only;rw [aF,aI];dsimp only;rw [aF,aI,nD j1 (by omega)];dsimp only;rw [aF,aI,ix3];dsimp only;rw [aF,aI,lx3 _ (.refl _)];dsimp only;rw [aF,aI];dsimp only;rw [aF,aI,ox3];dsimp only;rw [aF,aI,ol3 _ (.refl _),T2];dsimp only;rw [aF,aI,aN];dsimp only;rw [aF,aI,cG rv b2];dsimp only;rw [aF,aI];dsimp only;rw [aF,aI,nD j1 (by omega)];dsimp only;rw [aF,aI,ix4];dsimp only;rw [aF,aI,lx4 _ (.refl _)];dsimp only;rw [aF,aI];dsimp only;rw [aF,aI,ox4];dsimp only;rw [aF,aI,ol4 _ (.refl _),T2];dsimp only;rw [aF,aI];dsimp only;refine Hn (n:=n+2) hM hx (l:=l2) .list .list (by omega) h2 ?_;rw [aF,vZ,lx4 _ (.refl _),s4,aF,vZ,cG rv b2,sc2,aF,vZ,lx3 _ (.refl _),s3,aF,vZ,cG ru a2,sc,lx2 _ (.refl _),s2,cG rv b1,sr2,lx1 _ (.refl _),s1,cG ru a1,sr,aF,aI];dsimp only;rw [jV,Bool.not_true,aF,dB,aZ,aX (by omega)];exact ihq (s+1) m1 (by omega) (by omega)
  exact inner rr.length 0 M (by omega) (by omega)
end
set_option maxRecDepth 4000
theorem aDj{k N j:Nat}{fs bs:List (List (List Nat))} (h1:1<=j) (h2:j<=N):(RS k N fs bs)[j-1]? =some (vC k j fs bs):=by
 unfold RS;rw [List.getElem?_map,List.getElem?_range (by omega)];show some (vC k (j-1+1) fs bs)=_;rw [Nat.sub_add_cancel h1]
theorem aDk{k N j:Nat}{fs bs:List (List (List Nat))} (h1:1<=j) (h2:j<=N):(CS k N fs bs)[j-1]? =some (vE k j fs bs):=by
 unfold CS;rw [List.getElem?_map,List.getElem?_range (by omega)];show some (vE k (j-1+1) fs bs)=_;rw [Nat.sub_add_cancel h1]
theorem aAe{a b:List Nat} (ha:∀c∈a,c<23) (hb:∀c∈b,c<23):∀p∈List.zip a b,b64 p.1/\b64 p.2:=fun p hp=>by
 have h1:=List.of_mem_zip hp;exact⟨Nat.lt_trans (ha _ h1.1) (by decide),Nat.lt_trans (hb _ h1.2) (by decide)⟩
theorem Px (m:List (List Nat)) (X:Nat):∀c∈rowB m X,c<23:=fun c hc=>by
 obtain⟨j,_,rfl⟩:=List.mem_map.1 hc;exact VP _ _
theorem Py (m:List (List Nat)) (X:Nat):∀c∈BS m X,c<23:=fun c hc=>by
 obtain⟨j,_,rfl⟩:=List.mem_map.1 hc;exact VP _ _
theorem Ma{k X:Nat} (hk:0<k){fs bs:List (List (List Nat))} (hf:∀m∈fs,OM k m) (hb:∀m∈bs,OM k m):Do k (vC k X fs bs)/\Do k (vE k X fs bs):=by
 refine⟨fun d hd=>?_,fun d hd=>?_⟩
 ·obtain⟨i,hi⟩:=List.getElem?_of_mem hd
  unfold vC at hi;rw [List.getElem?_zipWith]at hi;split at hi
  next u v hu hv=>
   injection hi with hi;have h1:=hf u (List.mem_of_getElem? hu);have h2:=hb v (List.mem_of_getElem? hv);refine⟨List.zip (rowB u X) (rowB v X),hi.symm,?_,aAe (Px _ _) (Px _ _)⟩;rw [List.length_zip];unfold rowB;rw [List.length_map,List.length_map,List.length_range,List.length_range,h1.wide hk,h2.wide hk,Nat.min_self]
  ·cases hi
 ·obtain⟨i,hi⟩:=List.getElem?_of_mem hd
  unfold vE at hi;rw [List.getElem?_zipWith]at hi;split at hi
  next u v hu hv=>
   injection hi with hi;have h1:=hf u (List.mem_of_getElem? hu);have h2:=hb v (List.mem_of_getElem? hv);refine⟨List.zip (BS u X) (BS v X),hi.symm,?_,aAe (Py _ _) (Py _ _)⟩;rw [List.length_zip];unfold BS;rw [List.length_map,List.length_map,h1.1,h2.1,Nat.min_self]
  ·cases hi
section
variable{M n:Nat}{x:VE}{Sz:Hp}{K:KV}{two:Bool}
theorem Te:gM iK=none:=rfl
theorem aAf{b:Nat}{k:V->Prop} (hb:b<256):AL .i64 (.int .u8 (.ofNat b)) k=k (ni b):=by
 show k (.int .i64 (mU .i64 (.ofNat b)))=_;have:mU .i64 (.ofNat b)= .ofNat b:=wrap_small (by simp only [Int.ofNat_eq_natCast];omega) (by simp only [Int.ofNat_eq_natCast];omega);rw [this]
theorem aDl{a b:Nat}{t:TypeId}{k:V->Prop}:aG PP .add t (nu a) (nu b) k=k (nu ((a+b)%18446744073709551616)):=by
 rw [IL];have:(Int.ofNat a+Int.ofNat b)=Int.ofNat (a+b):=by simp
 rw [this,wrap64]
theorem al3{K:KV} (h:True):eU [(.slice none 0 0),(.slice none 0 0),(.slice none 0 0)] 60 Sz (fun _ _=>True):=eI (l:=[.nil,.nil,.nil]) rfl fun _ _=>trivial
theorem Di (hM:1000000<M) (hx:Deep PP bH gM M (n+24) x){O O':Tag}{a b c d:Int}{S i8:Nat} (hS:b64 S){l l2:List Nat} (h8:∀b∈l,b<256) (hl:l.length<4611686018427387904) (h82:∀b∈l2,b<256) (hl2:l2.length<4611686018427387904) (hi8:i8<256) (hK:K (.bool true) Sz):
 x.call iK [.bool two,iz a,iz b,iz c,iz d,nu S,.list O (Li l) l.length,.list O' (Li l2) l2.length,.int .u8 (.ofNat i8)] Sz K:=by
 refine hx.call Te fun y hy=>?_;rw [LE];unfold AE;refine Xq (two:=two) (n:=n+22) hy ?_;refine eI (l:=pz) rfl fun p hp=>?_;have rp:upd Sz p (.row pz 25) p=some (.row pz 25):=upd_same;refine qT (n:=12) rp jL rfl rfl ?_;rw [fP];have le1:bE Sz (upd Sz p (.row (pv two) 25)):= .aH hp;have rp:upd Sz p (.row (pv two) 25) p=some (.row (pv two) 25):=upd_same;generalize upd Sz p (.row (pv two) 25)=S1 at le1 rp;rw [gF,xR]
 have out:∀{v:V},v= .bool true->aD y.most (aC false v (fun k=>y.call mB [] S1 fun v10 Sz=>k v10 Sz) S1 fun v11 Sz=>aD y.most (aC false v (fun k=>IP .not v11 fun v12=>k v12 Sz) Sz fun v13 Sz=>aD y.most (dA v (.bool true) v13 fun v14=>iG v14 (y.call mB [] Sz fun v15 Sz=>bC v15 Sz K) False))):=fun {v} e=>by
  rw [e,aF,wF,aF,wF,aF,gR,cU];refine SV (n:=n+15) hM hy ?_;exact jG le1 hK
 by_cases hc:20<l.length
 ·rw [decide_eq_true hc]
  iterate 3 (rw [aF,wF])
  rw [aF,gR];rw [aF,wF,aF,wF,aF,gR,cU];refine SV (n:=n+15) hM hy ?_;exact jG le1 hK
 rw [decide_eq_false hc];rw [aF,aI];dsimp only;rw [aF,aI,gF];dsimp only;rw [aF,aI,xR];dsimp only;rw [aF,dB];by_cases hc2:20<l2.length
 ·rw [decide_eq_true hc2]
  rw [aF,wF,aF,wF,aF,gR,cU];refine SV (n:=n+15) hM hy ?_;exact jG le1 hK
 rw [decide_eq_false hc2,aF,aI];dsimp only;refine SV (n:=n+15) hM hy ?_;rw [aF,aI,jV,Bool.not_true];dsimp only;clear out;have hT:tT two<=2:=by cases two<;>decide
 have hN:tN two<=7:=by cases two<;>decide
 have hN1:1<=tN two:=by cases two<;>decide
 have e1:(pv two)[1]? =some (nu 23):=rfl;have e5:(pv two)[5]? =some (ni (tN two)):=rfl;have e6:(pv two)[6]? =some (ni (tT two)):=rfl;have e7:(pv two)[7]? =some (ni 1):=rfl;have e8:(pv two)[8]? =some (ni 1):=rfl;have ld:∀{S':Hp} {K:KV},bE S1 S'->bF 12 (.ptr p 0) S' K=K (.agg (pv two)) S':=fun {S' K} hle=>RF (hle _ _ rp);have l1:∀{S':Hp} {K:KV},bE S1 S'->aS (.ptr p 1) S' K=K (nu 23) S':=fun hle=>cG (hle _ _ rp) e1;have l5:∀{S':Hp} {K:KV},bE S1 S'->aS (.ptr p 5) S' K=K (ni (tN two)) S':=fun hle=>cG (hle _ _ rp) e5;have l6:∀{S':Hp} {K:KV},bE S1 S'->aS (.ptr p 6) S' K=K (ni (tT two)) S':=fun hle=>cG (hle _ _ rp) e6;have l7:∀{S':Hp} {K:KV},bE S1 S'->aS (.ptr p 7) S' K=K (ni 1) S':=fun hle=>cG (hle _ _ rp) e7;have l8:∀{S':Hp} {K:KV},bE S1 S'->aS (.ptr p 8) S' K=K (ni 1) S':=fun hle=>cG (hle _ _ rp) e8;have sm:∀{q:Prop},aL (.agg (pv two)) (.agg (pv two)) q=q:=fun {q}=>bQ rfl;have aAg:1<=1+i8%tN two:=by omega
 have aEV:1+i8%tN two<=tN two:=by have:=Nat.mod_lt i8 (show 0<tN two by omega);omega
 rw [aF,dB,aZ,aAf hi8,aN,l5 (.refl _),Xz (by omega),aX (by omega),ld (.refl _),ld (.refl _)];generalize 1+i8%tN two=at_ at aAg aEV ⊢;refine NH (n:=n+22) hy fun O1 O2=>?_;rw [ld (.refl _),sm,ld (.refl _),sm];refine NH (n:=n+22) hy fun O3 O4=>?_;rw [ld (.refl _),sm,ld (.refl _),sm];refine aC6 (n:=n+22) hM hy h8 (by omega) fun w S2 gP iv=>?_;obtain⟨f1,f2,f3⟩:=Yg (two:=two) (l:=l);have f4:∀a b,zX two l=[a,b]->a≠b:=fun a b e c=>by rw [e,c]at f3;simp at f3
 rw [ld gP,sm];refine aB6 (n:=n+6) hM hy (BC a) (BC b) (BC c) (BC d) hS iv f1 f2 f4 fun S3 o f r fb rb kP ro ef er efb erb O5 O6 O7 O8=>?_;rw [iD (v:= .list O5 (Lb f r (tN two)) (tN two)) rfl,iD (v:= .list O6 (Lb fb rb (tN two)) (tN two)) rfl,iD (v:= .list O7 (pM (dW f r)) (dW f r).length) rfl,iD (v:= .list O8 (pM (dW fb rb)) (dW fb rb).length) rfl,iD (v:= .own o 0 (tT two+1) (tT two+1)) rfl,iD (v:= .bool true) rfl];obtain⟨aIo,aHL⟩:=aEH f1 f2 f r fb rb ef er efb erb;have lf:f.length=2:=by rw [ef];exact Cj _ _ _
 have lr:r.length=2:=by rw [er];exact Ck _ _ _
 have lfb:fb.length=2:=by rw [efb];exact Cj _ _ _
 have lrb:rb.length=2:=by rw [erb];exact Ck _ _ _
 have hs:∀X,(oQ f r X).length=2:=fun X=>by unfold oQ;rw [List.length_zipWith,lf,lr];rfl
 have hs2:∀X,(oQ fb rb X).length=2:=fun X=>by unfold oQ;rw [List.length_zipWith,lfb,lrb];rfl
 have uU:=gP.trans kP;have hll:=PL (two:=two) f1;rw [jV,Bool.not_true,aZ,ld uU];refine aC6 (n:=n+22) hM hy h82 (by omega) fun w2 S4 le4 iv2=>?_;obtain⟨g1,g2,g3⟩:=Yg (two:=two) (l:=l2);have g4:∀a b,zX two l2=[a,b]->a≠b:=fun a b e c=>by rw [e,c]at g3;simp at g3
 have AM:=uU.trans le4;have hmul:(tT two+1)*(tT two+1)<=9:=by cases two<;>decide
 have Ia:1<=(tT two+1)*(tT two+1):=by cases two<;>decide
 have aHM:2*1*(1+1)*((tT two+1)*(tT two+1)-1)=yO two:=by unfold yO tQ;omega
 have aIp:yO two<=32:=by cases two<;>decide
 rw [aDl,aN,l7 AM,pB (by decide),aN,l8 AM,aX (by decide),pB (by decide),aN,l6 AM,aX (by omega),aN,l6 AM,aX (by omega),pB (by omega),nD Ia (by omega),pB (by omega),aHM,aN,l1 AM];generalize hS7:(S+7)%18446744073709551616=S7;have aGF:b64 S7:=by rw [<-hS7];exact Nat.mod_lt _ (by decide)
 refine Pl (n:=n+22) hy aGF fun t S5 ht wY bt5 tp5=>?_;have aAh:=AM.trans wY;rw [l1 aAh,bO,l6 aAh,bO,l6 aAh,bO,l8 aAh,bO,l7 aAh,bO];refine Pm (n:=n+20) (by omega) hy (by omega) (by decide) tp5 fun S6 od hod b6 _ rod=>?_
 have aCy:bE S4 S6:=fun j ob e=>by
  have hj:j≠t:=fun c=>by rw [c,ht]at e;cases e
  have e6:=wY _ _ e;have hj2:j≠od:=fun c=>by rw [c,hod]at e6;cases e6
  rw [b6 j hj hj2];exact e6
 have FO:=AM.trans aCy;rw [l6 FO,bO,l6 FO,bO,l8 FO,bO,l7 FO,bO,ld FO,ld FO,ld FO];refine NH (n:=n+22) hy fun O1 O2=>?_;rw [ld FO,sm,ld FO,sm,ld FO,sm];refine NH (n:=n+22) hy fun O3 O4=>?_;rw [ld FO,sm,ld FO,sm,ld FO,sm];refine ZJ (n:=n+16) (by omega) hy (BC a) (BC b) (BC c) (BC d) fun wd S7z Pi md=>?_;have aEW:=FO.trans Pi;rw [ld aEW,sm,ld aEW,sm];have aHN:=(iv2.up aCy).up Pi;refine Cp (n:=n+17) hM hy aHN g1 g2 g4 fun o2 S8 ho2 Ue ro2=>?_;have aGG:=aEW.trans Ue;rw [ld aGG,sm];have Pz:=PL (two:=two) g1;have ro8:=Ue _ _ (Pi _ _ (aCy _ _ (le4 _ _ ro)));have nvl:NV S8 (.own o 0 (tT two+1) (tT two+1)) (iH two (zX two l)):=by have:=RB (l:=iH two (zX two l)) ro8;rw [hll]at this;exact this
 have nvn:NV S8 (.own o2 0 (tT two+1) (tT two+1)) (iH two (zX two l2)):=by have:=RB (l:=iH two (zX two l2)) ro2;rw [Pz]at this;exact this
 have aHO:=Ue _ _ (Pi _ _ rod);have hdl:(drawn (yO two) [] (BitVec.ofNat 64 S7)).length=yO two:=mZ _ _ _;have hdc:∀c∈drawn (yO two) [] (BitVec.ofNat 64 S7),c<23:=zM _ _ _
 have mnd:MN S5 S8 (.own od 0 (yO two) (yO two)) (drawn (yO two) [] (BitVec.ofNat 64 S7)):=by
  have:MN S5 S8 (.own od 0 (drawn (yO two) [] (BitVec.ofNat 64 S7)).length (drawn (yO two) [] (BitVec.ofNat 64 S7)).length) (drawn (yO two) [] (BitVec.ofNat 64 S7)):= .own hod aHO;rw [hdl]at this;exact this
 generalize hD:drawn (yO two) [] (BitVec.ofNat 64 S7)=D at hdl hdc mnd;refine aCw (n:=n+17) (two:=two) hM hy (vd:=wd) (by cases md<;>rfl) (by cases md<;>rfl) (md.nv.up Ue) rfl aC7 nvl hll (VN _) nvn Pz (VN _) aAg aEV mnd (fun c hc=>Nat.lt_trans (hdc c hc) (by decide)) hdl fun wD S9 le9 aHP=>?_;have Mb:=aGG.trans le9;have hiN:at_-1<tN two:=by omega
 have hat:at_-1+1=at_:=by omega
 have cx:∀{S2:Hp} {K:KV},aS (.nP O5 (Lb f r (tN two)) (at_-1)) S2 K=K (.list (.sub O5 (at_-1)) (PF (oQ f r at_)) (oQ f r at_).length) S2:=fun {S2 K}=>by
  rw [uN,bR (Yf hiN),hat];rfl
 have cy:∀{S2:Hp} {K:KV},aS (.nP O6 (Lb fb rb (tN two)) (at_-1)) S2 K=K (.list (.sub O6 (at_-1)) (PF (oQ fb rb at_)) (oQ fb rb at_).length) S2:=fun {S2 K}=>by
  rw [uN,bR (Yf hiN),hat];rfl
 have ls:∀{t:Tag} {c:List Dt} {n:Nat} {q:Prop},aL (.list t c n) (.list t c n) q=q:=fun {t c n q}=>bQ rfl;rw [ld Mb,nD aAg (by omega),lidx hiN,cx,aN,l5 Mb,aDl,hS7,l5 Mb,bO,cx,ls,ld Mb,sm];refine⟨al3 (K:=K) trivial,?_⟩;refine Pl (n:=n+22) hy aGF fun t2 S10 ht2 aBZ aIq aHQ=>?_;have aCz:=Mb.trans aBZ;rw [l5 aCz,bO,cx,ls,ld aCz,sm,l5 aCz,bO,cx,ls,ld aCz,sm];refine⟨al3 (K:=K) trivial,?_⟩;refine Zu (n:=n+1) hM hy (hs at_) Ye aHQ fun D1 S11 vr vc t3 hD1 Hm gr gc=>?_;have aGH:bE S9 S11:=(Cz aBZ ht2).trans Hm;have aIr:=Mb.trans aGH;have hagg:∀{u v w:V} {k:V->Prop},tK 0 (.tuple [.agg [u,v,w],ni 0]) k=k (.agg [u,v,w]):=fun {u v w k}=>iD rfl;have hext:∀{u v w:V} {k:V->Prop},tK 1 (.tuple [.agg [u,v,w],ni 0]) k=k (ni 0):=fun {u v w k}=>iD rfl;rw [hagg,hext];refine⟨al3 (K:=K) trivial,?_⟩;refine eI (l:=[.nil,.nil,.nil]) rfl fun du hdu=>?_;refine qT (n:=3) (i:=du) upd_same (by simp only [List.all_cons,List.all_nil,gr.one,gc.one];rfl) rfl rfl ?_;rw [fP];have ND:bE S11 (upd S11 du (.row [.list t3 (mD (pD (fT two (oQ f r at_) D1) (bT two (oQ f r at_) D1))) (pD (fT two (oQ f r at_) D1) (bT two (oQ f r at_) D1)).length,vr,vc] 60)):= .aH hdu;have rdu:upd S11 du (.row [.list t3 (mD (pD (fT two (oQ f r at_) D1) (bT two (oQ f r at_) D1))) (pD (fT two (oQ f r at_) D1) (bT two (oQ f r at_) D1)).length,vr,vc] 60) du=some (.row [.list t3 (mD (pD (fT two (oQ f r at_) D1) (bT two (oQ f r at_) D1))) (pD (fT two (oQ f r at_) D1) (bT two (oQ f r at_) D1)).length,vr,vc] 60):=upd_same;have gr:=gr.up ND;have gc:=gc.up ND;generalize upd S11 du (.row [.list t3 (mD (pD (fT two (oQ f r at_) D1) (bT two (oQ f r at_) D1))) (pD (fT two (oQ f r at_) D1) (bT two (oQ f r at_) D1)).length,vr,vc] 60)=S12 at ND rdu gr gc;have aEX:=aGH.trans ND;have Tf:=Mb.trans aEX;rw [ld Tf,nD aAg (by omega),lidx hiN,cy,aN,l5 Tf,l5 Tf,bO,cy,ls,ld Tf,sm];refine⟨al3 (K:=K) trivial,?_⟩
 have aGI:(RJ (iH two (zX two l)) (iH two (zX two l2)) (EG (a.tmod 3) (b.tmod 3) (c.tmod 3) (d.tmod 3)) D at_).length=yO two:=by
  unfold RJ;rw [List.length_zipWith,ZU,HT,Pz,hdl,show(EG (a.tmod 3) (b.tmod 3) (c.tmod 3) (d.tmod 3)).length=2 from rfl];unfold yO tQ;omega
 refine aGf (n:=n+21) hy (aHP.up aEX) (by omega) (show b64 0 by decide) fun t4 S13 ht4 aDm aHR=>?_;have aCA:=Tf.trans aDm;rw [l5 aCA,bO,cy,ls,ld aCA,sm,l5 aCA,bO,cy,ls,ld aCA,sm];refine⟨al3 (K:=K) trivial,?_⟩;refine Zu (n:=n+1) hM hy (hs2 at_) Ye aHR fun D2 S14 wr wc t5 hD2 aGJ Ug Zt=>?_;have aGK:bE S12 S14:=(Cz aDm ht4).trans aGJ;rw [hagg,hext];refine⟨al3 (K:=K) trivial,?_⟩;refine eI (l:=[.nil,.nil,.nil]) rfl fun dv hdv=>?_;refine qT (n:=3) (i:=dv) upd_same (by simp only [List.all_cons,List.all_nil,Ug.one,Zt.one];rfl) rfl rfl ?_;rw [fP];have Qa:(tQ two+tQ two)*2=yO two:=by unfold yO;omega
 have eD1:D1=D:=by rw [hD1,hs at_,Qa,hD]
 have aHS:∀c'∈RJ (iH two (zX two l)) (iH two (zX two l2)) (EG (a.tmod 3) (b.tmod 3) (c.tmod 3) (d.tmod 3)) D at_,c'<23:=fun c' hc'=>by
  unfold RJ at hc';obtain⟨i,hi⟩:=List.getElem?_of_mem hc';rw [List.getElem?_zipWith]at hi;split at hi
  ·injection hi with hi;subst hi;exact yK _ _
  ·cases hi
 have eD2:D2=RJ (iH two (zX two l)) (iH two (zX two l2)) (EG (a.tmod 3) (b.tmod 3) (c.tmod 3) (d.tmod 3)) D at_:=by
  have h:=ZP (RJ (iH two (zX two l)) (iH two (zX two l2)) (EG (a.tmod 3) (b.tmod 3) (c.tmod 3) (d.tmod 3)) D at_) (BitVec.ofNat 64 0) aHS;rw [hD2,hs2 at_,Qa,<-aGI];exact h
 have hlo:=Po (two:=two) g1 g2;unfold VQ at hlo;simp only [Bool.and_eq_true,decide_eq_true_eq,List.all_eq_true]at hlo;obtain⟨⟨hlo1,hlo2⟩,hlo3⟩:=hlo;obtain⟨dl1,dl2⟩:=aAc (two:=two) (L:=oQ f r at_) (ds:=EG (a.tmod 3) (b.tmod 3) (c.tmod 3) (d.tmod 3)) (D:=D) (next:=iH two (zX two l2)) (k:=ev 23 (iH two (zX two l)) at_) (hs at_) rfl (by rw [Qa];exact hdl) hdc Pz hlo2 (VP _ _) (L2:=oQ fb rb at_) (D2:=D2) (aHL at_ aAg aEV).2 (by rw [eD2];rfl);subst eD1;have hQQ:tQ two+1=(tT two+1)*(tT two+1):=by cases two<;>rfl
 obtain⟨sf,sb⟩:=Lv (n:=tT two+1) (Q:=tQ two) hQQ (oQ f r at_) D1 (by rw [hs at_,Qa,hdl];exact Nat.le_refl _) hdc;have Qb:bE S14 (upd S14 dv (.row [.list t5 (mD (pD (fT two (oQ fb rb at_) D2) (bT two (oQ fb rb at_) D2))) (pD (fT two (oQ fb rb at_) D2) (bT two (oQ fb rb at_) D2)).length,wr,wc] 60)):= .aH hdv;have rdv:upd S14 dv (.row [.list t5 (mD (pD (fT two (oQ fb rb at_) D2) (bT two (oQ fb rb at_) D2))) (pD (fT two (oQ fb rb at_) D2) (bT two (oQ fb rb at_) D2)).length,wr,wc] 60) dv=some (.row [.list t5 (mD (pD (fT two (oQ fb rb at_) D2) (bT two (oQ fb rb at_) D2))) (pD (fT two (oQ fb rb at_) D2) (bT two (oQ fb rb at_) D2)).length,wr,wc] 60):=upd_same;have Ug:=Ug.up Qb;have Zt:=Zt.up Qb;generalize upd S14 dv (.row [.list t5 (mD (pD (fT two (oQ fb rb at_) D2) (bT two (oQ fb rb at_) D2))) (pD (fT two (oQ fb rb at_) D2) (bT two (oQ fb rb at_) D2)).length,wr,wc] 60)=S15 at Qb rdv Ug Zt;have Ii:=aGK.trans Qb;have aGL:=Ii _ _ rdu;rw [nB,decide_eq_true rfl,Bool.not_true,aF,aI];dsimp only;rw [aF,aI,nB,decide_eq_true rfl,Bool.not_true];dsimp only;rw [aF,dB,aF,aI,aN];dsimp only;rw [aF,aI,cG aGL rfl];dsimp only;rw [aF,aI,aN];dsimp only;rw [aF,aI,cG rdv rfl];dsimp only;rw [aF,aI];dsimp only;rw [dl1];have lF:(fT two (oQ f r at_) D1).length=2:=by unfold fT;rw [Lt,hs at_]
 have lB:(bT two (oQ f r at_) D1).length=2:=by unfold bT;rw [Lu,hs at_]
 have aGM:∀q∈pD (fT two (oQ f r at_) D1) (bT two (oQ f r at_) D1),q.length<=3/\∀z∈q,z.length<=3:=fun q hq=>by
  obtain⟨i,hi⟩:=List.getElem?_of_mem hq;unfold pD at hi;rw [List.getElem?_zipWith]at hi;split at hi
  next u v hu hv=>
   injection hi with hi;have h1:=sf u (List.mem_of_getElem? hu);subst hi;refine⟨by unfold dW;rw [List.length_zipWith,h1.1];omega,fun z hz=>?_⟩;obtain⟨j,hj⟩:=List.getElem?_of_mem hz;unfold dW at hj;rw [List.getElem?_zipWith]at hj;split at hj
   next u' v' hu' hv'=>
    injection hj with hj;subst hj;unfold jX;rw [List.length_zipWith,(h1.2 u' (List.mem_of_getElem? hu')).1];omega
   ·cases hj
  ·cases hi
 have lM:(pD (fT two (oQ f r at_) D1) (bT two (oQ f r at_) D1)).length=2:=by unfold pD;rw [List.length_zipWith,lF,lB];rfl
 refine Lz (n:=n+20) hM hy (by rw [lM];decide) (fun q hq=>by have:=(aGM q hq).1;omega) (fun q hq z hz=>by have:=(aGM q hq).2 z hz;omega) ?_;rw [aF,aI,jV,Bool.not_true];dsimp only;have aGN:=(((((iv2.up aCy).up Pi).up Ue).up le9).up aEX).up Ii;rw [aF,dB,aZ,aGN.len,hy.most];refine aAd (n:=n+20) (k:=tT two+1) (N:=tN two) hM hy aGL rdv ((gr.up Ii).base (S0:=fun _=>none) fun j o e=>by cases e) ((gc.up Ii).base (S0:=fun _=>none) fun j o e=>by cases e) (Ug.base (S0:=fun _=>none) fun j o e=>by cases e) (Zt.base (S0:=fun _=>none) fun j o e=>by cases e) (by omega) aGN (by omega) (fun j hj=>?_) (jG (le1.trans (Tf.trans Ii)) hK) (zX two l2).length 0 M (by omega) (by omega);obtain⟨j1,j2⟩:=g2 j hj;obtain⟨pr,pc⟩:=Ma (k:=tT two+1) (X:=j) (by omega) sf sb;obtain⟨er,ec⟩:=dl2 j (hlo3 j hj);have hr1:(vC (tT two+1) j (fT two (oQ f r at_) D1) (bT two (oQ f r at_) D1)).length=2:=by unfold vC;rw [List.length_zipWith,lF,lB];rfl
 have hc1:(vE (tT two+1) j (fT two (oQ f r at_) D1) (bT two (oQ f r at_) D1)).length=2:=by unfold vE;rw [List.length_zipWith,lF,lB];rfl
 exact⟨j1,by omega,_,_,aDj j1 j2,by rw [aDj j1 j2,er],aDk j1 j2,by rw [aDk j1 j2,ec],by rw [hr1,hc1],by rw [hr1];decide,pr,pc⟩
end
end Go.Am
set_option maxRecDepth 100000
namespace Go.Am
open Go.RowKit Go.MapKept Go.Proofs
theorem called_mirdeal{H:Type}{enc:TypeId×Value->H}{W:World} (hsz:PP.globals.size<=W.heap.size) (hg:Laid gs W){two:Bool}{a b c d:Int}{S i8:Nat} (hS:S<18446744073709551616) (hi:i8<256){v v2:Value}{d7 d8:DataW H}{p7 p8:List MemPlace} (hc:v.cells= #[v]) (hc2:v2.cells= #[v2]) (h:DataW.Trod enc PP W 0 (fun _=>true) true 23 v d7 p7) (h2:DataW.Trod enc PP W 0 (fun _=>true) true 23 v2 d8 p8)
 (hz:∀b off,MemPlace.cell b off∈p7->W.frozen? ⟨b,off,none⟩=false) (hw:∀x∈d7.weights PP 23,x<=reachBytes) (hz2:∀b off,MemPlace.cell b off∈p8->W.frozen? ⟨b,off,none⟩=false) (hw2:∀x∈d8.weights PP 23,x<=reachBytes):
 Calls PP iK ⟨[.bool two,.int .i64 a,.int .i64 b,.int .i64 c,.int .i64 d,.int .u64 (.ofNat S),v,v2,.int .u8 (.ofNat i8)]⟩ W (fun e w'=>e= .returned (.bool true)/\Below W.heap.size W w'):=by
 obtain⟨U1,S1,u,l,_,hl1,_,hu,hr,h8,hll⟩:=Pq aDf hc h hz hw (Lay.none hsz);obtain⟨U,Sz,u2,l2,e2,hl,x2,hu2,hr2,h82,aIn⟩:=Pq aDf hc2 h2 hz2 hw2 hl1;obtain⟨M,hM⟩:∃M:Nat,1000000<M:=⟨1000001,by omega⟩;obtain⟨m,-⟩:∃m:Nat,m=0:=⟨0,rfl⟩;have hr:=hr.mono x2.none;have hu:=hu.mono e2
 refine Ta (M:=M) (m:=m+24) hsz hg hl [u,u2] (va:=[.bool two,iz a,iz b,iz c,iz d,nu S,.list (.root 0) (Li l) l.length,.list (.root 1) (Li l2) l2.length,.int .u8 (.ofNat i8)]) (us:=[.bool two,.int .i64 a,.int .i64 b,.int .i64 c,.int .i64 d,.int .u64 (.ofNat S),u,u2,.int .u8 (.ofNat i8)])
  (.cons .bool (.cons .int (.cons .int (.cons .int (.cons .int (.cons .int (.cons (.list (.root rfl) (hr.mono (Hy Sz))) (.cons (.list (.root rfl) (hr2.mono (Hy Sz))) (.cons .int .nil)))))))))
  (.cons (VR.flat rfl) (.cons (VR.flat rfl) (.cons (VR.flat rfl) (.cons (VR.flat rfl) (.cons (VR.flat rfl) (.cons (VR.flat rfl) (.cons hu (.cons hu2 (.cons (VR.flat rfl) (.nil _)))))))))) ?_
 exact Di (n:=m) hM (Tc (m+24)) hS h8 (by omega) h82 (by omega) hi rfl
end Go.Am
