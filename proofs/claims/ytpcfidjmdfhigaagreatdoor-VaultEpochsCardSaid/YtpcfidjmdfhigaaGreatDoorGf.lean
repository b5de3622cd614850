/- Functions' codes, written out (by a program), each seen to be so by the kernel. -/
import Derived.Test.YtpcfidjmdfhigaaGreatDoorGe

noncomputable section
set_option linter.unusedVariables false
set_option maxRecDepth 100000
namespace Go.Am
def aAz (P:Program) (tb:FuncId->sI) (f:FuncId) (E:VE) (p:List Dir) (m:Nat) (ms:List Nat) (vs:List V) (S:Hp) (K:KV):Prop:=
 match P.funcs[f]? with
 | some fn=>match fn.body with
  | some c=>tL P (tb f) none E p FC c ms (aJN P fn K) fun D c K=>match D,c with
   | D+1,.loop a=>aFv (β:=List V->Nat->Hp->Prop) (fun _ _ _=>False) (fun _ ih vs n S=>cH S fun S=>SY (zD (tb f) a) vs n P.globals.size fun A=>(sM P (tb f) none (ZO P (tb f) none D) a).f E A S (aAl (tb f) a ih (aGY P (tb f) a K))) m vs fn.ntmps S
   | _,_=>False
  | none=>False
 | none=>False
def vF (x:VE) (m:Nat) (t2 t3 t4 t8 t10 t11 t38 t39 t40:V) (S:Hp) (K:KV):Prop:=dG PP bI uJ x [.r,.r,.r,.l,.r,.d] m [] [t2,t3,t4,t8,t10,t11,t38,t39,t40] S K
def fZ (x:VE) (m:Nat) (t2 t4 t8 t10 t11 t14 t15:V) (S:Hp) (K:KV):Prop:=dG PP bI uJ x [.r,.r,.r,.r,.r,.l,.r,.d] m [] [t2,t4,t8,t10,t11,t14,t15] S K
def cM (x:VE) (m:Nat) (m0:Nat) (t2 t4 t8 t10 t11 t14 t15 t16 t17 t75 t76:V) (S:Hp) (K:KV):Prop:=dG PP bI uJ x [.r,.r,.r,.r,.r,.l,.r,.d,.d,.r,.l,.d,.r,.l,.r,.d] m [m0] [t2,t4,t8,t10,t11,t14,t15,t16,t17,t75,t76] S K
def Ky (x:VE) (a0 a1 a2 a3:V) (S:Hp) (K:KV):Prop:=
 iD 29 a0 S fun v0 S=>
 cW MH 79 S fun v1 S=>
 bN 12 v0 S fun v2 S=>
 x.call uG [v2] S fun v3 S=>
 SO .not v3 fun v4=>
 gK x false v4 a1 S fun v5 S=>gP x false v4 (bH v5) S fun v7 S=>gL x false v4 (bN 12 v0 S) S fun v9 S=>gL x false v4 (x.call DZ [v9] S) S fun v11 S=>gP x false v4 (aH PP .neq 3 v7 v11) S fun sO S=>gQ x v4 (.bool true) sO fun sS=>gK x false sS a2 S fun AM S=>gP x false sS (aH PP .lss 3 AM (.int .i64 (.ofNat 1))) S fun rQ S=>gQ x sS (.bool true) rQ fun yE=>gK x false yE a2 S fun wZ S=>gP x false yE (aH PP .gtr 3 wZ (.int .i64 (.ofNat 7))) S fun v21 S=>gQ x yE (.bool true) v21 fun MY=>fS MY (cV MH [] fun FI=>mL 3 v1 FI S fun S=>bN 3 v1 S fun v24 _=>bD (.tuple [v24,(.int .i64 (.ofNat 1))]) S K) (bH a1 fun TE=>vF x x.most a2 a3 v0 v1 .nil .nil a1 TE (.int .i64 (.ofNat 0)) S K)
theorem aCr (x:VE) (a0 a1 a2 a3:V) (S:Hp) (K:KV):jI PP bI uJ x [a0,a1,a2,a3] S K=Ky x a0 a1 a2 a3 S K:=by kernel_rfl
def zW (x:VE) (m0:Nat) (t2 t3 t4 t8 t10 t11 t38 t39 t40:V) (S:Hp) (K:KV):Prop:=
 cH S fun S=>
 aH PP .lss 3 t40 t39 fun v0=>
 fS v0 (cF 2 t38 t40 fun v1=>bN 2 v1 S fun v2 S=>cW GA 145 S fun v3 S=>mL 2 v3 v2 S fun S=>bN 12 t4 S fun v4 S=>aP 0 v3 fun v5=>aT v5 S fun v6 S=>x.call MG [v4,v6,(.func dM [t3] [])] S fun v7 S=>aS 33 1 cU [(0,1,v7)] S fun v8 S=>jT 33 1 24 t10 v8 S fun v9 S=>bN 12 t4 S fun v10 S=>aP 1 v3 fun v11=>aT v11 S fun v12 S=>x.call MG [v10,v12,(.func dM [t3] [])] S fun sO S=>aS 33 1 cU [(0,1,sO)] S fun sS S=>jT 33 1 24 t11 sS S fun AM S=>aH PP .add 3 t40 (.int .i64 (.ofNat 1)) fun wU=>vF x m0 t2 t3 t4 t8 v9 AM t38 t39 wU S K) (bN 12 t4 S fun rQ S=>x.call bP [rQ,t10,t11] S fun yE S=>cV MH [(0,1,yE)] fun wZ=>cW MH 79 S fun v20 S=>mL 3 v20 wZ S fun S=>fZ x x.most t2 t4 t8 t10 t11 v20 (.int .u64 (.ofNat 1)) S K)
theorem JK (x:VE) (m0:Nat) (t2 t3 t4 t8 t10 t11 t38 t39 t40:V) (S:Hp) (K:KV):vF x (m0+1) t2 t3 t4 t8 t10 t11 t38 t39 t40 S K=zW x m0 t2 t3 t4 t8 t10 t11 t38 t39 t40 S K:=by kernel_rfl
def wH (x:VE) (m:Nat) (t2 t4 t8 t10 t11 t14 t15:V) (S:Hp) (K:KV):Prop:=aAz PP bI uJ x [.r,.r,.r,.r,.r,.l,.r,.d] m [] [t2,t4,t8,t10,t11,t14,t15] S K
theorem TH (x:VE) (m:Nat) (t2 t4 t8 t10 t11 t14 t15:V) (S:Hp) (K:KV):fZ x m t2 t4 t8 t10 t11 t14 t15 S K=wH x m t2 t4 t8 t10 t11 t14 t15 S K:=by kernel_rfl
def gD (x:VE) (m:Nat) (m0:Nat) (t2 t4 t8 t10 t11 t14 t15 t16 t17 t75 t76:V) (S:Hp) (K:KV):Prop:=aAz PP bI uJ x [.r,.r,.r,.r,.r,.l,.r,.d,.d,.r,.l,.d,.r,.l,.r,.d] m [m0] [t2,t4,t8,t10,t11,t14,t15,t16,t17,t75,t76] S K
theorem tV (x:VE) (m:Nat) (m0:Nat) (t2 t4 t8 t10 t11 t14 t15 t16 t17 t75 t76:V) (S:Hp) (K:KV):cM x m m0 t2 t4 t8 t10 t11 t14 t15 t16 t17 t75 t76 S K=gD x m m0 t2 t4 t8 t10 t11 t14 t15 t16 t17 t75 t76 S K:=by kernel_rfl
def wB (x:VE) (m0:Nat) (t2 t4 t8 t10 t11 t14 t15:V) (S:Hp) (K:KV):Prop:=
 cH S fun S=>
 LS .u64 t2 fun v0=>
 aH PP .leq 22 t15 v0 fun v1=>
 fS v1 (bH t10 fun v2=>cM x x.most m0 t2 t4 t8 t10 t11 t14 t15 .nil .nil v2 (.int .i64 (.ofNat 0)) S K) (bN 3 t14 S fun v3 S=>mL 3 t8 v3 S fun S=>bN 3 t8 S fun v4 _=>bD (.tuple [v4,(.int .i64 (.ofNat 0))]) S K)
def TI (lp:VE->Nat->Nat->V->V->V->V->V->V->V->V->V->V->V->Hp->KV->Prop) (x:VE) (m0:Nat) (t2 t4 t8 t10 t11 t14 t15:V) (S:Hp) (K:KV):Prop:=
 cH S fun S=>
 LS .u64 t2 fun v0=>
 aH PP .leq 22 t15 v0 fun v1=>
 fS v1 (bH t10 fun v2=>lp x x.most m0 t2 t4 t8 t10 t11 t14 t15 .nil .nil v2 (.int .i64 (.ofNat 0)) S K) (bN 3 t14 S fun v3 S=>mL 3 t8 v3 S fun S=>bN 3 t8 S fun v4 _=>bD (.tuple [v4,(.int .i64 (.ofNat 0))]) S K)
theorem FF (x:VE) (m0:Nat) (t2 t4 t8 t10 t11 t14 t15:V) (S:Hp) (K:KV):fZ x (m0+1) t2 t4 t8 t10 t11 t14 t15 S K=wB x m0 t2 t4 t8 t10 t11 t14 t15 S K:=by
 have h1:fZ x (m0+1) t2 t4 t8 t10 t11 t14 t15 S K=TI gD x m0 t2 t4 t8 t10 t11 t14 t15 S K:=by kernel_rfl
 have h2:cM=gD:=by funext x m m0 t2 t4 t8 t10 t11 t14 t15 t16 t17 t75 t76 S K;exact tV ..
 rw [h1,<-h2];rfl
def nN (x:VE) (m1:Nat) (m0:Nat) (t2 t4 t8 t10 t11 t14 t15 t16 t17 t75 t76:V) (S:Hp) (K:KV):Prop:=
 cH S fun S=>
 aH PP .lss 3 t76 t75 fun v0=>
 fS v0 (cF 1 t10 t76 fun v1=>aT v1 S fun v2 S=>aP 1 t4 fun v3=>aT v3 S fun v4 S=>cF 1 t11 t76 fun v5=>aT v5 S fun v6 S=>aP 1 t4 fun v7=>aT v7 S fun v8 S=>x.call cL [v2,t15,v4] S fun v9 S=>aT v7 S fun v10 _=>aZ v10 v8 (aT v5 S fun v11 _=>aZ v11 v6 (x.call cL [v6,t15,v8] S fun v12 S=>x.call rO [v9,v12] S fun sO S=>(aS 82 1 cU [(0,1,sO)] S fun sS S=>True)/\(aS 82 1 cU [(0,1,sO)] S fun AM S=>jT 82 1 24 t16 AM S fun wU S=>cF 1 t10 t76 fun rQ=>aT rQ S fun yE S=>aP 1 t4 fun wZ=>aT wZ S fun v20 S=>cF 1 t11 t76 fun v21=>aT v21 S fun MY S=>aP 1 t4 fun FI=>aT FI S fun v24 S=>x.call nM [yE,t15,v20] S fun TE S=>aT FI S fun ZS _=>aZ ZS v24 (aT v21 S fun Cs _=>aZ Cs MY (x.call nM [MY,t15,v24] S fun v28 S=>x.call rO [TE,v28] S fun v29 S=>(aS 82 1 cU [(0,1,v29)] S fun v30 S=>True)/\(aS 82 1 cU [(0,1,v29)] S fun v31 S=>jT 82 1 24 t17 v31 S fun Um S=>aH PP .add 3 t76 (.int .i64 (.ofNat 1)) fun Sv=>cM x m1 m0 t2 t4 t8 t10 t11 t14 t15 wU Um t75 Sv S K))))))) (aP 1 t14 fun Un=>aT Un S fun Rz S=>aP 2 t14 fun Lz=>aT Lz S fun v37 S=>aT Lz S fun Gg _=>aZ Gg v37 (aT Un S fun Cv _=>aZ Cv Rz ((aS 31 1 cU [(0,1,t16)] S fun v40 S=>True)/\((aS 31 1 cU [(0,1,t17)] S fun v41 S=>True)/\(aS 31 1 cU [(0,1,t16)] S fun Ma S=>jT 31 1 24 Rz Ma S fun v43 S=>aT Lz S fun v44 _=>aZ v44 v37 (aP 1 t14 fun v49=>aT Lz S fun v45 _=>aZ v45 v37 ((aS 31 1 cU [(0,1,t17)] S fun v46 S=>True)/\(aS 31 1 cU [(0,1,t17)] S fun v47 S=>jT 31 1 24 v37 v47 S fun v48 S=>mL 1 v49 v43 S fun S=>aP 2 t14 fun v50=>mL 1 v50 v48 S fun S=>aH PP .add 22 t15 (.int .u64 (.ofNat 1)) fun v51=>fZ x m0 t2 t4 t8 t10 t11 t14 v51 S K))))))))
def GP (lo:VE->Nat->V->V->V->V->V->V->V->Hp->KV->Prop) (li:VE->Nat->Nat->V->V->V->V->V->V->V->V->V->V->V->Hp->KV->Prop) (x:VE) (m1:Nat) (m0:Nat) (t2 t4 t8 t10 t11 t14 t15 t16 t17 t75 t76:V) (S:Hp) (K:KV):Prop:=
 cH S fun S=>
 aH PP .lss 3 t76 t75 fun v0=>
 fS v0 (cF 1 t10 t76 fun v1=>aT v1 S fun v2 S=>aP 1 t4 fun v3=>aT v3 S fun v4 S=>cF 1 t11 t76 fun v5=>aT v5 S fun v6 S=>aP 1 t4 fun v7=>aT v7 S fun v8 S=>x.call cL [v2,t15,v4] S fun v9 S=>aT v7 S fun v10 _=>aZ v10 v8 (aT v5 S fun v11 _=>aZ v11 v6 (x.call cL [v6,t15,v8] S fun v12 S=>x.call rO [v9,v12] S fun sO S=>(aS 82 1 cU [(0,1,sO)] S fun sS S=>True)/\(aS 82 1 cU [(0,1,sO)] S fun AM S=>jT 82 1 24 t16 AM S fun wU S=>cF 1 t10 t76 fun rQ=>aT rQ S fun yE S=>aP 1 t4 fun wZ=>aT wZ S fun v20 S=>cF 1 t11 t76 fun v21=>aT v21 S fun MY S=>aP 1 t4 fun FI=>aT FI S fun v24 S=>x.call nM [yE,t15,v20] S fun TE S=>aT FI S fun ZS _=>aZ ZS v24 (aT v21 S fun Cs _=>aZ Cs MY (x.call nM [MY,t15,v24] S fun v28 S=>x.call rO [TE,v28] S fun v29 S=>(aS 82 1 cU [(0,1,v29)] S fun v30 S=>True)/\(aS 82 1 cU [(0,1,v29)] S fun v31 S=>jT 82 1 24 t17 v31 S fun Um S=>aH PP .add 3 t76 (.int .i64 (.ofNat 1)) fun Sv=>li x m1 m0 t2 t4 t8 t10 t11 t14 t15 wU Um t75 Sv S K))))))) (aP 1 t14 fun Un=>aT Un S fun Rz S=>aP 2 t14 fun Lz=>aT Lz S fun v37 S=>aT Lz S fun Gg _=>aZ Gg v37 (aT Un S fun Cv _=>aZ Cv Rz ((aS 31 1 cU [(0,1,t16)] S fun v40 S=>True)/\((aS 31 1 cU [(0,1,t17)] S fun v41 S=>True)/\(aS 31 1 cU [(0,1,t16)] S fun Ma S=>jT 31 1 24 Rz Ma S fun v43 S=>aT Lz S fun v44 _=>aZ v44 v37 (aP 1 t14 fun v49=>aT Lz S fun v45 _=>aZ v45 v37 ((aS 31 1 cU [(0,1,t17)] S fun v46 S=>True)/\(aS 31 1 cU [(0,1,t17)] S fun v47 S=>jT 31 1 24 v37 v47 S fun v48 S=>mL 1 v49 v43 S fun S=>aP 2 t14 fun v50=>mL 1 v50 v48 S fun S=>aH PP .add 22 t15 (.int .u64 (.ofNat 1)) fun v51=>lo x m0 t2 t4 t8 t10 t11 t14 v51 S K))))))))
theorem uI (x:VE) (m1:Nat) (m0:Nat) (t2 t4 t8 t10 t11 t14 t15 t16 t17 t75 t76:V) (S:Hp) (K:KV):cM x (m1+1) m0 t2 t4 t8 t10 t11 t14 t15 t16 t17 t75 t76 S K=nN x m1 m0 t2 t4 t8 t10 t11 t14 t15 t16 t17 t75 t76 S K:=by
 have h1:cM x (m1+1) m0 t2 t4 t8 t10 t11 t14 t15 t16 t17 t75 t76 S K=GP wH gD x m1 m0 t2 t4 t8 t10 t11 t14 t15 t16 t17 t75 t76 S K:=by kernel_rfl
 have h2:cM=gD:=by funext x m m0 t2 t4 t8 t10 t11 t14 t15 t16 t17 t75 t76 S K;exact tV ..
 have h3:fZ=wH:=by funext x m t2 t4 t8 t10 t11 t14 t15 S K;exact TH ..
 rw [h1,<-h2,<-h3];rfl
end Go.Am
set_option maxRecDepth 4000
namespace Go.Am
open Go.Proofs.NQ
def fM (n Q:Nat):List (Nat×Nat)->List Nat->List (List (List Nat))
 | [],_=>[]
 | p::l,D=>AG n (p.1%11::D.take Q)::fM n Q l (D.drop (Q+Q))
def bM (n Q:Nat):List (Nat×Nat)->List Nat->List (List (List Nat))
 | [],_=>[]
 | p::l,D=>AG n (p.2%11::(D.drop Q).take Q)::bM n Q l (D.drop (Q+Q))
theorem aFk{n Q:Nat}{p:Nat×Nat}{l:List (Nat×Nat)}{D:List Nat}:fM n Q (p::l) D=AG n (p.1%11::D.take Q)::fM n Q l (D.drop (Q+Q)):=rfl
theorem aFl{n Q:Nat}{p:Nat×Nat}{l:List (Nat×Nat)}{D:List Nat}:bM n Q (p::l) D=AG n (p.2%11::(D.drop Q).take Q)::bM n Q l (D.drop (Q+Q)):=rfl
theorem aJf (n Q:Nat):∀(l:List (Nat×Nat)) (D:List Nat),(fM n Q l D).length=l.length:=by
 intro l;induction l with
 | nil=>intro D;rfl
 | cons p l ih=>intro D;show(fM n Q l _).length+1=_;rw [ih];rfl
theorem aJg (n Q:Nat):∀(l:List (Nat×Nat)) (D:List Nat),(bM n Q l D).length=l.length:=by
 intro l;induction l with
 | nil=>intro D;rfl
 | cons p l ih=>intro D;show(bM n Q l _).length+1=_;rw [ih];rfl
section
variable{M n:Nat}{x:VE}{S S0:Hp}{K:KV}{two:Bool}{t d:Nat}{s:BitVec 64}{ah:List Nat}
end
set_option maxRecDepth 4000
theorem yL{w:V}{el:TypeId}{S:Hp}{K:KV} (h1:fR w=true) (hk:∀j,S j=none->K (.own j 0 1 1) (aK S j (.row [w] el))):aS el 1 cU [(0,1,w)] S K:=by
 have hc:∀{p:List V->Prop},vZ w p=p [w]:=fun {p}=>by cases w<;>first | rfl | cases h1
 have hz:LO cU=some [.nil]:=rfl;unfold aS rL;rw [hz];show iG [(0,1,w)] [.nil] _;unfold iG;rw [hc];refine⟨rfl,by simp,?_⟩;unfold iG;exact hk
inductive GG (S0 S:Hp):V->List (List Dt)->Prop
 | nil:GG S0 S .nil []
 | acc {i:Nat} {vs:List V} {ZK:List (List Dt)} (h0:S0 i=none) (h:S i=some (.fW vs 31 ZK.length)) (hl:vs.length=ZK.length) (hv:∀(j:Nat) (ds:List Dt),ZK[j]? =some ds->∃w,vs[j]? =some w/\GL 82 S0 S w ds):GG S0 S (.acc i ZK.length) ZK
section
variable{S0 S S':Hp}{v:V}{ZK:List (List Dt)}
theorem GG.one (h:GG S0 S v ZK):fR v=true:=by cases h<;>rfl
theorem GG.same (h:GG S0 S v ZK):DS v=true:=by cases h<;>rfl
theorem GG.up (h:GG S0 S v ZK) (hle:bO S S'):GG S0 S' v ZK:=by
 cases h with
 | nil=>exact .nil
 | acc h0 h hl hv=>exact .acc h0 (hle _ _ h) hl fun j ds e=>by obtain⟨w,a,b⟩:=hv j ds e;exact⟨w,a,b.up hle⟩
theorem GG.there (h:GG S0 S v ZK){j m:Nat} (e:v= .acc j m):∃vs n,S j=some (.fW vs 31 n):=by
 cases h with
 | nil=>cases e
 | acc h0 h hl hv=>injection e with e1 e2;subst e1;exact⟨_,_,h⟩
theorem GG.lT{w:V}{es:List (List Dt)} (h:GG S0 S w es) (hp:∀j o,S j=some o->(∀m,v≠ .acc j m)->S' j=some o) (hv0:∀j m,v= .acc j m->∃vs n,S j=some (.fW vs 31 n)) (ha:∀j m m',w= .acc j m->v≠ .acc j m'):GG S0 S' w es:=by
 cases h with
 | nil=>exact .nil
 | acc h0 h hl hv=>
  refine .acc h0 (hp _ _ h fun m=>ha _ _ m rfl) hl fun j ds e=>?_;obtain⟨u,a,b⟩:=hv j ds e;refine⟨u,a,b.but fun j vs m e=>hp _ _ e fun m' c=>?_⟩;obtain⟨vs',n',e'⟩:=hv0 _ _ c;rw [e]at e';injection e' with e';cases e'
theorem GG.set (h:GG S0 S v ZK){i:Nat}{o p:Ob} (hi:S i=some p) (h1:∀vs e m,p≠ .fW vs e m):GG S0 (aK S i o) v ZK:=by
 cases h with
 | nil=>exact .nil
 | acc h0 h hl hv=>exact .acc h0 (by rw [aB (fun c=>by rw [c,hi]at h;injection h with h;exact h1 _ _ _ h)];exact h) hl fun j ds e=>by obtain⟨w,a,b⟩:=hv j ds e;exact⟨w,a,b.set hi fun vs m=>h1 vs 82 m⟩
theorem GG.app (h:GG S0 S v ZK) (hs:bO S0 S) (hl:ZK.length<=1000000){w:V}{ds:List Dt} (hw:GL 82 S0 S w ds){K:KV}
 (hk:∀u S',bO S0 S'->(∀j o,S j=some o->(∀m,v≠ .acc j m)->S' j=some o)->(∀j m,u= .acc j m->(∃m',v= .acc j m')\/S j=none)->GG S0 S' u (ZK++[ds])->K u S'):aS 31 1 cU [(0,1,w)] S fun v2 S=>jT 31 1 24 v v2 S K:=by
 refine yL hw.one fun j hj=>?_;have xB:bO S (aK S j (.row [w] 31)):= .aI hj;refine LN (m:=1) aC rfl ?_;refine⟨by simp [hw.one],?_⟩;cases h with
 | nil=>
  refine⟨by decide,fun i hi=>?_⟩;have tZ:bO (aK S j (.row [w] 31)) (aK (aK S j (.row [w] 31)) i (.fW [w] 31 1)):= .aI hi;refine hk _ _ ((hs.trans xB).trans tZ) (fun q o e _=>tZ _ _ (xB _ _ e)) (fun q m e=> .inr (by injection e with e;subst e;exact xB.none hi)) (.acc (ZK:=[ds]) ((hs.trans xB).none hi) aC rfl fun q l' e=>?_)
  match q,e with
  | 0,e=>injection e with e;subst e;exact⟨w,rfl,hw.up (xB.trans tZ)⟩
  | q+1,e=>cases e
 | @acc i vs _ h0 h DK hv=>
  have oJ:j≠i:=fun e=>by rw [e,h]at hj;cases hj
  have h':aK S j (.row [w] 31) i=some (.fW vs 31 ZK.length):=by rw [aB (aO oJ)];exact h
  simp only [h'];refine⟨trivial,trivial,by omega,by omega,?_⟩;have el':ZK.length+(0+1)=(ZK++[ds]).length:=by simp
  rw [el'];have tZ:∀q o,q≠i->S q=some o->aK (aK S j (.row [w] 31)) i (.fW (vs++[w]) 31 (ZK++[ds]).length) q=some o:=fun q o hq e=>by rw [aB hq];exact xB _ _ e
  have kp:∀{u:V} {es:List Dt},GL 82 S0 S u es->GL 82 S0 (aK (aK S j (.row [w] 31)) i (.fW (vs++[w]) 31 (ZK++[ds]).length)) u es:=fun {u es} g=>g.but fun q ws m e=>tZ _ _ (fun c=>by rw [c,h]at e;injection e with e;cases e) e;refine hk _ _ (fun q o e=>tZ q o (fun c=>by rw [c,h0]at e;cases e) (hs _ _ e)) (fun q o e xC=>tZ q o (fun c=>xC ZK.length (by rw [c])) e) (fun q m e=> .inl (by injection e with e;subst e;exact⟨_,rfl⟩)) (.acc h0 aC (by simp [DK]) fun q l' e=>?_);rcases BF q ZK.length with hq | hq
  ·rw [gI hq]at e
   obtain⟨u,a,b⟩:=hv q l' e;exact⟨u,by rw [gI (by omega)];exact a,kp b⟩
  ·have hq':q=ZK.length:=by
    have:=(List.getElem?_eq_some_iff.1 e).1;simp at this;omega
   subst hq';simp at e;subst e;exact⟨w,by rw [kI (by omega),DK];simp,kp hw⟩
end
def Zs (k:Nat) (m:List (List Nat)):Prop:=m.length=k/\∀q∈m,q.length=k/\∀c∈q,c<11
theorem Zs.wide{k:Nat}{m:List (List Nat)} (h:Zs k m) (hk:0<k):Qh m=k:=aL0 m 0 (fun q hq=>(h.2 q hq).1) (BG _) (by rw [h.1];exact hk)
theorem Zs.l64{k:Nat}{m:List (List Nat)} (h:Zs k m):∀q∈m,LP q:=fun q hq c hc=>Nat.lt_trans ((h.2 q hq).2 c hc) (by decide)
def aOM (k X:Nat) (f b:List (List Nat)):Dt:= .list (pds (List.zip (Ub f X) (Ub b X))) k
def aON (k X:Nat) (f b:List (List Nat)):Dt:= .list (pds (List.zip (Iy f X) (Iy b X))) k
def XL (k X:Nat) (fs bs:List (List (List Nat))):List Dt:=List.zipWith (aOM k X) fs bs
def XM (k X:Nat) (fs bs:List (List (List Nat))):List Dt:=List.zipWith (aON k X) fs bs
theorem aBU{α β γ:Type}{f:α->β->γ}{a:List α}{b:List β}{i:Nat} (h1:i<a.length) (h2:i<b.length):(List.zipWith f a b).take (i+1)=(List.zipWith f a b).take i++[f a[i] b[i]]:=by
 have hl:i<(List.zipWith f a b).length:=by rw [uM];omega
 rw [KM,aQ hl,Nm];rfl
theorem aQI{a b:Nat}{t:TypeId}{k:V->Prop} (h:a+b<18446744073709551616):aH PP .add t (nu a) (nu b) k=k (nu (a+b)):=by
 rw [KK];have:(Int.ofNat a+Int.ofNat b)=Int.ofNat (a+b):=by simp
 rw [this,wrap64,VJ h]
section
variable{M n:Nat}{x:VE}{S S0:Hp}{K:KV}{two:Bool}
theorem aBV (hx:Deep PP bI gM M (n+1) x) (hM:1000000<M){O1 O2z:Tag}{a b:List Nat}{k:Nat} (ha:a.length=k) (hb:b.length=k) (hl:k<1000) (hK:∀t,K (.list t (pds (List.zip a b)) k) S):x.call rO [.list O1 (jK a) k,.list O2z (jK b) k] S K:=by
 subst ha;exact aJe hx hM hb hl hK
theorem aJh (hM:1000000<M) (hx:Deep PP bI gM M (n+9) x){bp X k N:Nat}{SF SS:Hp}{v w vD t8:V}{fs bs:List (List (List Nat))} (hX:EY X) (hk:0<k) (vL:k<1000) (hlen:bs.length=fs.length) (RQ:fs.length<1000) (hf:∀m∈fs,Zs k m) (hb:∀m∈bs,Zs k m) (gv:GL 33 SF SS v (mD fs)) (gw:GL 33 SF SS w (mD bs)) (rp:SS bp=some (.row (pv two) 29)){m0:Nat}:
 ∀(r i m:Nat) (S:Hp) (u1 u2:V),i+r=fs.length->r<m->bO SS S->GL 82 SS S u1 ((XL k X fs bs).take i)->GL 82 SS S u2 ((XM k X fs bs).take i)->(∀j m m',u1= .acc j m->u2≠ .acc j m')->
  (∀m S u1 u2,bO SS S->GL 82 SS S u1 (XL k X fs bs)->GL 82 SS S u2 (XM k X fs bs)->(∀j m m',u1= .acc j m->u2≠ .acc j m')->cM x (m+1) m0 (ni N) (.ptr bp 0) t8 v w vD (nu X) u1 u2 (ni fs.length) (ni fs.length) S K)->
  cM x m m0 (ni N) (.ptr bp 0) t8 v w vD (nu X) u1 u2 (ni fs.length) (ni i) S K:=by
 have e1:(pv two)[1]? =some (nu 11):=rfl;intro r;induction r with
 | zero=>
  intro i m S u1 u2 hi hm le g1 g2 ap Ti;obtain⟨m,rfl⟩:=bG (show m≠0 by omega);have hrl:(XL k X fs bs).length=fs.length:=by unfold XL;rw [uM];omega
  have Hi:(XM k X fs bs).length=fs.length:=by unfold XM;rw [uM];omega
  rw [lQ (by omega)]at g1 g2;have ei:i=fs.length:=by omega
  subst ei;exact Ti m S u1 u2 le g1 g2 ap
 | succ r ih=>
  intro i m S u1 u2 hi hm le g1 g2 ap Ti;obtain⟨m,rfl⟩:=bG (show m≠0 by omega);rw [uI];unfold nN;refine aE ?_;have IW:i<fs.length:=by omega
  have hi2:i<bs.length:=by omega
  have sf:=hf _ (cK IW);have sb:=hb _ (cK hi2);obtain⟨p1,t1,ix1,lx1⟩:=(gv.up le).at (aBQ (aQ IW));obtain⟨p2,t2,ix2,lx2⟩:=(gw.up le).at (aBQ (aQ hi2));have rp':=le _ _ rp;have rl:∀{m:List (List Nat)},Zs k m->(Ub m X).length=k:=fun {m} h=>by unfold Ub;rw [lR,List.length_range,h.wide hk]
  have cl:∀{m:List (List Nat)},Zs k m->(Iy m X).length=k:=fun {m} h=>by unfold Iy;rw [lR,h.1]
  have br:∀{m:List (List Nat)} {O:Tag} {K:KV},Zs k m->(∀t,K (.list t (jK (Ub m X)) k) S)->x.call cL [.list O (dS m) m.length,nu X,nu 11] S K:=fun {m O K} h hK=>
   aOL (n:=n+1) hM hx hX h.l64 (by rw [h.1];omega) (h.wide hk) hk vL (fun i hi=>by rw [(h.2 _ (cK hi)).1];exact bR _) hK
  have bc:∀{m:List (List Nat)} {O:Tag} {K:KV},Zs k m->(∀t,K (.list t (jK (Iy m X)) k) S)->∀{S2:Hp},S2=S->x.call nM [.list O (dS m) m.length,nu X,nu 11] S2 K:=fun {m O K} h hK {S2} e=>by
   subst e;exact aJd (n:=n+5) hM hx hX h.l64 (by rw [h.1];omega) (fun q hq=>by rw [(h.2 q hq).1];omega) (by rw [h.1];exact hK)
  have ls:∀{t:Tag} {c:List Dt} {n:Nat} {q:Prop},aZ (.list t c n) (.list t c n) q=q:=fun {t c n q}=>cR rfl;rw [aN,wX IW,bQ,ix1,lx1 _ (.refl _),aU,cQ rp' e1,ix2,lx2 _ (.refl _),aU,cQ rp' e1];show x.call cL [.list t1 (dS fs[i]) fs[i].length,nu X,nu 11] S _;refine br sf fun t3=>?_;rw [cQ rp' e1,cS,lx2 _ (.refl _)];show aZ (.list t2 (dS bs[i]) bs[i].length) (.list t2 (dS bs[i]) bs[i].length) _;rw [ls];show x.call cL [.list t2 (dS bs[i]) bs[i].length,nu X,nu 11] S _;refine br sb fun t4=>?_;refine aBV (n:=n+8) hx hM (rl sf) (rl sb) vL fun t5=>?_;refine⟨yL rfl fun _ _=>trivial,?_⟩;have hr1:(XL k X fs bs).length=fs.length:=by unfold XL;rw [uM];omega
  have hc1:(XM k X fs bs).length=fs.length:=by unfold XM;rw [uM];omega
  refine g1.app (t:=t5) (d:=aOM k X fs[i] bs[i]) (z:= .slice none 0 0) (zv:= .nil) le (by rw [mP];omega) rfl (by decide) fun u3 S3 pR p3 o3 g3=>?_;have er:(XL k X fs bs).take i++[aOM k X fs[i] bs[i]]=(XL k X fs bs).take (i+1):=(aBU IW hi2).symm;have ec:(XM k X fs bs).take i++[aON k X fs[i] bs[i]]=(XM k X fs bs).take (i+1):=(aBU IW hi2).symm;rw [er]at g3;have g2':=g2.lT p3 fun j m m' e c=>ap j m' m c e
  have ap3:∀j m m',u3= .acc j m->u2≠ .acc j m':=fun j m m' e c=>by
   rcases o3 j m e with ⟨m2,e2⟩ | e2
   ·exact ap j m2 m' e2 c
   ·obtain⟨vs,n,e4⟩:=g2.there c
    rw [e2]at e4;cases e4
  clear br bc;obtain⟨p1,t1,ix1,lx1⟩:=(gv.up pR).at (aBQ (aQ IW));obtain⟨p2,t2,ix2,lx2⟩:=(gw.up pR).at (aBQ (aQ hi2));have Lk:=pR _ _ rp
  have bc:∀{m:List (List Nat)} {O:Tag} {K:KV},Zs k m->(∀t,K (.list t (jK (Iy m X)) k) S3)->x.call nM [.list O (dS m) m.length,nu X,nu 11] S3 K:=fun {m O K} h hK=>
   aJd (n:=n+5) hM hx hX h.l64 (by rw [h.1];omega) (fun q hq=>by rw [(h.2 q hq).1];omega) (by rw [h.1];exact hK)
  rw [ix1,lx1 _ (.refl _),aU,cQ Lk e1,ix2,lx2 _ (.refl _),aU,cQ Lk e1];show x.call nM [.list t1 (dS fs[i]) fs[i].length,nu X,nu 11] S3 _;refine bc sf fun t6=>?_;rw [cQ Lk e1,cS,lx2 _ (.refl _)];show aZ (.list t2 (dS bs[i]) bs[i].length) (.list t2 (dS bs[i]) bs[i].length) _;rw [ls];show x.call nM [.list t2 (dS bs[i]) bs[i].length,nu X,nu 11] S3 _;refine bc sb fun t7=>?_;refine aBV (n:=n+8) hx hM (cl sf) (cl sb) vL fun t8=>?_;refine⟨yL rfl fun _ _=>trivial,?_⟩;refine g2'.app (t:=t8) (d:=aON k X fs[i] bs[i]) (z:= .slice none 0 0) (zv:= .nil) pR (by rw [mP];omega) rfl (by decide) fun u4 S4 IY p4 o4 g4=>?_;rw [ec]at g4;have g3':=g3.lT p4 fun j m m' e c=>ap3 j m m' e c
  have ap4:∀j m m',u3= .acc j m->u4≠ .acc j m':=fun j m m' e c=>by
   rcases o4 j m' c with ⟨m2,e2⟩ | e2
   ·exact ap3 j m m2 e e2
   ·obtain⟨vs,n,e4⟩:=g3.there e
    rw [e2]at e4;cases e4
  rw [bE (by omega)];exact ih (i+1) m S4 u3 u4 (by omega) (by omega) IY g3' g4 ap4 Ti
end
set_option maxRecDepth 4000
def RS (k N:Nat) (fs bs:List (List (List Nat))):List (List Dt):=(List.range N).map fun i=>XL k (i+1) fs bs
def CS (k N:Nat) (fs bs:List (List (List Nat))):List (List Dt):=(List.range N).map fun i=>XM k (i+1) fs bs
theorem aL3 (k N:Nat) (fs bs:List (List (List Nat))):RS k (N+1) fs bs=RS k N fs bs++[XL k (N+1) fs bs]:=by unfold RS;rw [List.range_succ,RI];rfl
theorem aL4 (k N:Nat) (fs bs:List (List (List Nat))):CS k (N+1) fs bs=CS k N fs bs++[XM k (N+1) fs bs]:=by unfold CS;rw [List.range_succ,RI];rfl
section
variable{M n:Nat}{x:VE}{S S0:Hp}{K:KV}{two:Bool}{t d:Nat}{s:BitVec 64}{ah:List Nat}
theorem aJi (hM:1000000<M) (hx:Deep PP bI gM M (n+9) x){bp bd bS k N:Nat}{SF SB:Hp}{v w vm:V}{fs bs:List (List (List Nat))} (hk:0<k) (vL:k<1000) (hN:N<1000) (hlen:bs.length=fs.length) (RQ:fs.length<1000) (hf:∀m∈fs,Zs k m) (hb:∀m∈bs,Zs k m) (CU:fR vm=true) (nS:SB bS=none) (nd:SB bd=none) (oJ:bd≠bS)
 (hK:∀S' vr vc,bO SB S'->GG SB S' vr (RS k N fs bs)->GG SB S' vc (CS k N fs bs)->K (.tuple [.agg [vm,vr,vc],ni 0]) S'):
 ∀(r i m:Nat) (S:Hp) (vr vc:V),i+r=N->r<m->bO SB S->S bp=some (.row (pv two) 29)->S bd=some (.row [.nil,.nil,.nil] 79)->S bS=some (.row [vm,vr,vc] 79)->GL 33 SF S v (mD fs)->GL 33 SF S w (mD bs)->GG SB S vr (RS k i fs bs)->GG SB S vc (CS k i fs bs)->(∀j m m',vr= .acc j m->vc≠ .acc j m')->
  fZ x m (ni N) (.ptr bp 0) (.ptr bd 0) v w (.ptr bS 0) (nu (i+1)) S K:=by
 intro r;induction r with
 | zero=>
  intro i m S vr vc hi hm le rp rd rS gv gw gr gc ap;obtain⟨m,rfl⟩:=bG (show m≠0 by omega);rw [FF];unfold wB;refine aE ?_;have ei:i=N:=by omega
  subst ei;rw [Iq (by omega),aFb,bJ (by omega),aW,tC rS,dL (by simp)];show mL 3 (.ptr bd 0) (.agg [vm,vr,vc]) S _;refine gV (n:=3) rd (by simp [CU,gr.one,gc.one]) rfl rfl ?_;rw [tC (aC),dL (by simp)];refine aL (hK _ vr vc (fun j o e=>by rw [aB (fun c=>by rw [c,nd]at e;cases e)];exact le _ _ e) (gr.set rd fun vs e m c=>by cases c) (gc.set rd fun vs e m c=>by cases c))
 | succ r ih=>
  intro i m S vr vc hi hm le rp rd rS gv gw gr gc ap;obtain⟨m,rfl⟩:=bG (show m≠0 by omega);rw [FF];unfold wB;refine aE ?_;rw [Iq (by omega),aFb,bF (by omega),bQ,gv.len,SQ,hx.most];refine aJh (two:=two) (SF:=SF) (SS:=S) hM hx (show EY (i+1)from Nat.lt_of_le_of_lt (show i+1<=1000 by omega) (by decide)) hk vL hlen RQ hf hb gv gw rp fs.length 0 M S .nil .nil (by omega) (by omega) (.refl _) (by rw [List.take_zero];exact .nil) (by rw [List.take_zero];exact .nil) (fun j m m' e=>by cases e) fun m2 S2 u1 u2 fG g1 g2 ap2=>?_;rw [uI];unfold nN;refine aE ?_;have rS2:=fG _ _ rS;have sr:∀{q:Prop},aZ vr vr q=q:=fun {q}=>cR gr.same;have sc:∀{q:Prop},aZ vc vc q=q:=fun {q}=>cR gc.same;have a1:[vm,vr,vc][1]? =some vr:=rfl;have a2:[vm,vr,vc][2]? =some vc:=rfl;rw [aN,bJ (by omega),aW,aU,cQ rS2 a1,aU,cQ rS2 a2,cQ rS2 a2,sc,cQ rS2 a1,sr];refine⟨yL g1.one fun _ _=>trivial,yL g2.one fun _ _=>trivial,?_⟩;have leB:=le.trans fG;have gr2:=gr.up fG;have gc2:=gc.up fG;have g1B:=g1.base le;have g2B:=g2.base le;have hiR:(RS k i fs bs).length<=1000000:=by unfold RS;simp;omega
  have hiC:(CS k i fs bs).length<=1000000:=by unfold CS;simp;omega
  refine gr2.app leB hiR g1B fun vr3 S3 pR p3 o3 gr3=>?_
  have q3:∀{j:Nat} {o:Ob},S2 j=some o->(∀vs m,o≠ .fW vs 31 m)->S3 j=some o:=fun {j o} e xC=>p3 _ _ e fun m c=>by
   obtain⟨vs,n,e2⟩:=gr2.there c;rw [e]at e2;injection e2 with e2;exact xC _ _ e2
  have rS3:=q3 rS2 (fun vs m e=>by cases e);have gc3:GG SB S3 vc (CS k i fs bs):=gc2.lT p3 (fun j m e=>gr2.there e) fun j m m' e c=>ap j m' m c e;have g23:GL 82 SB S3 u2 (XM k (i+1) fs bs):=g2B.but fun j vs m e=>q3 e fun vs' m' c=>by injection c with _ c;cases c
  have ap3:∀j m m',vr3= .acc j m->vc≠ .acc j m':=fun j m m' e c=>by
   rcases o3 j m e with ⟨m2,e2⟩ | e2
   ·exact ap j m2 m' e2 c
   ·obtain⟨vs,n,e4⟩:=gc2.there c
    rw [e2]at e4;cases e4
  have gl3:∀{u:V} {ds:List Dt},GL 33 SF S u ds->GL 33 SF S3 u ds:=fun {u ds} g=>(g.up fG).but fun j vs m e=>q3 e fun vs' m' c=>by injection c with _ c;cases c
  rw [cQ rS3 a2,sc,aU,cQ rS3 a2,sc];refine⟨yL g2.one fun _ _=>trivial,?_⟩;refine gc3.app pR hiC g23 fun vc4 S4 IY p4 o4 gc4=>?_
  have q4:∀{j:Nat} {o:Ob},S3 j=some o->(∀vs m,o≠ .fW vs 31 m)->S4 j=some o:=fun {j o} e xC=>p4 _ _ e fun m c=>by
   obtain⟨vs,n,e2⟩:=gc3.there c;rw [e]at e2;injection e2 with e2;exact xC _ _ e2
  have rS4:=q4 rS3 (fun vs m e=>by cases e);have gr4:GG SB S4 vr3 (RS k i fs bs++[XL k (i+1) fs bs]):=gr3.lT p4 (fun j m e=>gc3.there e) fun j m m' e c=>ap3 j m m' e c
  have ap4:∀j m m',vr3= .acc j m->vc4≠ .acc j m':=fun j m m' e c=>by
   rcases o4 j m' c with ⟨m2,e2⟩ | e2
   ·exact ap3 j m m2 e e2
   ·obtain⟨vs,n,e4⟩:=gr3.there e
    rw [e2]at e4;cases e4
  have gl4:∀{u:V} {ds:List Dt},GL 33 SF S u ds->GL 33 SF S4 u ds:=fun {u ds} g=>(gl3 g).but fun j vs m e=>q4 e fun vs' m' c=>by injection c with _ c;cases c
  rw [DT rS4 (by simp) gr3.one,aU];have rS5:aK S4 bS (.row ([vm,vr,vc].set 1 vr3) 79) bS=some (.row [vm,vr3,vc] 79):=aC;rw [DT rS5 (by simp) gc4.one,dU,aQI (by omega)];rw [<-aL3]at gr4;rw [<-aL4]at gc4;have low:∀{j:Nat} {o:Ob},S j=some o->(∀vs m,o≠ .fW vs 31 m)->S4 j=some o:=fun {j o} e xC=>q4 (q3 (fG _ _ e) xC) xC;have hpS:bp≠bS:=fun c=>by rw [c,rS]at rp;injection rp with rp;injection rp with _ rp;cases rp
  refine ih (i+1) m (aK S4 bS (.row ([vm,vr3,vc].set 2 vc4) 79)) vr3 vc4 (by omega) (by omega) (fun j o e=>by rw [aB (fun c=>by rw [c,nS]at e;cases e)];exact IY _ _ e) ?_ ?_ aC ((gl4 gv).set rS4 fun vs m c=>by cases c) ((gl4 gw).set rS4 fun vs m c=>by cases c) (gr4.set rS4 fun vs e m c=>by cases c) (gc4.set rS4 fun vs e m c=>by cases c) ap4
  ·rw [aB hpS];exact low rp fun vs m c=>by cases c
  ·rw [aB oJ];exact low rd fun vs m c=>by cases c
theorem Wb{n:Nat}{l:List Nat} (h:l.length=n*n) (hl:∀c∈l,c<11):Zs n (AG n l):=by
 refine⟨Iw _ _,fun q hq=>?_⟩;unfold AG at hq;obtain⟨i,hi,rfl⟩:=List.mem_map.1 hq;have hi:=List.mem_range.1 hi;refine⟨?_,fun c hc=>hl c (Hn (Hm hc))⟩;rw [mP,IG,h];have:(i+1)*n<=n*n:=RG _ hi;rw [Bs]at this;omega
theorem aJj{n Q:Nat} (hQ:Q+1=n*n):∀(l:List (Nat×Nat)) (D:List Nat),(Q+Q)*l.length<=D.length->(∀c∈D,c<11)->(∀m∈fM n Q l D,Zs n m)/\∀m∈bM n Q l D,Zs n m:=by
 intro l;induction l with
 | nil=>
  intro D _ _;constructor
  ·intro m h;cases h
  ·intro m h;cases h
 | cons p l ih=>
  intro D hD hc;rw [oU,Bt]at hD;obtain⟨h1,h2⟩:=ih (D.drop (Q+Q)) (by rw [IG];omega) (fun c h=>hc c (Hn h));refine⟨fun m hm=>?_,fun m hm=>?_⟩
  ·rw [aFk]at hm
   rcases List.mem_cons.1 hm with rfl | hm
   ·refine Wb (by rw [oU,mP];omega) fun c h=>?_
    rcases List.mem_cons.1 h with rfl | h
    ·exact iY _ (by decide)
    ·exact hc c (Hm h)
   ·exact h1 m hm
  ·rw [aFl]at hm
   rcases List.mem_cons.1 hm with rfl | hm
   ·refine Wb (by rw [oU,mP,IG];omega) fun c h=>?_
    rcases List.mem_cons.1 h with rfl | h
    ·exact iY _ (by decide)
    ·exact hc c (Hn (Hm h))
   ·exact h2 m hm
theorem Zs.sq{k:Nat} (hk:k<1000){f b:List (List Nat)} (h1:Zs k f) (h2:Zs k b):Sq f b:=
 ⟨h1.l64,h2.l64,fun q hq=>by rw [(h1.2 q hq).1];omega,by rw [h1.1];omega,by rw [h1.1,h2.1],fun i a b=>by rw [(h1.2 _ (cK a)).1,(h2.2 _ (cK b)).1]⟩
def fT (two:Bool) (L:List (Nat×Nat)) (D:List Nat):List (List (List Nat)):=fM (tT two+1) (tQ two) L D
def bT (two:Bool) (L:List (Nat×Nat)) (D:List Nat):List (List (List Nat)):=bM (tT two+1) (tQ two) L D
end
set_option maxRecDepth 4000
def zN (ls:List (List Nat)) (i:Nat):List Nat:=ls.map fun l=>atG l i
section
variable{M n:Nat}{x:VE}{S S0:Hp}{K:KV}{two:Bool}
theorem aHj (hM:1000000<M) (hx:Deep PP bI gM M (n+4) x){O:Tag}{ls:List (List Nat)}{b i0:Nat} (hi0:EY i0) (UX:∀c∈ls,LP c/\c.length<1000000) (hl:ls.length<1000000){SB:Hp} (hB:bO S SB) (rb:SB b=some (.row (pv two) 29))
 (hK:∀O,K (.list O (jK (zN ls i0)) (zN ls i0).length) S):
 ∀(r i m:Nat) (u:V) (acc:List Nat) (S1:Hp),bO SB S1->MN SB S1 u acc->i+r=ls.length->r<m->acc++zN (ls.drop i) i0=zN ls i0->lH x m (nu i0) (.ptr b 0) u (.list O (dS ls) ls.length) (ni ls.length) (ni i) S1 K:=by
 intro r;induction r with
 | zero=>
  intro i m u acc S1 hs CU hi hm he;obtain⟨m,rfl⟩:=bG (show m≠0 by omega);rw [CM];unfold tR;refine aE ?_;rw [aN,iN (by omega),aW];rw [oS (by omega)]at he;have he:acc=zN ls i0:=by simpa [zN]using he
  subst he;exact gJ (hB.trans hs) (CU.base hB).Cm hK
 | succ r ih=>
  intro i m u acc S1 hs CU hi hm he;obtain⟨m,rfl⟩:=bG (show m≠0 by omega);rw [CM];unfold tR;refine aE ?_;have hlt:i<ls.length:=by omega
  have hv:RL S1 S1 (.list O (dS ls) ls.length) ls:= .val;obtain⟨q,w,hq,RD,hw⟩:=hv.at (i:=i) (aQ hlt);rw [aN,wX hlt,bQ,hq,RD S1 (.refl S1),lC (hs _ _ rb)];have LG:=UX _ (cK hlt);refine aSG (two:=two) hM hx hi0 hw.nv LG.1 LG.2 ?_
  have ha:acc.length<=ls.length:=by
   have:=iZ List.length he;simp [zN]at this;omega
  refine CU.app hs (by omega) fun u2 S2 tZ _ YR=>?_;rw [bE (by omega)];refine ih (i+1) m u2 _ S2 tZ YR (by omega) (by omega) ?_;rw [lP hlt]at he;rw [<-he,BE];rfl
theorem aCu (hM:1000000<M) (hx:Deep PP bI gM M (n+5) x){O:Tag}{ls:List (List Nat)}{i0:Nat} (hi0:EY i0) (UX:∀c∈ls,LP c/\c.length<1000000) (hl:ls.length<1000000)
 (hK:∀O,K (.list O (jK (zN ls i0)) (zN ls i0).length) S):x.call pJ [.agg (pv two),.list O (dS ls) ls.length,nu i0] S K:=by
 refine hx.call rfl fun y hy=>?_;rw [Ji];unfold QV;refine cA jV fun b hb=>?_;show lH y y.most (nu i0) (.ptr b 0) .nil (.list O (dS ls) ls.length) (ni ls.length) (ni 0) _ K;rw [hy.most];exact aHj (two:=two) hM hy hi0 UX hl (.aI hb) aC hK ls.length 0 M .nil [] _ (.refl _) .nil (by omega) (by omega) (by simp)
theorem NL.base{S0 S1 S:Hp}{w:V}{l:List Nat} (h:NL S1 S w l) (hle:bO S0 S1):NL S0 S w l:=by
 cases h with
 | val=>exact .val
 | made h=>exact .made (h.base hle)
def KB (ms:List (List (List Nat))) (i:Nat):List (List Nat):=ms.map fun ls=>zN ls i
theorem aMI (hM:1000000<M) (hx:Deep PP bI gM M (n+5) x){O:Tag}{ms:List (List (List Nat))}{b i0:Nat} (hi0:EY i0) (UX:∀ls∈ms,(∀c∈ls,LP c/\c.length<1000000)/\ls.length<1000000) (hl:ms.length<1000000){SB:Hp} (hB:bO S SB) (rb:SB b=some (.row (pv two) 29))
 (hK:∀O,K (.list O (dS (KB ms i0)) (KB ms i0).length) S):
 ∀(r i m:Nat) (u:V) (acc:List (List Nat)) (S1:Hp),bO SB S1->ML SB S1 u acc->i+r=ms.length->r<m->acc++KB (ms.drop i) i0=KB ms i0->jW x m (nu i0) (.ptr b 0) u (.list O (mD ms) ms.length) (ni ms.length) (ni i) S1 K:=by
 intro r;induction r with
 | zero=>
  intro i m u acc S1 hs CU hi hm he;obtain⟨m,rfl⟩:=bG (show m≠0 by omega);rw [yW];unfold qU;refine aE ?_;rw [aN,iN (by omega),aW];rw [oS (by omega)]at he;have he:acc=KB ms i0:=by simpa [KB]using he
  subst he;exact gJ (hB.trans hs) (CU.base hB).Cm hK
 | succ r ih=>
  intro i m u acc S1 hs CU hi hm he;obtain⟨m,rfl⟩:=bG (show m≠0 by omega);rw [yW];unfold qU;refine aE ?_;have hlt:i<ms.length:=by omega
  have RE:(mD ms)[i*1]? =some (.list (dS ms[i]) ms[i].length):=by rw [jL];unfold mD;rw [dO,aQ hlt];rfl
  rw [aN,wX hlt,bQ,fH hlt,sJ,cI RE,lC (hs _ _ rb)];have LG:=UX _ (cK hlt);refine aCu (two:=two) hM hx hi0 LG.1 LG.2 fun t2=>?_
  have ha:acc.length<=ms.length:=by
   have:=iZ List.length he;simp [KB]at this;omega
  refine CU.app hs (by omega) (.val (l:=zN ms[i] i0)) fun u2 S2 tZ vL YR _=>?_;rw [bE (by omega)];refine ih (i+1) m u2 _ S2 tZ YR (by omega) (by omega) ?_;rw [lP hlt]at he;rw [<-he,BE];rfl
theorem aO1 (hM:1000000<M) (hx:Deep PP bI gM M (n+6) x){O:Tag}{ms:List (List (List Nat))}{i0:Nat} (hi0:EY i0) (UX:∀ls∈ms,(∀c∈ls,LP c/\c.length<1000000)/\ls.length<1000000) (hl:ms.length<1000000)
 (hK:∀O,K (.list O (dS (KB ms i0)) (KB ms i0).length) S):x.call vG [.agg (pv two),.list O (mD ms) ms.length,nu i0] S K:=by
 refine hx.call rfl fun y hy=>?_;rw [Dg];unfold MO;refine cA jV fun b hb=>?_;show jW y y.most (nu i0) (.ptr b 0) .nil (.list O (mD ms) ms.length) (ni ms.length) (ni 0) _ K;rw [hy.most];exact aMI (two:=two) hM hy hi0 UX hl (.aI hb) aC hK ms.length 0 M .nil [] _ (.refl _) .nil (by omega) (by omega) (by simp)
end
end Go.Am
set_option maxRecDepth 100000
namespace Go.Am
def pW (x:VE) (m:Nat) (t2 t3 t10 t11:V) (S:Hp) (K:KV):Prop:=dG PP bI NZ x [.r,.r,.r,.l,.r,.d] m [] [t2,t3,t10,t11] S K
def Kp (x:VE) (a0:V) (S:Hp) (K:KV):Prop:=
 iD 29 a0 S fun v0 S=>
 cW wC 36 S fun v1 S=>
 bN 12 v0 S fun v2 S=>
 x.call uG [v2] S fun v3 S=>
 SO .not v3 fun v4=>
 fS v4 (cV wC [] fun v5=>mL 5 v1 v5 S fun S=>bN 5 v1 S fun v6 _=>bD v6 S K) (cW wC 36 S fun v7 S=>aP 5 v0 fun v8=>aT v8 S fun v9 S=>pW x x.most v1 v7 v9 (.int .i64 (.ofNat 0)) S K)
theorem aBX (x:VE) (a0:V) (S:Hp) (K:KV):jI PP bI NZ x [a0] S K=Kp x a0 S K:=by kernel_rfl
def zM (x:VE) (m0:Nat) (t2 t3 t10 t11:V) (S:Hp) (K:KV):Prop:=
 cH S fun S=>
 aH PP .lss 3 t11 t10 fun v0=>
 fS v0 (aP 1 t3 fun v1=>aT v1 S fun v2 S=>aH PP .add 3 t11 (.int .i64 (.ofNat 1)) fun v3=>aS 3 1 IT [(0,1,v3)] S fun v4 S=>jT 3 1 8 v2 v4 S fun v5 S=>aP 1 t3 fun v6=>mL 1 v6 v5 S fun S=>aH PP .add 3 t11 (.int .i64 (.ofNat 1)) fun v7=>pW x m0 t2 t3 t10 v7 S K) (bN 5 t3 S fun v8 S=>mL 5 t2 v8 S fun S=>bN 5 t2 S fun v9 _=>bD v9 S K)
theorem JC (x:VE) (m0:Nat) (t2 t3 t10 t11:V) (S:Hp) (K:KV):pW x (m0+1) t2 t3 t10 t11 S K=zM x m0 t2 t3 t10 t11 S K:=by kernel_rfl
def OI (x:VE) (a0 a1:V) (S:Hp) (K:KV):Prop:=
 iD 29 a0 S fun v0 S=>
 x.call dW [a1] S fun v1 S=>
 x.call lA [v1] S fun v2 S=>
 bH a1 fun v3=>
 aP 5 v0 fun v4=>
 aT v4 S fun v5 S=>
 aH PP .eql 3 v3 v5 fun v6=>
 gK x true v6 v1 S fun v7 S=>gP x true v6 (aP 5 v0) S fun v9 S=>gL x true v6 (aT v9 S) S fun v11 S=>gL x true v6 (x.call cY [v7] S) S fun sO S=>gC x true v6 v11 v9 S (aT v4 S fun AM _=>aZ AM v5 (gP x true v6 (bH sO) S fun rQ S=>gP x true v6 (aH PP .eql 3 rQ v11) S fun wZ S=>gQ x v6 wZ (.bool false) fun v20=>gK x true v20 a1 S fun v21 S=>gK x true v20 (.func zX [] [v0]) S fun MY S=>gL x true v20 (x.call gG [v21,MY] S) S fun v24 S=>gC x true v6 v11 v9 S (aT v4 S fun ZS _=>aZ ZS v5 (gP x true v20 (SO .not v24) S fun v28 S=>gQ x v20 v28 (.bool false) fun v29=>bD v29 S K))))
theorem Gw (x:VE) (a0 a1:V) (S:Hp) (K:KV):jI PP bI EL x [a0,a1] S K=OI x a0 a1 S K:=by kernel_rfl
def JL (x:VE) (a0 a1:V) (S:Hp) (K:KV):Prop:=
 aH PP .lss 3 a0 (.int .i64 (.ofNat 1)) fun v0=>
 gK x false v0 a0 S fun v1 S=>gP x false v0 (aP 4 a1) S fun v3 S=>gL x false v0 (aT v3 S) S fun v5 S=>gP x false v0 (aH PP .gtr 3 v1 v5) S fun v7 S=>gQ x v0 (.bool true) v7 fun v8=>bD v8 S K
theorem ZT (x:VE) (a0 a1:V) (S:Hp) (K:KV):jI PP bI zX x [a0,a1] S K=JL x a0 a1 S K:=by kernel_rfl
def qC (x:VE) (m:Nat) (t1 t2 t3 t7 t8 t9:V) (S:Hp) (K:KV):Prop:=dG PP bI KF x [.r,.r,.l,.r,.d] m [] [t1,t2,t3,t7,t8,t9] S K
def Gy (x:VE) (a0:V) (S:Hp) (K:KV):Prop:=
 iD 36 a0 S fun v0 S=>
 cW wC 36 S fun v1 S=>
 aP 2 v0 fun v2=>
 aT v2 S fun v3 S=>
 bH v3 fun v4=>
 qC x x.most v0 v1 .nil v3 v4 (.int .i64 (.ofNat 0)) S K
theorem aAA (x:VE) (a0:V) (S:Hp) (K:KV):jI PP bI KF x [a0] S K=Gy x a0 S K:=by kernel_rfl
def zY (x:VE) (m0:Nat) (t1 t2 t3 t7 t8 t9:V) (S:Hp) (K:KV):Prop:=
 cH S fun S=>
 aH PP .lss 3 t9 t8 fun v0=>
 fS v0 (cF 1 t7 t9 fun v1=>aT v1 S fun v2 S=>x.call cE [v2] S fun v3 S=>aS 51 1 cU [(0,1,v3)] S fun v4 S=>jT 51 1 24 t3 v4 S fun v5 S=>aH PP .add 3 t9 (.int .i64 (.ofNat 1)) fun v6=>qC x m0 t1 t2 v5 t7 t8 v6 S K) (aP 0 t1 fun v7=>aT v7 S fun v8 S=>aP 1 t1 fun v9=>aT v9 S fun v10 S=>aP 3 t1 fun v11=>aT v11 S fun v12 S=>aP 4 t1 fun sO=>aT sO S fun sS S=>x.call dW [v10] S fun AM S=>aT sO S fun wU _=>aZ wU sS (aT v11 S fun rQ _=>aZ rQ v12 (aT v7 S fun yE _=>aZ yE v8 (x.call dW [v12] S fun wZ S=>aT sO S fun v20 _=>aZ v20 sS (aT v7 S fun v21 _=>aZ v21 v8 (x.call EN [sS] S fun MY S=>aT v7 S fun FI _=>aZ FI v8 (cV wC [(0,1,v8),(1,1,AM),(2,1,t3),(3,1,wZ),(4,1,MY)] fun v24=>mL 5 t2 v24 S fun S=>bN 5 t2 S fun TE _=>bD TE S K)))))))
theorem JN (x:VE) (m0:Nat) (t1 t2 t3 t7 t8 t9:V) (S:Hp) (K:KV):qC x (m0+1) t1 t2 t3 t7 t8 t9 S K=zY x m0 t1 t2 t3 t7 t8 t9 S K:=by kernel_rfl
def Ax (x:VE) (a0:V) (S:Hp) (K:KV):Prop:=
 Gk S fun v0 S=>
 cV [.nilFunc,(.int .i64 (.ofNat 0))] [(0,1,(.func AU [] [])),(1,1,(.int .i64 (.ofNat 7)))] fun v1=>
 cV [.nilFunc,(.int .i64 (.ofNat 0))] [(0,1,(.func AV [] [])),(1,1,(.int .i64 (.ofNat 4)))] fun v2=>
 aS 92 2 [.nilFunc,(.int .i64 (.ofNat 0))] [(0,2,v1),(2,2,v2)] S fun v3 S=>
 zT (.one (.int .u8)) v0 (.int .u8 (.ofNat 1)) v3 S fun S=>
 cV [.nilFunc,(.int .i64 (.ofNat 0))] [(0,1,(.func rD [] [])),(1,1,(.int .i64 (.ofNat 7)))] fun v4=>
 aS 92 1 [.nilFunc,(.int .i64 (.ofNat 0))] [(0,2,v4)] S fun v5 S=>
 zT (.one (.int .u8)) v0 (.int .u8 (.ofNat 2)) v5 S fun S=>
 cV [.nilFunc,(.int .i64 (.ofNat 0))] [(0,1,(.func rD [] [])),(1,1,(.int .i64 (.ofNat 7)))] fun v6=>
 cV [.nilFunc,(.int .i64 (.ofNat 0))] [(0,1,(.func AW [] [])),(1,1,(.int .i64 (.ofNat 7)))] fun v7=>
 cV [.nilFunc,(.int .i64 (.ofNat 0))] [(0,1,(.func AX [] [])),(1,1,(.int .i64 (.ofNat 4)))] fun v8=>
 aS 92 3 [.nilFunc,(.int .i64 (.ofNat 0))] [(0,2,v6),(2,2,v7),(4,2,v8)] S fun v9 S=>
 zT (.one (.int .u8)) v0 (.int .u8 (.ofNat 3)) v9 S fun S=>
 cV [.nilFunc,(.int .i64 (.ofNat 0))] [(0,1,(.func AY [] [])),(1,1,(.int .i64 (.ofNat 7)))] fun v10=>
 cV [.nilFunc,(.int .i64 (.ofNat 0))] [(0,1,(.func nP [] [])),(1,1,(.int .i64 (.ofNat 4)))] fun v11=>
 cV [.nilFunc,(.int .i64 (.ofNat 0))] [(0,1,(.func iA [] [])),(1,1,(.int .i64 (.ofNat 21)))] fun v12=>
 aS 92 3 [.nilFunc,(.int .i64 (.ofNat 0))] [(0,2,v10),(2,2,v11),(4,2,v12)] S fun sO S=>
 zT (.one (.int .u8)) v0 (.int .u8 (.ofNat 4)) sO S fun S=>
 Qt (.one (.int .u8)) .nil false v0 a0 S fun sS S=>
 bD sS S K
theorem Uk (x:VE) (a0:V) (S:Hp) (K:KV):jI PP bI PH x [a0] S K=Ax x a0 S K:=by kernel_rfl
def UD (x:VE) (a0:V) (S:Hp) (K:KV):Prop:=
 iD 86 a0 S fun v0 S=>
 aP 12 v0 fun v1=>
 aP 0 v1 fun v2=>
 aT v2 S fun v3 S=>
 aH PP .eql 3 v3 (.int .i64 (.ofNat 0)) fun v4=>
 bD v4 S K
theorem Lt (x:VE) (a0:V) (S:Hp) (K:KV):jI PP bI AU x [a0] S K=UD x a0 S K:=by kernel_rfl
def UE (x:VE) (a0:V) (S:Hp) (K:KV):Prop:=
 iD 86 a0 S fun v0 S=>
 aP 12 v0 fun v1=>
 aP 0 v1 fun v2=>
 aT v2 S fun v3 S=>
 aH PP .gtr 3 v3 (.int .i64 (.ofNat 0)) fun v4=>
 bD v4 S K
theorem Lu (x:VE) (a0:V) (S:Hp) (K:KV):jI PP bI rD x [a0] S K=UE x a0 S K:=by kernel_rfl
def UF (x:VE) (a0:V) (S:Hp) (K:KV):Prop:=
 iD 86 a0 S fun v0 S=>
 aP 12 v0 fun v1=>
 aP 3 v1 fun v2=>
 aT v2 S fun v3 S=>
 bH v3 fun v4=>
 aH PP .eql 3 v4 (.int .i64 (.ofNat 0)) fun v5=>
 gP x true v5 (aP 17 v0) S fun v7 S=>gP x true v5 (aP 2 v7) S fun v9 S=>gL x true v5 (aT v9 S) S fun v11 S=>gP x true v5 (aP 12 v0) S fun sO S=>gP x true v5 (aP 0 sO) S fun AM S=>gL x true v5 (aT AM S) S fun rQ S=>gP x true v5 (aH PP .eql 3 v11 rQ) S fun wZ S=>gQ x v5 wZ (.bool false) fun v20=>bD v20 S K
theorem Lv (x:VE) (a0:V) (S:Hp) (K:KV):jI PP bI AW x [a0] S K=UF x a0 S K:=by kernel_rfl
def UG (x:VE) (a0:V) (S:Hp) (K:KV):Prop:=
 iD 86 a0 S fun v0 S=>
 aP 12 v0 fun v1=>
 aP 3 v1 fun v2=>
 aT v2 S fun v3 S=>
 bH v3 fun v4=>
 aH PP .gtr 3 v4 (.int .i64 (.ofNat 0)) fun v5=>
 gP x true v5 (aP 17 v0) S fun v7 S=>gP x true v5 (aP 2 v7) S fun v9 S=>gL x true v5 (aT v9 S) S fun v11 S=>gP x true v5 (aP 12 v0) S fun sO S=>gP x true v5 (aP 0 sO) S fun AM S=>gL x true v5 (aT AM S) S fun rQ S=>gP x true v5 (aH PP .eql 3 v11 rQ) S fun wZ S=>gQ x v5 wZ (.bool false) fun v20=>bD v20 S K
theorem Lw (x:VE) (a0:V) (S:Hp) (K:KV):jI PP bI AY x [a0] S K=UG x a0 S K:=by kernel_rfl
def UH (x:VE) (a0:V) (S:Hp) (K:KV):Prop:=
 iD 86 a0 S fun v0 S=>
 aP 0 v0 fun v1=>
 bN 12 v1 S fun v2 S=>
 aP 17 v0 fun v3=>
 aP 4 v3 fun v4=>
 aT v4 S fun v5 S=>
 x.call wS [v2,v5] S fun v6 S=>
 bD v6 S K
theorem Lx (x:VE) (a0:V) (S:Hp) (K:KV):jI PP bI AV x [a0] S K=UH x a0 S K:=by kernel_rfl
def UJ (x:VE) (a0:V) (S:Hp) (K:KV):Prop:=
 iD 86 a0 S fun v0 S=>
 aP 0 v0 fun v1=>
 bN 12 v1 S fun v2 S=>
 aP 17 v0 fun v3=>
 aP 5 v3 fun v4=>
 aT v4 S fun v5 S=>
 x.call EL [v2,v5] S fun v6 S=>
 bD v6 S K
theorem Mb (x:VE) (a0:V) (S:Hp) (K:KV):jI PP bI AX x [a0] S K=UJ x a0 S K:=by kernel_rfl
def iS (x:VE) (m:Nat) (t1 t3 t8 t9 t10:V) (S:Hp) (K:KV):Prop:=dG PP bI nP x [.r,.r,.l,.r,.d] m [] [t1,t3,t8,t9,t10] S K
def IA (x:VE) (a0:V) (S:Hp) (K:KV):Prop:=
 iD 86 a0 S fun v0 S=>
 aP 17 v0 fun v1=>
 aP 6 v1 fun v2=>
 aT v2 S fun v3 S=>
 bH v3 fun v4=>
 iS x x.most v0 (.int .i64 (.ofNat 0)) v3 v4 (.int .i64 (.ofNat 0)) S K
theorem YE (x:VE) (a0:V) (S:Hp) (K:KV):jI PP bI nP x [a0] S K=IA x a0 S K:=by kernel_rfl
def pB (x:VE) (m0:Nat) (t1 t3 t8 t9 t10:V) (S:Hp) (K:KV):Prop:=
 cH S fun S=>
 aH PP .lss 3 t10 t9 fun v0=>
 fS v0 (cF 2 t8 t10 fun v1=>bN 2 v1 S fun v2 S=>cW uZ 68 S fun v3 S=>mL 2 v3 v2 S fun S=>aP 0 v3 fun v4=>aT v4 S fun v5 S=>aH PP .leq 3 v5 t3 fun v6=>gP x false v6 (aP 0 v3) S fun v8 S=>gL x false v6 (aT v8 S) S fun v10 S=>gP x false v6 (aP 0 t1) S fun v12 S=>gP x false v6 (aP 5 v12) S fun sS S=>gL x false v6 (aT sS S) S fun wU S=>gP x false v6 (aH PP .gtr 3 v10 wU) S fun yE S=>gQ x v6 (.bool true) yE fun wZ=>gP x false wZ (aP 0 t1) S fun v21 S=>gL x false wZ (bN 12 v21 S) S fun FI S=>gP x false wZ (aP 1 v3) S fun TE S=>gL x false wZ (aT TE S) S fun Cs S=>gL x false wZ (x.call wS [FI,Cs] S) S fun v29 S=>gP x false wZ (SO .not v29) S fun v31 S=>gQ x wZ (.bool true) v31 fun Um=>fS Um (bD (.bool false) S K) (aP 0 v3 fun Sv=>aT Sv S fun Un S=>aH PP .add 3 t10 (.int .i64 (.ofNat 1)) fun Rz=>iS x m0 t1 Un t8 t9 Rz S K)) (aP 17 t1 fun Lz=>aP 6 Lz fun v37=>aT v37 S fun Gg S=>bH Gg fun Cv=>aP 0 t1 fun v40=>aP 6 v40 fun v41=>aT v41 S fun Ma S=>aH PP .add 3 Ma (.int .i64 (.ofNat 1)) fun v43=>aH PP .eql 3 Cv v43 fun v44=>bD v44 S K)
theorem wV (x:VE) (m0:Nat) (t1 t3 t8 t9 t10:V) (S:Hp) (K:KV):iS x (m0+1) t1 t3 t8 t9 t10 S K=pB x m0 t1 t3 t8 t9 t10 S K:=by kernel_rfl
def dZ (x:VE) (m:Nat) (t1 t10 t11 t12:V) (S:Hp) (K:KV):Prop:=dG PP bI iA x [.r,.l,.r,.d] m [] [t1,t10,t11,t12] S K
def bX (x:VE) (m:Nat) (m0:Nat) (t1 t4 t5 t10 t11 t12 t17 VC t19:V) (S:Hp) (K:KV):Prop:=dG PP bI iA x [.r,.l,.r,.d,.d,.r,.r,.l,.d,.r,.r,.l,.r,.d] m [m0] [t1,t4,t5,t10,t11,t12,t17,VC,t19] S K
def JR (x:VE) (a0:V) (S:Hp) (K:KV):Prop:=
 iD 86 a0 S fun v0 S=>
 aP 17 v0 fun v1=>
 aP 6 v1 fun v2=>
 aT v2 S fun v3 S=>
 bH v3 fun v4=>
 dZ x x.most v0 v3 v4 (.int .i64 (.ofNat 0)) S K
theorem ZW (x:VE) (a0:V) (S:Hp) (K:KV):jI PP bI iA x [a0] S K=JR x a0 S K:=by kernel_rfl
def rA (x:VE) (m:Nat) (t1 t10 t11 t12:V) (S:Hp) (K:KV):Prop:=aAz PP bI iA x [.r,.l,.r,.d] m [] [t1,t10,t11,t12] S K
theorem MU (x:VE) (m:Nat) (t1 t10 t11 t12:V) (S:Hp) (K:KV):dZ x m t1 t10 t11 t12 S K=rA x m t1 t10 t11 t12 S K:=by kernel_rfl
def eA (x:VE) (m:Nat) (m0:Nat) (t1 t4 t5 t10 t11 t12 t17 VC t19:V) (S:Hp) (K:KV):Prop:=aAz PP bI iA x [.r,.l,.r,.d,.d,.r,.r,.l,.d,.r,.r,.l,.r,.d] m [m0] [t1,t4,t5,t10,t11,t12,t17,VC,t19] S K
theorem oR (x:VE) (m:Nat) (m0:Nat) (t1 t4 t5 t10 t11 t12 t17 VC t19:V) (S:Hp) (K:KV):bX x m m0 t1 t4 t5 t10 t11 t12 t17 VC t19 S K=eA x m m0 t1 t4 t5 t10 t11 t12 t17 VC t19 S K:=by kernel_rfl
def rB (x:VE) (m0:Nat) (t1 t10 t11 t12:V) (S:Hp) (K:KV):Prop:=
 cH S fun S=>
 aH PP .lss 3 t12 t11 fun v0=>
 fS v0 (cF 2 t10 t12 fun v1=>bN 2 v1 S fun v2 S=>cW uZ 68 S fun v3 S=>mL 2 v3 v2 S fun S=>aP 1 v3 fun v4=>aT v4 S fun v5 S=>bH v5 fun v6=>bX x x.most m0 t1 v3 .nil t10 t11 t12 v5 v6 (.int .i64 (.ofNat 0)) S K) (bD (.bool true) S K)
def MV (lp:VE->Nat->Nat->V->V->V->V->V->V->V->V->V->Hp->KV->Prop) (x:VE) (m0:Nat) (t1 t10 t11 t12:V) (S:Hp) (K:KV):Prop:=
 cH S fun S=>
 aH PP .lss 3 t12 t11 fun v0=>
 fS v0 (cF 2 t10 t12 fun v1=>bN 2 v1 S fun v2 S=>cW uZ 68 S fun v3 S=>mL 2 v3 v2 S fun S=>aP 1 v3 fun v4=>aT v4 S fun v5 S=>bH v5 fun v6=>lp x x.most m0 t1 v3 .nil t10 t11 t12 v5 v6 (.int .i64 (.ofNat 0)) S K) (bD (.bool true) S K)
theorem yZ (x:VE) (m0:Nat) (t1 t10 t11 t12:V) (S:Hp) (K:KV):dZ x (m0+1) t1 t10 t11 t12 S K=rB x m0 t1 t10 t11 t12 S K:=by
 have h1:dZ x (m0+1) t1 t10 t11 t12 S K=MV eA x m0 t1 t10 t11 t12 S K:=by kernel_rfl
 have h2:bX=eA:=by funext x m m0 t1 t4 t5 t10 t11 t12 t17 VC t19 S K;exact oR ..
 rw [h1,<-h2];rfl
def kE (x:VE) (m1:Nat) (m0:Nat) (t1 t4 t5 t10 t11 t12 t17 VC t19:V) (S:Hp) (K:KV):Prop:=
 cH S fun S=>
 aH PP .lss 3 t19 VC fun v0=>
 fS v0 (cF 1 t17 t19 fun v1=>aT v1 S fun v2 S=>cF 1 v2 (.int .i64 (.ofNat 0)) fun v3=>aT v3 S fun v4 S=>aS 22 1 iC [(0,1,v4)] S fun v5 S=>jT 22 1 8 t5 v5 S fun v6 S=>aH PP .add 3 t19 (.int .i64 (.ofNat 1)) fun v7=>bX x m1 m0 t1 t4 v6 t10 t11 t12 t17 VC v7 S K) (aP 0 t1 fun v8=>bN 12 v8 S fun v9 S=>aP 12 t1 fun v10=>aP 2 v10 fun v11=>aT v11 S fun v12 S=>aP 0 t4 fun sO=>aT sO S fun sS S=>LS .u64 sS fun AM=>x.call pJ [v9,v12,AM] S fun wU S=>x.call eU [t5,wU] S fun rQ S=>SO .not rQ fun yE=>fS yE (bD (.bool false) S K) (aH PP .add 3 t12 (.int .i64 (.ofNat 1)) fun wZ=>dZ x m0 t1 t10 t11 wZ S K))
def AC (lo:VE->Nat->V->V->V->V->Hp->KV->Prop) (li:VE->Nat->Nat->V->V->V->V->V->V->V->V->V->Hp->KV->Prop) (x:VE) (m1:Nat) (m0:Nat) (t1 t4 t5 t10 t11 t12 t17 VC t19:V) (S:Hp) (K:KV):Prop:=
 cH S fun S=>
 aH PP .lss 3 t19 VC fun v0=>
 fS v0 (cF 1 t17 t19 fun v1=>aT v1 S fun v2 S=>cF 1 v2 (.int .i64 (.ofNat 0)) fun v3=>aT v3 S fun v4 S=>aS 22 1 iC [(0,1,v4)] S fun v5 S=>jT 22 1 8 t5 v5 S fun v6 S=>aH PP .add 3 t19 (.int .i64 (.ofNat 1)) fun v7=>li x m1 m0 t1 t4 v6 t10 t11 t12 t17 VC v7 S K) (aP 0 t1 fun v8=>bN 12 v8 S fun v9 S=>aP 12 t1 fun v10=>aP 2 v10 fun v11=>aT v11 S fun v12 S=>aP 0 t4 fun sO=>aT sO S fun sS S=>LS .u64 sS fun AM=>x.call pJ [v9,v12,AM] S fun wU S=>x.call eU [t5,wU] S fun rQ S=>SO .not rQ fun yE=>fS yE (bD (.bool false) S K) (aH PP .add 3 t12 (.int .i64 (.ofNat 1)) fun wZ=>lo x m0 t1 t10 t11 wZ S K))
theorem pG (x:VE) (m1:Nat) (m0:Nat) (t1 t4 t5 t10 t11 t12 t17 VC t19:V) (S:Hp) (K:KV):bX x (m1+1) m0 t1 t4 t5 t10 t11 t12 t17 VC t19 S K=kE x m1 m0 t1 t4 t5 t10 t11 t12 t17 VC t19 S K:=by
 have h1:bX x (m1+1) m0 t1 t4 t5 t10 t11 t12 t17 VC t19 S K=AC rA eA x m1 m0 t1 t4 t5 t10 t11 t12 t17 VC t19 S K:=by kernel_rfl
 have h2:bX=eA:=by funext x m m0 t1 t4 t5 t10 t11 t12 t17 VC t19 S K;exact oR ..
 have h3:dZ=rA:=by funext x m t1 t10 t11 t12 S K;exact MU ..
 rw [h1,<-h2,<-h3];rfl
end Go.Am
set_option maxRecDepth 4000
namespace Go.Am
open Go.Proofs.NQ
abbrev fq (f:FuncId):V:= .func f [] []
def qV:Nat->List V
 | 1=>[fq AU,ni 7,fq AV,ni 4]
 | 2=>[fq rD,ni 7]
 | 3=>[fq rD,ni 7,fq AW,ni 7,fq AX,ni 4]
 | _=>[fq AY,ni 7,fq nP,ni 4,fq iA,ni 21]
def qN:Nat->Nat
 | 1=>2
 | 2=>1
 | _=>3
abbrev n8 (k:Nat):V:= .int .u8 (.ofNat k)
section
variable{M n:Nat}{x:VE}{S:Hp}{K:KV}
theorem EK{f:FuncId}{e:Nat}{k:V->Prop} (hk:k (.agg [fq f,ni e])):cV [.nilFunc,(.int .i64 (.ofNat 0))] [(0,1,(.func f [] [])),(1,1,ni e)] k:=by
 refine⟨rfl,by simp,?_⟩;exact⟨rfl,by simp [aY],hk⟩
theorem vB1{a b:V} (ha:fR a=true) (hb:fR b=true) (hk:∀j,S j=none->K (.own j 0 1 1) (aK S j (.row [a,b] 92))):aS 92 1 [.nilFunc,(.int .i64 (.ofNat 0))] [(0,2,.agg [a,b])] S K:=by
 refine⟨by simp [ha,hb],rfl,by simp,?_⟩;exact fun j hj=>hk j hj
theorem vB2{a b c d:V} (ha:fR a=true) (hb:fR b=true) (hc:fR c=true) (hd:fR d=true) (hk:∀j,S j=none->K (.own j 0 2 2) (aK S j (.row [a,b,c,d] 92))):aS 92 2 [.nilFunc,(.int .i64 (.ofNat 0))] [(0,2,.agg [a,b]),(2,2,.agg [c,d])] S K:=by
 refine⟨by simp [ha,hb],rfl,by simp,⟨by simp [hc,hd],rfl,by simp [aY],?_⟩⟩;exact fun j hj=>hk j hj
theorem vB3{a b c d e f:V} (ha:fR a=true) (hb:fR b=true) (hc:fR c=true) (hd:fR d=true) (he:fR e=true) (hf:fR f=true) (hk:∀j,S j=none->K (.own j 0 3 3) (aK S j (.row [a,b,c,d,e,f] 92))):aS 92 3 [.nilFunc,(.int .i64 (.ofNat 0))] [(0,2,.agg [a,b]),(2,2,.agg [c,d]),(4,2,.agg [e,f])] S K:=by
 refine⟨by simp [ha,hb],rfl,by simp,⟨by simp [hc,hd],rfl,by simp [aY],⟨by simp [he,hf],rfl,by simp [aY],?_⟩⟩⟩;exact fun j hj=>hk j hj
theorem aKA{m:Nat}{es es2:List (V×V)}{a v:V} (hm:S m=some (.map es)) (ha:SW (.one (.int .u8)) a) (ho:∀e∈es,SW (.one (.int .u8)) e.1) (he:PF es a v=es2){k:Hp->Prop} (hk:k (aK S m (.map es2))):zT (.one (.int .u8)) (.yM m) a v S k:=by
 unfold zT;simp only [hm];exact⟨ha,ho,by rw [he];exact hk⟩
theorem aFJ{m j:Nat}{es es2:List (V×V)}{vs:List V}{k:V}{n:Nat}{f:Hp->Prop} (hm:S m=some (.map es)) (hj:S j=none) (ho:∀e∈es,SW (.one (.int .u8)) e.1) (ha:SW (.one (.int .u8)) k) (he:PF es k (.own j 0 n n)=es2)
 (hk:∀S',S' m=some (.map es2)->S' j=some (.row vs 92)->(∀i o,i≠m->S i=some o->S' i=some o)->f S'):zT (.one (.int .u8)) (.yM m) k (.own j 0 n n) (aK S j (.row vs 92)) f:=by
 have d:m≠j:=fun e=>by rw [<-e,hm]at hj;cases hj
 refine aKA (es:=es) (es2:=es2) (by rw [aB d];exact hm) ha ho he (hk _ aC ?_ fun i o hi e=>?_)
 ·rw [aB (aO d)];exact aC
 ·rw [aB hi,aB (fun c=>by rw [c,hj]at e;cases e)];exact e
theorem aMJ (hx:Deep PP bI gM M (n+1) x){k:Nat} (h1:1<=k) (h4:k<=4) (hK:∀j S',bO S S'->S' j=some (.row (qV k) 92)->K (.own j 0 (qN k) (qN k)) S'):x.call PH [n8 k] S K:=by
 refine hx.call rfl fun y hy=>?_;rw [Uk];unfold Ax;intro m hm;have CU:aK S m (.map []) m=some (.map []):=aC;have dF:bO S (aK S m (.map [])):= .aI hm;generalize aK S m (.map [])=S1 at CU dF;refine EK (EK (vB2 rfl rfl rfl rfl fun j1 g1=>?_));refine aFJ (es2:=[(n8 1,.own j1 0 2 2)]) CU g1 (fun e he=>by cases he) rfl rfl fun S2 YR q1 f2=>?_;refine EK (vB1 rfl rfl fun j2 g2=>?_);refine aFJ (es2:=[(n8 1,.own j1 0 2 2),(n8 2,.own j2 0 1 1)]) YR g2 (fun e he=>by simp at he;subst he;rfl) rfl (by simp [PF]) fun S3 hm3 q2 f3=>?_;refine EK (EK (EK (vB3 rfl rfl rfl rfl rfl rfl fun j3 g3=>?_)));refine aFJ (es2:=[(n8 1,.own j1 0 2 2),(n8 2,.own j2 0 1 1),(n8 3,.own j3 0 3 3)]) hm3 g3 (fun e he=>by simp at he;rcases he with rfl | rfl<;>rfl) rfl (by simp [PF]) fun S4 Ls q3 f4=>?_;refine EK (EK (EK (vB3 rfl rfl rfl rfl rfl rfl fun j4 g4=>?_)));refine aFJ (es2:=[(n8 1,.own j1 0 2 2),(n8 2,.own j2 0 1 1),(n8 3,.own j3 0 3 3),(n8 4,.own j4 0 3 3)]) Ls g4 (fun e he=>by simp at he;rcases he with rfl | rfl | rfl<;>rfl) rfl (by simp [PF]) fun S5 hm5 q4 f5=>?_;have nm:∀{j:Nat} {O:Hp} {r:Ob},O j=some r->(∀es,r≠ .map es)->∀{es},O m=some (.map es)->j≠m:=fun hj hr es hm c=>by rw [c,hm]at hj;injection hj with hj;exact hr _ hj.symm
 have p1:S5 j1=some (.row (qV 1) 92):=by
  have d:=nm q1 (fun es c=>by cases c) YR;exact f5 _ _ d (f4 _ _ d (f3 _ _ d q1))
 have p2:S5 j2=some (.row (qV 2) 92):=by
  have d:=nm q2 (fun es c=>by cases c) hm3;exact f5 _ _ d (f4 _ _ d q2)
 have p3:S5 j3=some (.row (qV 3) 92):=by
  have d:=nm q3 (fun es c=>by cases c) Ls;exact f5 _ _ d q3
 have le:bO S S5:=fun i o e=>by
  have d:i≠m:=fun c=>by rw [c,hm]at e;cases e
  exact f5 _ _ d (f4 _ _ d (f3 _ _ d (f2 _ _ d (dF _ _ e))))
 have hk5:k=1\/k=2\/k=3\/k=4:=by omega
 refine Qy hm5 rfl (fun e he=>by simp at he;rcases he with rfl | rfl | rfl | rfl<;>rfl) (fun v hv=>?_) (fun hv=>?_)
 ·rcases hk5 with rfl | rfl | rfl | rfl
  ·have:v= .own j1 0 2 2:=by simpa [XR]using hv.symm
   subst this;exact aL (hK j1 S5 le p1)
  ·have:v= .own j2 0 1 1:=by simpa [XR]using hv.symm
   subst this;exact aL (hK j2 S5 le p2)
  ·have:v= .own j3 0 3 3:=by simpa [XR]using hv.symm
   subst this;exact aL (hK j3 S5 le p3)
  ·have:v= .own j4 0 3 3:=by simpa [XR]using hv.symm
   subst this;exact aL (hK j4 S5 le q4)
 ·exfalso
  rcases hk5 with rfl | rfl | rfl | rfl<;>simp [XR]at hv
end
set_option maxRecDepth 4000
section
variable{M n:Nat}{x:VE}{S:Hp}{K:KV}{cs:List V}{ep:Nat}
theorem aPm (hx:Deep PP bI gM M (n+1) x) (ho:cs.all fR=true) (h12:cs[12]? =some (ni ep)) (hK:K (.bool (decide (ep=0))) S):x.call AU [.agg cs] S K:=by
 refine hx.call rfl fun y hy=>?_;rw [Lt];unfold UD;refine cA ho fun b hb=>?_;rw [aU,bA,cQ (o:=12) aC h12,uV];exact bL (.aI hb) hK
theorem aKB (hx:Deep PP bI gM M (n+1) x) (ho:cs.all fR=true) (h12:cs[12]? =some (ni ep)) (hK:K (.bool (decide (0<ep))) S):x.call rD [.agg cs] S K:=by
 refine hx.call rfl fun y hy=>?_;rw [Lu];unfold UE;refine cA ho fun b hb=>?_;rw [aU,bA,cQ (o:=12) aC h12,LR];exact bL (.aI hb) hK
theorem aKC{t:TypeId}{a b:Int}{k:V->Prop}:aH PP .eql t (.int .i64 a) (.int .i64 b) k=k (.bool (decide (a=b))):=by rw [KI]
theorem aPn (hx:Deep PP bI gM M (n+1) x) (ho:cs.all fR=true) (h12:cs[12]? =some (ni ep)){nx:V}{len:Nat} (h15:cs[15]? =some nx) (hl:∀k:V->Prop,bH nx k=k (ni len)){z:Int} (h19:cs[19]? =some (.int .i64 z))
 (hK:K (.bool (decide (len=0)&&decide (z=ep))) S):x.call AW [.agg cs] S K:=by
 refine hx.call rfl fun y hy=>?_;rw [Lv];unfold UF gP gL gQ;refine cA ho fun b hb=>?_;have rb:aK S b (.row cs 86) b=some (.row cs 86):=aC;have le:bO S (aK S b (.row cs 86)):= .aI hb;generalize aK S b (.row cs 86)=S1 at rb le;rw [aU,bA,cQ (o:=15) rb h15,hl,uV];by_cases e:len=0
 ·rw [bF e]at hK ⊢
  simp only [aF,aM,aU,bA,cQ (o:=17+2) rb h19,cQ (o:=12+0) rb h12];rw [show(ni ep:V)= .int .i64 (ep:Int)from rfl,aKC,dJ];refine bL le ?_;rw [Hs]at hK;exact hK
 ·rw [bJ e]at hK ⊢
  simp only [aF,lZ];exact bL le hK
theorem aPo (hx:Deep PP bI gM M (n+1) x) (ho:cs.all fR=true) (h12:cs[12]? =some (ni ep)){nx:V}{len:Nat} (h15:cs[15]? =some nx) (hl:∀k:V->Prop,bH nx k=k (ni len)){z:Int} (h19:cs[19]? =some (.int .i64 z))
 (hK:K (.bool (decide (0<len)&&decide (z=ep))) S):x.call AY [.agg cs] S K:=by
 refine hx.call rfl fun y hy=>?_;rw [Lw];unfold UG gP gL gQ;refine cA ho fun b hb=>?_;have rb:aK S b (.row cs 86) b=some (.row cs 86):=aC;have le:bO S (aK S b (.row cs 86)):= .aI hb;generalize aK S b (.row cs 86)=S1 at rb le;rw [aU,bA,cQ (o:=15) rb h15,hl,LR];by_cases e:0<len
 ·rw [bF e]at hK ⊢
  simp only [aF,aM,aU,bA,cQ (o:=17+2) rb h19,cQ (o:=12+0) rb h12];rw [show(ni ep:V)= .int .i64 (ep:Int)from rfl,aKC,dJ];refine bL le ?_;rw [Hs]at hK;exact hK
 ·rw [bJ e]at hK ⊢
  simp only [aF,lZ];exact bL le hK
theorem aFK{b:Nat}{t:TypeId}{two:Bool} (rb:S b=some (.row cs t)) (hp:cs.take 12=pv two){K:KV}:bN 12 (.ptr b 0) S K=K (.agg (pv two)) S:=by
 have hl:12<=cs.length:=by
  have:=iZ List.length hp;rw [mP,BP]at this;omega
 rw [tC rb,dL (by omega),xG,hp]
theorem aPp{two:Bool}{S0:Hp} (hM:1000000<M) (hx:Deep PP bI gM M (n+12) x) (ho:cs.all fR=true) (hp:cs.take 12=pv two){v:V} (h21:cs[21]? =some v){l:List (List Nat)} (h:RL S0 S v l) (UX:∀c∈l,LP c)
 (hK:K (.bool (xW l)) S):x.call AV [.agg cs] S K:=by
 refine hx.call rfl fun y hy=>?_;rw [Lx];unfold UH;refine cA ho fun b hb=>?_;have rb:aK S b (.row cs 86) b=some (.row cs 86):=aC;have le:bO S (aK S b (.row cs 86)):= .aI hb;generalize aK S b (.row cs 86)=S1 at rb le;rw [aU,aFK rb hp,aU,bA,cQ (o:=17+4) rb h21];refine aCt (two:=two) hM hy (h.up le) UX ?_;exact bL le hK
end
end Go.Am
set_option maxRecDepth 4000
namespace Go.Am
def iV (l:List Int):List Dt:=l.map (Dt.int .i64)
def zvs (l:List Int):List V:=l.map (V.int .i64)
theorem EE (l:List Int):(iV l).length=l.length:=lR _
theorem aFL (l:List Int):(zvs l).length=l.length:=lR _
theorem aAx (l:List Int):(zvs l).all fR=true:=by rw [KO];intro v hv;obtain⟨n,_,rfl⟩:=List.mem_map.1 hv;rfl
theorem aEc (O:Tag) (l:List Int):∀o,Tl O o (iV l)=zvs l:=by
 induction l with
 | nil=>intro o;rfl
 | cons a l ih=>intro o;show T (.sub O o) (.int .i64 a)::Tl O (o+1) (iV l)=_;rw [ih];rfl
inductive ZC (S S':Hp):V->List Int->Prop
 | nil:ZC S S' .nil []
 | own {j:Nat}:ZC S S' (.own j 0 0 0) []
 | acc {i:Nat} {l:List Int} (h0:S i=none) (hl:0<l.length) (h:S' i=some (.fW (zvs l) 3 l.length)):ZC S S' (.acc i l.length) l
section
variable{M n:Nat}{x:VE}{S:Hp}{K:KV}
theorem ZB:Fl PP 32=some .slice:=by kernel_rfl
theorem aKD (hx:Deep PP bI gM M (n+1) x){O:Tag}{l:List Int} (hl:l.length<1000000) (hK:∀w S',bO S S'->ZC S S' w l->K w S'):x.call dW [.list O (iV l) l.length] S K:=by
 refine hx.call rfl fun y hy=>?_;rw [wT];unfold oZ
 have rest:(aS 3 0 IT [] S fun v1 S=>jT 3 1 8 v1 (.list O (iV l) l.length) S fun v2 S=>bD v2 S K):=by
  intro j hj;have hle:bO S (aK S j (.row [] 3)):= .aI hj;show jT 3 1 8 (.own j 0 0 0) (.list O (iV l) l.length) (aK S j (.row [] 3)) _;refine⟨by rw [EE];omega,?_⟩;rw [lQ (by rw [EE];omega),aEc];cases hl0:l.length with
  | zero=>
   have e0:l=[]:=rY hl0;subst e0;exact⟨bR _,aL (hK _ _ hle .own)⟩
  | succ q=>
   refine⟨aAx l,?_⟩;simp only [aC];refine⟨by omega,by simp,fun c=>aX c (by omega),fun _ i hi=>?_⟩;have e2:(List.take (0*1) (List.drop 0 ([]:List V)))++zvs l=zvs l:=by simp
   rw [e2,show 0+(q+1)=l.length by omega];exact aL (hK _ _ (hle.trans (.aI hi)) (.acc (hle.none hi) (by omega) aC))
 cases l with
 | nil=>exact⟨ZB,aL (hK _ _ (.refl S) .nil),rest⟩
 | cons a l=>exact⟨rfl,ZB,.inr rfl,(fun e=>by cases e),rest⟩
end
set_option maxRecDepth 4000
section
variable{M n:Nat}{x:VE}{S S0:Hp}{K:KV}{w:V}{l:List Int}
theorem aMK (hx:Deep PP bI gM M (n+1) x) (h:ZC S0 S w l) (hs:bO S0 S) (hl:l.length<1000000) (hK:∀S',bO S0 S'->ZC S0 S' w (FZ l)->(∀j,(∀m,w≠ .acc j m)->S' j=S j)->K (.tuple []) S'):x.call lA [w] S K:=by
 have e0:FZ []=[]:=by unfold FZ;simp
 cases h with
 | nil=>exact hx.IQ (g:=Ip) rfl (.inl ⟨rfl,hK S hs (by rw [e0];exact .nil) fun _ _=>rfl⟩)
 | @own j=>exact hx.IQ (g:=Ip) rfl (.inr (.inl ⟨j,0,0,rfl,hK S hs (by rw [e0];exact .own) fun _ _=>rfl⟩))
 | @acc i _ h0 hp h=>
  refine hx.IQ (g:=Ip) rfl (.inr (.inr ⟨i,l,rfl,hp,h,hl,hK _ (fun q o e=>?_) ?_ fun q hq=>aB fun c=>by subst c;exact hq _ rfl⟩))
  ·rw [aB (fun c=>by rw [c,h0]at e;cases e)];exact hs q o e
  ·have el:(FZ l).length=l.length:=QE l
   have:=ZC.acc (l:=FZ l) h0 (by omega) (S':=aK S i (.fW (zvs (FZ l)) 3 l.length)) (by rw [el];exact aC);rw [el]at this;exact this
end
set_option maxRecDepth 4000
section
variable{M n:Nat}{x:VE}{S:Hp}{K:KV}{two:Bool}
theorem aML{O:Tag}{l:List Int} (hl:l.length<1000000){f:V}{p:Int->Bool}
 (hf:∀a∈l,∀K:KV,K (.bool (p a)) S->lX x f [.int .i64 a] S K) (hT:l.any p=true->∀j:Nat,K (ni j) S) (hF:l.any p=false->K (.int .i64 (.negSucc 0)) S):
 ∀(r i m:Nat),i+r=l.length->r<m->(l.drop i).any p=l.any p->fJ x m (.list O (iV l) l.length) f (ni l.length) (ni i) S K:=by
 intro r;induction r with
 | zero=>
  intro i m hi hm he;obtain⟨m,rfl⟩:=bG (show m≠0 by omega);rw [dN];unfold cX;refine aE ?_;rw [aN,iN (by omega),aW];rw [oS (by omega)]at he;exact aL (hF he.symm)
 | succ r ih=>
  intro i m hi hm he;obtain⟨m,rfl⟩:=bG (show m≠0 by omega);rw [dN];unfold cX;refine aE ?_;have hlt:i<l.length:=by omega
  have RE:(iV l)[i*1]? =some (.int .i64 l[i]):=by rw [jL];unfold iV;rw [dO,aQ hlt];rfl
  rw [aN,wX hlt,bQ,fH hlt,sJ,cI RE];refine hf l[i] (cK hlt) _ ?_;rw [lP hlt,List.any_cons]at he;cases hp:p l[i]with
  | true=>
   rw [hp,Bool.true_or]at he;rw [bQ];exact aL (hT he.symm i)
  | false=>
   rw [hp,Bo]at he;rw [aW,bE (by omega)];exact ih (i+1) m (by omega) (by omega) he
theorem aMM (hM:1000000<M) (hx:Deep PP bI gM M (n+2) x){O:Tag}{l:List Int} (hl:l.length<1000000){c:FuncId}{cs:List V}{p:Int->Bool}
 (hf:∀y,Deep PP bI gM M n y->∀a∈l,∀K:KV,K (.bool (p a)) S->y.call c (.int .i64 a::cs) S K) (hK:K (.bool (l.any p)) S):x.call gG [.list O (iV l) l.length,.func c [] cs] S K:=by
 refine hx.call rfl fun y hy=>?_;rw [pZ];unfold kL;refine hy.call rfl fun u hu=>?_;rw [sN];unfold mA;rw [show ∀k:V->Prop,bH (.list O (iV l) l.length) k=k (ni l.length)from fun _=>rfl,hu.most];refine aML (x:=u) (f:= .func c [] cs) hl (p:=p) (fun a ha K hk=>hf u hu a ha K hk) (fun e j=>?_) (fun e=>?_) l.length 0 M (by omega) (by omega) rfl
 ·rw [e]at hK
  rw [zE];exact aL (by rw [bF (BG j)];exact hK)
 ·rw [e]at hK
  rw [CH];exact aL hK
end
set_option maxRecDepth 4000
section
variable{M n:Nat}{x:VE}{S:Hp}{K:KV}{two:Bool}
theorem aEd{t:TypeId}{a b:Int}{k:V->Prop}:aH PP .lss t (.int .i64 a) (.int .i64 b) k=k (.bool (decide (a<b))):=by rw [rC]
theorem aAy{t:TypeId}{a b:Int}{k:V->Prop}:aH PP .gtr t (.int .i64 a) (.int .i64 b) k=k (.bool (decide (b<a))):=by rw [QF]
theorem aMP (hx:Deep PP bI gM M (n+1) x){z:Int}{b:Nat} (rb:S b=some (.row (pv two) 29)) (hK:K (.bool (decide (z<1) || decide (5<z))) S):x.call zX [.int .i64 z,.ptr b 0] S K:=by
 refine hx.call rfl fun y hy=>?_;rw [ZT];unfold JL gP gL gK gQ;rw [aEd];by_cases e:z<1
 ·rw [show decide (z<Int.ofNat 1)=true from bF e]
  rw [bF e]at hK;simp only [aF,EI];exact aL hK
 ·rw [show decide (z<Int.ofNat 1)=false from bJ e]
  rw [bJ e,Bo]at hK;simp only [aF,aM,aU,cQ (o:=4) rb rfl];rw [show(ni (tM two):V)= .int .i64 5 from rfl,aAy,eI];exact aL hK
end
set_option maxRecDepth 4000
def ints (l:List Int):List V:=l.map (V.int .i64)
def QW (l:List Int):List Dt:=l.map (Dt.int .i64)
theorem MP (l:List Int):(ints l).length=l.length:=by simp [ints]
theorem ZD (l:List Int):(QW l).length=l.length:=by simp [QW]
theorem Ru{l:List Int}{p:Nat} (h:p<l.length):l.getD p 0=l[p]:=by rw [BD,aQ h];rfl
theorem QX{l:List Int}{p:Nat} (h:p<l.length):(ints l)[p]? =some (.int .i64 (l.getD p 0)):=by
 unfold ints;rw [dO,aQ h,Ru h];rfl
theorem ints_set (l:List Int) (p:Nat) (z:Int):(ints l).set p (.int .i64 z)=ints (l.set p z):=by
 unfold ints;rw [List.map_set]
def kp (zs:List Int) (j:Nat):Bool:=decide (j=0) || !decide (zs.getD j 0=zs.getD (j-1) 0)
def dq (zs:List Int):Nat->List Int
 | 0=>[]
 | j+1=>if kp zs j then dq zs j++[zs.getD j 0]else dq zs j
def dd (zs:List Int):List Int:=dq zs zs.length
theorem aFM{zs:List Int}{j:Nat} (h0:0<j) (h:zs.getD j 0=zs.getD (j-1) 0):dq zs (j+1)=dq zs j:=by
 conv=>lhs;unfold dq
 rw [show kp zs j=false by unfold kp;rw [bJ (by omega),bF h];rfl];rfl
theorem aKE{zs:List Int}{j:Nat} (h:¬zs.getD j 0=zs.getD (j-1) 0):dq zs (j+1)=dq zs j++[zs.getD j 0]:=by
 conv=>lhs;unfold dq
 rw [show kp zs j=true by unfold kp;rw [bJ h];simp];rfl
theorem aPq (zs:List Int):∀j,(dq zs j).length<=j:=by
 intro j;induction j with
 | zero=>exact bR _
 | succ j ih=>
  unfold dq;split
  ·rw [jU];simp;exact ih
  ·omega
theorem aKF{i:Nat} (h:0<i) (h2:i<4611686018427387904):sH .i64 (Int.ofNat i-Int.ofNat 1)=Int.ofNat (i-1):=by
 rw [wrap_small]<;>simp<;>omega
theorem aKG{S S':Hp}{i:Nat}{o:Ob} (h:bO S' S) (e:S' i=none):bO S' (aK S i o):=fun j q hq=>by
 by_cases hj:j=i
 ·subst hj;rw [e]at hq;cases hq
 ·rw [aB hj];exact h j q hq
section
variable{x:VE}{K:KV}{zs:List Int}{i n:Nat}{S':Hp}
theorem aRk (hn:zs.length=n) (hM:n<x.most) (hb:n<1000000000) (hs:S' i=none) (hk:∀O,K (.list O (QW (dd zs)) (dd zs).length) S') (m0:Nat){k:Nat} (k1:1<=k):
 ∀(m k2 kk:Nat) (S:Hp) (cur:List Int),bO S' S->S i=some (.fW (ints cur) 3 n)->cur.length=n->1<=k2->k+k2<=n->n<=k+k2+m->kk=(dq zs (k+k2)).length->kk<k+k2->cur.take kk=dq zs (k+k2)->cur.drop (k+k2-1)=zs.drop (k+k2-1)->
  dK x (m+1) m0 (.acc i n) (.int .i64 (.ofNat kk)) (.ID i n (k*1) (n-k) (n-k)) (.int .i64 (.ofNat k2)) S K:=by
 have fin:∀(k2 kk:Nat) (S:Hp) (cur:List Int),bO S' S->S i=some (.fW (ints cur) 3 n)->cur.length=n->k+k2=n->kk=(dq zs (k+k2)).length->kk<k+k2->cur.take kk=dq zs (k+k2)->
  (LU 3 1 (.acc i n) (some (.int .i64 (.ofNat kk))) none none S fun v12=>Cw IT v12 S fun S=>LU 3 1 (.acc i n) none (some (.int .i64 (.ofNat kk))) none S fun sO=>bD sO S K):=by
  intro k2 kk S cur hle hi hc vL e1 e2 e3;refine Zm hi (by omega) ?_;refine aDL hi rfl (by omega) (by simp [MP];omega) ?_;refine aMp aC (by omega) (by omega) ?_;have e4:dq zs (k+k2)=dd zs:=by rw [vL,<-hn];rfl
  rw [e4]at e1 e3;have e5:(dd zs).length=kk:=e1.symm;refine⟨S',fun O=> .list (O 0) (QW (dd zs)) kk,aKG hle hs,fun O=> .one (.Ao (.ID (cs:=QW (dd zs)) aC hs (by omega) ?_ ?_)),fun O=>by rw [<-e5];exact hk _⟩
  ·rw [ZD,e5];unfold aY;simp [MP];omega
  ·intro j v d h1 h2
   have hj:j<kk:=by have:=(List.getElem?_eq_some_iff.1 h2).1;rw [ZD]at this;omega
   have h3:(ints cur)[j]? =some v:=by
    unfold aY at h1;rw [eG,BE,gI (by rw [mP,MP];omega),pK,aJ (by omega)]at h1;exact h1
   rw [QX (by omega)]at h3;injection h3 with h3;subst h3;unfold QW at h2;rw [dO,<-e3,pK,aJ hj,aQ (by omega)]at h2;injection h2 with h2;subst h2;rw [Ru (by omega)];exact .int
 intro m;induction m with
 | zero=>
  intro k2 kk S cur hle hi hc h2 aAw hm e1 e2 e3 e4;rw [jX];unfold fC;refine aE ?_;rw [Wj,rC,Qx,aG (by simp;omega)];exact fin k2 kk S cur hle hi hc (by omega) e1 e2 e3
 | succ m ih=>
  intro k2 kk S cur hle hi hc h2 aAw hm e1 e2 e3 e4;rw [jX];unfold fC;refine aE ?_;rw [Wj,rC,Qx];by_cases hlt:k2<n-k
  ·have cell:∀p,k+k2-1<=p->p<n->cur.getD p 0=zs.getD p 0:=by
    intro p h1 h3;have:=iZ (fun l:List Int=>l.getD (p-(k+k2-1)) 0) e4;simp only [BD,oT]at this;rw [show k+k2-1+(p-(k+k2-1))=p by omega]at this;simpa [BD]using this
   rw [aJ (by simp;omega),Qz hlt];refine aB3 hi (QX (by omega)) ?_;rw [Ir,aKF (by omega) (by omega),Qz (by omega)];refine aB3 hi (QX (by omega)) ?_;rw [KJ,Qx];have c1:cur.getD (k*1+k2*1) 0=zs.getD (k+k2) 0:=by rw [show k*1+k2*1=k+k2 by omega];exact cell _ (by omega) (by omega)
   have c2:cur.getD (k*1+(k2-1)*1) 0=zs.getD (k+k2-1) 0:=by rw [show k*1+(k2-1)*1=k+k2-1 by omega];exact cell _ (by omega) (by omega)
   rw [c1,c2]
   have next:∀(S2:Hp) (aHk:List Int) (kk2:Nat),bO S' S2->S2 i=some (.fW (ints aHk) 3 n)->aHk.length=n->kk2=(dq zs (k+(k2+1))).length->kk2<k+(k2+1)->aHk.take kk2=dq zs (k+(k2+1))->aHk.drop (k+k2)=zs.drop (k+k2)->dB x m0 (m+1) (.acc i n) (.int .i64 (.ofNat kk2)) (.ID i n (k*1) (n-k) (n-k)) (.int .i64 (.ofNat k2)) S2 K:=by
    intro S2 aHk kk2 q1 q2 q3 q4 q5 q6 q7;rw [qK x (by omega)];unfold eL;refine aE ?_;rw [KK,aDK (by omega)];exact ih (k2+1) kk2 S2 aHk q1 q2 q3 (by omega) (by omega) (by omega) q4 q5 q6 (by rw [show k+(k2+1)-1=k+k2 by omega];exact q7)
   have hd1:cur.drop (k+k2)=zs.drop (k+k2):=by
    have:=iZ (List.drop 1) e4
    rwa [Bn,Bn,show k+k2-1+1=k+k2 by omega]at this
   have hz:¬k+k2=0:=by omega
   by_cases hd:zs.getD (k+k2) 0=zs.getD (k+k2-1) 0
   ·rw [aG (by simp only [hd];simp)]
    have e5:dq zs (k+(k2+1))=dq zs (k+k2):=aFM (show 0<k+k2 by omega) hd;exact next S cur kk hle hi hc (by rw [e5];exact e1) (by omega) (by rw [e5];exact e3) hd1
   ·rw [aJ (by rw [bJ hd];rfl),Qz hlt]
    refine aB3 hi (QX (by omega)) ?_;rw [c1,LM (by omega),jL];refine aQX hi rfl (by rw [MP];omega) ?_;rw [GB (by rw [MP];omega),ints_set,KK,aDK (show kk<4611686018427387904 by have:=aPq zs (k+k2);omega)];have e5:dq zs (k+(k2+1))=dq zs (k+k2)++[zs.getD (k+k2) 0]:=aKE hd;refine next _ _ (kk+1) (aKG hle hs) aC (by simp;omega) (by rw [e5,jU,<-e1];rfl) (by omega) ?_ ?_
    ·rw [e5,<-e3]
     apply xE;intro p;rw [pK];by_cases h1:p<kk
     ·rw [aJ (by omega),IE (by omega),gI (by rw [mP];omega),pK,aJ h1]
     ·by_cases h3:p=kk
      ·subst h3
       rw [aJ (by omega),VG (by omega),kI (by rw [mP];omega),mP];rw [show p-min p cur.length=0 by omega];rfl
      ·rw [aG (by omega),FK (by simp;omega)]
    ·rw [List.drop_set_of_lt (by omega)];exact hd1
  ·rw [aG (by simp;omega)]
   exact fin k2 kk S cur hle hi hc (by omega) e1 e2 e3
theorem aRl (hn:zs.length=n) (hM:n<x.most) (hb:n<1000000000) (hs:S' i=none) (hk:∀O,K (.list O (QW (dd zs)) (dd zs).length) S'){S:Hp} (hle:bO S' S) (hi:S i=some (.fW (ints zs) 3 n)):
 ∀(m k:Nat),1<=k->k<=n->n<=k+m->dq zs k=zs.take k->fP x (m+1) (.acc i n) (.int .i64 (.ofNat k)) S K:=by
 have fin:∀k,n=k->dq zs k=zs.take k->bD (.acc i n) S K:=by
  intro k h1 h2;subst h1;have e4:dd zs=zs:=by unfold dd;rw [hn,h2,<-hn,List.take_length]
  refine⟨S',fun O=> .list (O 0) (QW zs) n,hle,fun O=> .one (.Ao (.acc hi hs (by rw [MP,ZD]) ?_)),fun O=>by have:=hk (O 0);rwa [e4,hn]at this⟩;intro j v d h3 h4;unfold ints at h3;unfold QW at h4;rw [dO]at h3 h4;cases hq:zs[j]? with
  | none=>rw [hq]at h3;cases h3
  | some z=>rw [hq]at h3 h4;injection h3 with h3;injection h4 with h4;subst h3 h4;exact .int
 intro m;induction m with
 | zero=>
  intro k h1 h2 h3 h4;rw [oO];unfold jN;refine aE ?_;rw [Jc,rC,Qx,aG (by simp;omega)];exact fin k (by omega) h4
 | succ m ih=>
  intro k h1 h2 h3 h4;rw [oO];unfold jN;refine aE ?_;rw [Jc,rC,Qx];by_cases hlt:k<n
  ·rw [aJ (by simp;omega),LM hlt]
   refine aB3 hi (QX (by omega)) ?_;rw [Ir,aKF (by omega) (by omega),LM (by omega)];refine aB3 hi (QX (by omega)) ?_;rw [KI,Qx,jL,jL];have hz:¬k=0:=by omega
   by_cases hd:zs.getD k 0=zs.getD (k-1) 0
   ·rw [aJ (by simp only [hd];simp)]
    refine Zm hi hlt ?_;obtain⟨p,hp⟩:=bG (show x.most≠0 by omega);rw [hp];have e5:dq zs (k+1)=zs.take k:=(aFM (by omega) hd).trans h4;have e6:(dq zs (k+1)).length=k:=by rw [e5,mP];omega
    exact aRk hn hM hb hs hk (m+1) h1 p 1 k S zs hle hi hn (bR _) (by omega) (by omega) e6.symm (by omega) e5.symm rfl
   ·rw [aG (by rw [bJ hd];simp),KK,aDK (by omega)]
    refine ih (k+1) (by omega) (by omega) (by omega) ?_;rw [aKE hd,KM,aQ (by omega),h4,Ru (by omega)];rfl
  ·rw [aG (by simp;omega)]
   exact fin k (by omega) h4
end
section
variable{ov:OvV}{M d i n:Nat}{x:VE}{S S':Hp}{K:KV}{zs:List Int}
theorem aHl (hf:ov cY=none) (hx:Deep PP bI ov M (d+1) x) (hn:zs.length=n) (hM:n<M) (hb:n<1000000000) (hs:S' i=none) (hle:bO S' S) (h1:1<=n) (hi:S i=some (.fW (ints zs) 3 n)) (hk:∀O,K (.list O (QW (dd zs)) (dd zs).length) S'):x.call cY [.acc i n] S K:=by
 refine hx.call hf fun y hy=>?_;rw [HY];unfold uK;have hm:y.most=M:=hy.most;rw [Jc,rC,Qx]
 have one:dq zs 1=zs.take 1:=by
  cases zs with
  | nil=>simp at hn;omega
  | cons a l=>rfl
 by_cases h2:n<2
 ·rw [aJ (by simp;omega)]
  have e:n=1:=by omega
  subst e;have e4:dd zs=zs:=by unfold dd;rw [hn,one,<-hn,List.take_length]
  refine⟨S',fun O=> .list (O 0) (QW zs) 1,hle,fun O=> .one (.Ao (.acc hi hs (by rw [MP,ZD]) ?_)),fun O=>by have:=hk (O 0);rwa [e4,hn]at this⟩;intro j v d h3 h4;unfold ints at h3;unfold QW at h4;rw [dO]at h3 h4;cases hq:zs[j]? with
  | none=>rw [hq]at h3;cases h3
  | some z=>rw [hq]at h3 h4;injection h3 with h3;injection h4 with h4;subst h3 h4;exact .int
 ·rw [aG (by simp;omega)]
  obtain⟨p,hp⟩:=bG (show y.most≠0 by omega);rw [hp];exact aRl hn (by omega) hb hs hk hle hi p 1 (bR _) h1 (by omega) one
end
set_option maxRecDepth 4000
def HV (l:List Int):Bool:=decide (l.length=4)&&(decide ((dd (FZ l)).length=4)&& !(l.any fun z=>decide (z<1) || decide (5<z)))
section
variable{M n:Nat}{x:VE}{S:Hp}{K:KV}{two:Bool}
theorem aPr (hM:1000000<M) (hx:Deep PP bI gM M (n+4) x){O:Tag}{l:List Int} (hl:l.length<1000000) (hK:K (.bool (HV l)) S):x.call EL [.agg (pv two),.list O (iV l) l.length] S K:=by
 refine hx.call rfl fun y hy=>?_;rw [Gw];unfold OI gP gL gK gC gQ;refine cA jV fun b hb=>?_;have dF:bO S (aK S b (.row (pv two) 29)):= .aI hb;have rb:aK S b (.row (pv two) 29) b=some (.row (pv two) 29):=aC;generalize aK S b (.row (pv two) 29)=S1 at dF rb;refine aKD hy hl fun w S2 fG hw=>?_;refine aMK hy hw fG hl fun S3 pR hw3 _=>?_;have rb3:=pR _ _ rb;have l5:∀{K:KV},aT (.ptr b 5) S3 K=K (ni 4) S3:=cQ rb3 rfl;rw [show ∀k:V->Prop,bH (.list O (iV l) l.length) k=k (ni l.length)from fun _=>rfl,aU,l5,uV];by_cases e:l.length=4
 ·rw [bF e]
  simp only [aF,aM,aU,l5];have es:(FZ l).length=4:=by rw [QE];exact e
  have ec:HV l=(decide ((dd (FZ l)).length=4)&& !(l.any fun z=>decide (z<1) || decide (5<z))):=by unfold HV;rw [bF e];rfl
  rw [ec]at hK;clear ec;generalize FZ l=zs at hw3 es hK;cases hw3 with
  | nil=>simp at es
  | own=>simp at es
  | @acc i _ h0 hp h=>
   refine aHl (zs:=zs) (n:=zs.length) (S':=S1) rfl hy rfl (by omega) (by omega) h0 pR hp h fun t2=>?_;have l5':∀{K:KV},aT (.ptr b 5) S1 K=K (ni 4) S1:=cQ rb rfl;simp only [tJ,l5',cS];rw [show ∀k:V->Prop,bH (.list t2 (QW (dd zs)) (dd zs).length) k=k (ni (dd zs).length)from fun _=>rfl,uV,dJ];by_cases e2:(dd zs).length=4
   ·rw [bF e2]at hK ⊢
    simp only [aM];refine aMM (n:=n+1) hM hy hl (p:=fun z=>decide (z<1) || decide (5<z)) (fun u hu a ha K hk=>aMP (two:=two) hu rb hk) ?_;simp only [l5',cS];refine bL dF ?_;rw [Hs]at hK;exact hK
   ·rw [bJ e2]at hK ⊢
    simp only [lZ,tJ,l5',cS,eI];exact bL dF hK
 ·have ec:HV l=false:=by unfold HV;rw [bJ e];rfl
  rw [ec]at hK;rw [bJ e];simp only [aF,lZ,eI,SZ,cS,l5];refine bL (dF.trans pR) hK
end
set_option maxRecDepth 100000
def kQ (x:VE) (m:Nat) (t2 t6 t7 t32 t33 t34:V) (S:Hp) (K:KV):Prop:=dG PP bI yP x [.r,.r,.r,.r,.l,.r,.d] m [] [t2,t6,t7,t32,t33,t34] S K
def iI (x:VE) (m:Nat) (t2 t7 t11 t13 t14 t15 t78 t79:V) (S:Hp) (K:KV):Prop:=dG PP bI yP x [.r,.r,.r,.r,.r,.r,.r,.r,.r,.r,.r,.l,.r,.d] m [] [t2,t7,t11,t13,t14,t15,t78,t79] S K
def fE (x:VE) (m:Nat) (m0:Nat) (t2 t7 t11 t13 t14 t15 t16 t17 t78 t79 t84 t85:V) (S:Hp) (K:KV):Prop:=dG PP bI yP x [.r,.r,.r,.r,.r,.r,.r,.r,.r,.r,.r,.l,.r,.d,.d,.r,.r,.l,.d,.r,.r,.l,.r,.d] m [m0] [t2,t7,t11,t13,t14,t15,t16,t17,t78,t79,t84,t85] S K
def Hd (x:VE) (a0 a1:V) (S:Hp) (K:KV):Prop:=
 iD 29 a0 S fun v0 S=>
 bN 12 v0 S fun v1 S=>
 x.call PI [v1] S fun v2 S=>
 SO .not v2 fun v3=>
 gP x false v3 (aP 6 v0) S fun v5 S=>gL x false v3 (aT v5 S) S fun v7 S=>gP x false v3 (aH PP .lss 3 v7 (.int .i64 (.ofNat 0))) S fun v9 S=>gQ x v3 (.bool true) v9 fun v10=>gP x false v10 (aP 6 v0) S fun v12 S=>gL x false v10 (aT v12 S) S fun sS S=>gP x false v10 (aH PP .gtr 3 sS (.int .i64 (.ofNat 2))) S fun wU S=>gQ x v10 (.bool true) wU fun rQ=>fS rQ (bD (.tuple [.nil,(.int .i64 (.ofNat 1))]) S K) (bH a1 fun yE=>kQ x x.most v0 .nil .nil a1 yE (.int .i64 (.ofNat 0)) S K)
theorem aAD (x:VE) (a0 a1:V) (S:Hp) (K:KV):jI PP bI yP x [a0,a1] S K=Hd x a0 a1 S K:=by kernel_rfl
def wK (x:VE) (m0:Nat) (t2 t6 t7 t32 t33 t34:V) (S:Hp) (K:KV):Prop:=
 cH S fun S=>
 aH PP .lss 3 t34 t33 fun v0=>
 fS v0 (cF 2 t32 t34 fun v1=>bN 2 v1 S fun v2 S=>cW uZ 68 S fun v3 S=>mL 2 v3 v2 S fun S=>aP 1 v3 fun v4=>aT v4 S fun v5 S=>bH v5 fun v6=>bN 12 t2 S fun v7 S=>x.call AZ [v7] S fun v8 S=>aT v4 S fun v9 _=>aZ v9 v5 (aH PP .neq 3 v6 v8 fun v10=>gP x false v10 (aP 1 v3) S fun v12 S=>gL x false v10 (aT v12 S) S fun sS S=>gK x false v10 (.func MQ [] [t2]) S fun AM S=>gL x false v10 (x.call cZ [sS,AM] S) S fun rQ S=>aT v4 S fun yE _=>aZ yE v5 (gQ x v10 (.bool true) rQ fun wZ=>fS wZ (bD (.tuple [.nil,(.int .i64 (.ofNat 1))]) S K) (aP 0 v3 fun v20=>aT v20 S fun v21 S=>aP 1 v3 fun MY=>aT MY S fun FI S=>aT MY S fun v24 _=>aZ v24 FI (aT v20 S fun TE _=>aZ TE v21 ((aS 3 1 IT [(0,1,v21)] S fun ZS S=>True)/\((aS 33 1 cU [(0,1,FI)] S fun Cs S=>True)/\(aS 3 1 IT [(0,1,v21)] S fun v28 S=>jT 3 1 8 t6 v28 S fun v29 S=>aT MY S fun v30 _=>aZ v30 FI (aT MY S fun v31 _=>aZ v31 FI ((aS 33 1 cU [(0,1,FI)] S fun Um S=>True)/\(aS 33 1 cU [(0,1,FI)] S fun Sv S=>jT 33 1 24 t7 Sv S fun Un S=>aH PP .add 3 t34 (.int .i64 (.ofNat 1)) fun Rz=>kQ x m0 t2 v29 Un t32 t33 Rz S K))))))))))) (x.call IU [t6] S fun Lz S=>SO .not Lz fun v37=>fS v37 (bD (.tuple [.nil,(.int .i64 (.ofNat 1))]) S K) (aP 1 t2 fun Gg=>aT Gg S fun Cv S=>x.call BA [t6,Cv] S fun v40 S=>tK 0 v40 fun v41=>tK 1 v40 fun Ma=>aH PP .neq 46 Ma (.int .i64 (.ofNat 0)) fun v43=>fS v43 (bD (.tuple [.nil,Ma]) S K) (bN 12 t2 S fun v44 S=>x.call AZ [v44] S fun v45 S=>iI x x.most t2 t7 v41 (.func jY [] [t2]) (.func jZ [] [t2]) .nil v45 (.int .i64 (.ofNat 0)) S K)))
theorem FJ (x:VE) (m0:Nat) (t2 t6 t7 t32 t33 t34:V) (S:Hp) (K:KV):kQ x (m0+1) t2 t6 t7 t32 t33 t34 S K=wK x m0 t2 t6 t7 t32 t33 t34 S K:=by kernel_rfl
def oI (x:VE) (m0:Nat) (t2 t7 t11 t13 t14 t15 t78 t79:V) (S:Hp) (K:KV):Prop:=
 cH S fun S=>
 aH PP .lss 3 t79 t78 fun v0=>
 fS v0 (aP 6 t2 fun v1=>aT v1 S fun v2 S=>aH PP .add 3 v2 (.int .i64 (.ofNat 1)) fun v3=>fE x x.most m0 t2 t7 t11 t13 t14 t15 t79 .nil t78 t79 v3 (.int .i64 (.ofNat 0)) S K) (bD (.tuple [t15,(.int .i64 (.ofNat 0))]) S K)
theorem vT (x:VE) (m0:Nat) (t2 t7 t11 t13 t14 t15 t78 t79:V) (S:Hp) (K:KV):iI x (m0+1) t2 t7 t11 t13 t14 t15 t78 t79 S K=oI x m0 t2 t7 t11 t13 t14 t15 t78 t79 S K:=by kernel_rfl
def fA (x:VE) (m1:Nat) (m0:Nat) (t2 t7 t11 t13 t14 t15 t16 t17 t78 t79 t84 t85:V) (S:Hp) (K:KV):Prop:=
 cH S fun S=>
 aH PP .lss 3 t85 t84 fun v0=>
 fS v0 (bN 12 t2 S fun v1 S=>x.call kO [t7,t16] S fun v2 S=>bN 12 t2 S fun v3 _=>aZ v3 v1 (x.call qA [v2,t85] S fun v4 S=>bN 12 t2 S fun v5 _=>aZ v5 v1 (x.call nD [v1,.nil] S fun v6 S=>x.call oP [v4,t11,v6,t13,t14] S fun v7 S=>(aS 22 1 iC [(0,1,v7)] S fun v8 S=>True)/\(aS 22 1 iC [(0,1,v7)] S fun v9 S=>jT 22 1 8 t17 v9 S fun v10 S=>aH PP .add 3 t85 (.int .i64 (.ofNat 1)) fun v11=>fE x m1 m0 t2 t7 t11 t13 t14 t15 t16 v10 t78 t79 t84 v11 S K)))) (aS 51 1 cU [(0,1,t17)] S fun v12 S=>jT 51 1 24 t15 v12 S fun sO S=>aH PP .add 3 t79 (.int .i64 (.ofNat 1)) fun sS=>iI x m0 t2 t7 t11 t13 t14 sO t78 sS S K)
theorem iT (x:VE) (m1:Nat) (m0:Nat) (t2 t7 t11 t13 t14 t15 t16 t17 t78 t79 t84 t85:V) (S:Hp) (K:KV):fE x (m1+1) m0 t2 t7 t11 t13 t14 t15 t16 t17 t78 t79 t84 t85 S K=fA x m1 m0 t2 t7 t11 t13 t14 t15 t16 t17 t78 t79 t84 t85 S K:=by kernel_rfl
def XZ (x:VE) (a0 a1:V) (S:Hp) (K:KV):Prop:=
 bH a0 fun v0=>
 aP 6 a1 fun v1=>
 aT v1 S fun v2 S=>
 aH PP .add 3 v2 (.int .i64 (.ofNat 1)) fun v3=>
 aH PP .neq 3 v0 v3 fun v4=>
 bD v4 S K
theorem Rv (x:VE) (a0 a1:V) (S:Hp) (K:KV):jI PP bI MQ x [a0,a1] S K=XZ x a0 a1 S K:=by kernel_rfl
def YA (x:VE) (a0 a1 a2:V) (S:Hp) (K:KV):Prop:=
 bN 12 a2 S fun v0 S=>
 x.call sC [v0,a0,a1] S fun v1 S=>
 bD v1 S K
theorem Rw (x:VE) (a0 a1 a2:V) (S:Hp) (K:KV):jI PP bI jY x [a0,a1,a2] S K=YA x a0 a1 a2 S K:=by kernel_rfl
def YB (x:VE) (a0 a1 a2:V) (S:Hp) (K:KV):Prop:=
 bN 12 a2 S fun v0 S=>
 aS 22 2 iC [(0,1,a0),(1,1,a1)] S fun v1 S=>
 x.call nD [v0,v1] S fun v2 S=>
 bD v2 S K
theorem Rx (x:VE) (a0 a1 a2:V) (S:Hp) (K:KV):jI PP bI jZ x [a0,a1,a2] S K=YB x a0 a1 a2 S K:=by kernel_rfl
def UI (x:VE) (a0:V) (S:Hp) (K:KV):Prop:=
 iD 29 a0 S fun v0 S=>
 aP 7 v0 fun v1=>
 aT v1 S fun v2 S=>
 aP 8 v0 fun v3=>
 aT v3 S fun v4 S=>
 aH PP .add 3 v4 (.int .i64 (.ofNat 1)) fun v5=>
 aH PP .mul 3 v2 v5 fun v6=>
 bD v6 S K
theorem Ly (x:VE) (a0:V) (S:Hp) (K:KV):jI PP bI AZ x [a0] S K=UI x a0 S K:=by kernel_rfl
def Ay (x:VE) (a0:V) (S:Hp) (K:KV):Prop:=
 iD 29 a0 S fun v0 S=>
 aP 7 v0 fun v1=>
 aT v1 S fun v2 S=>
 aP 8 v0 fun v3=>
 aT v3 S fun v4 S=>
 Cq false v2 v4 fun v5=>
 aH PP .geq 3 v5 (.int .i64 (.ofNat 0)) fun v6=>
 gP x true v6 (aP 7 v0) S fun v8 S=>gL x true v6 (aT v8 S) S fun v10 S=>gP x true v6 (aH PP .leq 3 v10 (.int .i64 (.ofNat 2))) S fun v12 S=>gQ x v6 v12 (.bool false) fun sO=>gP x true sO (aP 8 v0) S fun AM S=>gL x true sO (aT AM S) S fun rQ S=>gP x true sO (aH PP .leq 3 rQ (.int .i64 (.ofNat 4))) S fun wZ S=>gQ x sO wZ (.bool false) fun v20=>bD v20 S K
theorem Ul (x:VE) (a0:V) (S:Hp) (K:KV):jI PP bI PI x [a0] S K=Ay x a0 S K:=by kernel_rfl
def UQ (x:VE) (a0:V) (S:Hp) (K:KV):Prop:=
 bH a0 fun v0=>
 aH PP .gtr 3 v0 (.int .i64 (.ofNat 0)) fun v1=>
 gK x true v1 a0 S fun v2 S=>gL x true v1 (x.call gG [v2,(.func EO [] [])] S) S fun v4 S=>gP x true v1 (SO .not v4) S fun v6 S=>gQ x v1 v6 (.bool false) fun v7=>bD v7 S K
theorem Mi (x:VE) (a0:V) (S:Hp) (K:KV):jI PP bI IU x [a0] S K=UQ x a0 S K:=by kernel_rfl
def OP (x:VE) (a0:V) (S:Hp) (K:KV):Prop:=
 aH PP .lss 3 a0 (.int .i64 (.ofNat 1)) fun v0=>
 gK x false v0 a0 S fun v1 S=>gP x false v0 (aH PP .gtr 3 v1 (.int .i64 (.ofNat 7))) S fun v3 S=>gQ x v0 (.bool true) v3 fun v4=>bD v4 S K
theorem He (x:VE) (a0:V) (S:Hp) (K:KV):jI PP bI EO x [a0] S K=OP x a0 S K:=by kernel_rfl
def qH (x:VE) (m:Nat) (t1 t6 t9 t10 t11:V) (S:Hp) (K:KV):Prop:=dG PP bI BA x [.r,.r,.l,.r,.d] m [] [t1,t6,t9,t10,t11] S K
def UR (x:VE) (a0 a1:V) (S:Hp) (K:KV):Prop:=
 bH a0 fun v0=>
 qH x x.most a1 .nil a0 v0 (.int .i64 (.ofNat 0)) S K
theorem Mj (x:VE) (a0 a1:V) (S:Hp) (K:KV):jI PP bI BA x [a0,a1] S K=UR x a0 a1 S K:=by kernel_rfl
def pC (x:VE) (m0:Nat) (t1 t6 t9 t10 t11:V) (S:Hp) (K:KV):Prop:=
 cH S fun S=>
 aH PP .lss 3 t11 t10 fun v0=>
 fS v0 (cF 1 t9 t11 fun v1=>aT v1 S fun v2 S=>LS .u64 v2 fun v3=>aS 22 1 iC [(0,1,v3)] S fun v4 S=>jT 22 1 8 t6 v4 S fun v5 S=>aH PP .add 3 t11 (.int .i64 (.ofNat 1)) fun v6=>qH x m0 t1 v5 t9 t10 v6 S K) (x.call EP [t6,(.int .u64 (.ofNat 0)),t1] S fun v7 S=>tK 0 v7 fun v8=>tK 1 v7 fun v9=>bD (.tuple [v8,v9]) S K)
theorem vI (x:VE) (m0:Nat) (t1 t6 t9 t10 t11:V) (S:Hp) (K:KV):qH x (m0+1) t1 t6 t9 t10 t11 S K=pC x m0 t1 t6 t9 t10 t11 S K:=by kernel_rfl
def nE (x:VE) (m:Nat) (t1 t2 t3 t4 t13 t14 t15:V) (S:Hp) (K:KV):Prop:=dG PP bI oP x [.r,.l,.r,.d] m [] [t1,t2,t3,t4,t13,t14,t15] S K
def JM (x:VE) (a0 a1 a2 a3 a4:V) (S:Hp) (K:KV):Prop:=
 bH a0 fun v0=>
 nE x x.most a1 a2 a3 a4 a0 v0 (.int .i64 (.ofNat 0)) S K
theorem ZU (x:VE) (a0 a1 a2 a3 a4:V) (S:Hp) (K:KV):jI PP bI oP x [a0,a1,a2,a3,a4] S K=JM x a0 a1 a2 a3 a4 S K:=by kernel_rfl
def qW (x:VE) (m0:Nat) (t1 t2 t3 t4 t13 t14 t15:V) (S:Hp) (K:KV):Prop:=
 cH S fun S=>
 aH PP .lss 3 t15 t14 fun v0=>
 fS v0 (cF 1 t13 t15 fun v1=>aT v1 S fun v2 S=>cF 1 t1 t15 fun v3=>aT v3 S fun v4 S=>lX x t3 [v2,v4] S fun v5 S=>lX x t4 [t2,v5] S fun v6 S=>aH PP .add 3 t15 (.int .i64 (.ofNat 1)) fun v7=>nE x m0 t1 v6 t3 t4 t13 t14 v7 S K) (bD t2 S K)
theorem yX (x:VE) (m0:Nat) (t1 t2 t3 t4 t13 t14 t15:V) (S:Hp) (K:KV):nE x (m0+1) t1 t2 t3 t4 t13 t14 t15 S K=qW x m0 t1 t2 t3 t4 t13 t14 t15 S K:=by kernel_rfl
def kA (x:VE) (m:Nat) (t1 t5 t8 t9 t10:V) (S:Hp) (K:KV):Prop:=dG PP bI qA x [.r,.r,.l,.r,.d] m [] [t1,t5,t8,t9,t10] S K
def MR (x:VE) (a0 a1:V) (S:Hp) (K:KV):Prop:=
 bH a0 fun v0=>
 kA x x.most a1 .nil a0 v0 (.int .i64 (.ofNat 0)) S K
theorem Dh (x:VE) (a0 a1:V) (S:Hp) (K:KV):jI PP bI qA x [a0,a1] S K=MR x a0 a1 S K:=by kernel_rfl
def qX (x:VE) (m0:Nat) (t1 t5 t8 t9 t10:V) (S:Hp) (K:KV):Prop:=
 cH S fun S=>
 aH PP .lss 3 t10 t9 fun v0=>
 fS v0 (cF 1 t8 t10 fun v1=>aT v1 S fun v2 S=>cF 1 v2 t1 fun v3=>aT v3 S fun v4 S=>aS 22 1 iC [(0,1,v4)] S fun v5 S=>jT 22 1 8 t5 v5 S fun v6 S=>aH PP .add 3 t10 (.int .i64 (.ofNat 1)) fun v7=>kA x m0 t1 v6 t8 t9 v7 S K) (bD t5 S K)
theorem yY (x:VE) (m0:Nat) (t1 t5 t8 t9 t10:V) (S:Hp) (K:KV):kA x (m0+1) t1 t5 t8 t9 t10 S K=qX x m0 t1 t5 t8 t9 t10 S K:=by kernel_rfl
def jR (x:VE) (m:Nat) (t1 t5 t8 t9 t10:V) (S:Hp) (K:KV):Prop:=dG PP bI kO x [.r,.r,.l,.r,.d] m [] [t1,t5,t8,t9,t10] S K
def CN (x:VE) (a0 a1:V) (S:Hp) (K:KV):Prop:=
 bH a0 fun v0=>
 jR x x.most a1 .nil a0 v0 (.int .i64 (.ofNat 0)) S K
theorem QY (x:VE) (a0 a1:V) (S:Hp) (K:KV):jI PP bI kO x [a0,a1] S K=CN x a0 a1 S K:=by kernel_rfl
def mV (x:VE) (m0:Nat) (t1 t5 t8 t9 t10:V) (S:Hp) (K:KV):Prop:=
 cH S fun S=>
 aH PP .lss 3 t10 t9 fun v0=>
 fS v0 (cF 1 t8 t10 fun v1=>aT v1 S fun v2 S=>cF 1 v2 t1 fun v3=>aT v3 S fun v4 S=>aS 51 1 cU [(0,1,v4)] S fun v5 S=>jT 51 1 24 t5 v5 S fun v6 S=>aH PP .add 3 t10 (.int .i64 (.ofNat 1)) fun v7=>jR x m0 t1 v6 t8 t9 v7 S K) (bD t5 S K)
theorem tS (x:VE) (m0:Nat) (t1 t5 t8 t9 t10:V) (S:Hp) (K:KV):jR x (m0+1) t1 t5 t8 t9 t10 S K=mV x m0 t1 t5 t8 t9 t10 S K:=by kernel_rfl
def qI (x:VE) (m:Nat) (t0 t1 t2 t9 t21 t22:V) (S:Hp) (K:KV):Prop:=dG PP bI EP x [.r,.r,.r,.l,.r,.d] m [] [t0,t1,t2,t9,t21,t22] S K
def YG (x:VE) (a0 a1 a2:V) (S:Hp) (K:KV):Prop:=
 x.call HD [a0,a2] S fun v0 S=>
 aH PP .neq 46 v0 (.int .i64 (.ofNat 0)) fun v1=>
 fS v1 (bD (.tuple [.nil,v0]) S K) (bH a0 fun v2=>qI x x.most a0 a1 a2 .nil v2 (.int .i64 (.ofNat 0)) S K)
theorem Se (x:VE) (a0 a1 a2:V) (S:Hp) (K:KV):jI PP bI EP x [a0,a1,a2] S K=YG x a0 a1 a2 S K:=by kernel_rfl
def pD (x:VE) (m0:Nat) (t0 t1 t2 t9 t21 t22:V) (S:Hp) (K:KV):Prop:=
 cH S fun S=>
 aH PP .lss 3 t22 t21 fun v0=>
 fS v0 (x.call dX [t0,t22,t1,t2] S fun v1 S=>tK 0 v1 fun v2=>tK 1 v1 fun v3=>tK 2 v1 fun v4=>aH PP .neq 46 v4 (.int .i64 (.ofNat 0)) fun v5=>fS v5 (bD (.tuple [.nil,v4]) S K) (x.call nX [v2,v3,t2] S fun v6 S=>aS 22 1 iC [(0,1,v6)] S fun v7 S=>jT 22 1 8 t9 v7 S fun v8 S=>aH PP .add 3 t22 (.int .i64 (.ofNat 1)) fun v9=>qI x m0 t0 t1 t2 v8 t21 v9 S K)) (bD (.tuple [t9,(.int .i64 (.ofNat 0))]) S K)
theorem vJ (x:VE) (m0:Nat) (t0 t1 t2 t9 t21 t22:V) (S:Hp) (K:KV):qI x (m0+1) t0 t1 t2 t9 t21 t22 S K=pD x m0 t0 t1 t2 t9 t21 t22 S K:=by kernel_rfl
def rX (x:VE) (m:Nat) (t0 t1 t5 t19 t20 t21:V) (S:Hp) (K:KV):Prop:=dG PP bI HD x [.r,.r,.r,.l,.r,.d] m [] [t0,t1,t5,t19,t20,t21] S K
def Bd (x:VE) (a0 a1:V) (S:Hp) (K:KV):Prop:=
 x.call Co [a1] S fun v0 S=>
 SO .not v0 fun v1=>
 fS v1 (bD (.int .i64 (.ofNat 1)) S K) (bH a0 fun v2=>aH PP .gtr 3 v2 (.int .i64 (.ofNat 1024)) fun v3=>fS v3 (bD (.int .i64 (.ofNat 40)) S K) (bH a0 fun v4=>Gl v4 S fun v5 S=>bH a0 fun v6=>rX x x.most a0 a1 v5 a0 v6 (.int .i64 (.ofNat 0)) S K))
theorem Uq (x:VE) (a0 a1:V) (S:Hp) (K:KV):jI PP bI HD x [a0,a1] S K=Bd x a0 a1 S K:=by kernel_rfl
def qJ (x:VE) (m0:Nat) (t0 t1 t5 t19 t20 t21:V) (S:Hp) (K:KV):Prop:=
 cH S fun S=>
 aH PP .lss 3 t21 t20 fun v0=>
 fS v0 (cF 1 t19 t21 fun v1=>aT v1 S fun v2 S=>aH PP .rem 22 v2 t1 fun v3=>Qt (.one (.int .u64)) (.int .i64 (.ofNat 0)) false t5 v3 S fun v4 S=>aH PP .add 3 v4 (.int .i64 (.ofNat 1)) fun v5=>zT (.one (.int .u64)) t5 v3 v5 S fun S=>aH PP .add 3 t21 (.int .i64 (.ofNat 1)) fun v6=>rX x m0 t0 t1 t5 t19 t20 v6 S K) (Qu t5 S fun v7 S=>bH t0 fun v8=>aH PP .lss 3 v7 v8 fun v9=>fS v9 (bD (.int .i64 (.ofNat 6)) S K) (bD (.int .i64 (.ofNat 0)) S K))
theorem wL (x:VE) (m0:Nat) (t0 t1 t5 t19 t20 t21:V) (S:Hp) (K:KV):rX x (m0+1) t0 t1 t5 t19 t20 t21 S K=qJ x m0 t0 t1 t5 t19 t20 t21 S K:=by kernel_rfl
def Hf (x:VE) (a0 a1 a2 a3:V) (S:Hp) (K:KV):Prop:=
 iD 22 a3 S fun v0 S=>
 aT v0 S fun v1 S=>
 aH PP .rem 22 (.int .u64 (.ofNat 1)) v1 fun v2=>
 aT v0 S fun v3 S=>
 aH PP .rem 22 (.int .u64 (.ofNat 1)) v3 fun v4=>
 aT v0 S fun v5 _=>
 aZ v5 v3 (aT v0 S fun v6 _=>aZ v6 v1 ((cW iC 22 S fun v7 S=>True)/\((cW iC 22 S fun v8 S=>True)/\(cW iC 22 S fun v9 S=>cW iC 22 S fun v10 S=>mL 1 v9 v2 S fun S=>aT v0 S fun v11 _=>aZ v11 v3 (mL 1 v10 v4 S fun S=>aT v0 S fun v12 S=>x.call Ba [a0,a1,a2,v12] S fun sO S=>PG x sO [7,11,12] [v0,v9,v10] 45 (DV PP dX [.r,.r,.l,.r,.d]) (DW PP dX [.r,.r,.l,.r,.d]) (yK PP dX [.r,.r,.l,.r,.d]) S fun pe S=>UA pe (aT v9 S fun AM S=>aT v0 S fun wU S=>x.call yI [AM,wU] S fun rQ S=>tK 0 rQ fun yE=>tK 1 rQ fun wZ=>aT v10 S fun v20 S=>bD (.tuple [yE,v20,wZ]) S K) (bD (.tuple [(.int .u64 (.ofNat 0)),(.int .u64 (.ofNat 0)),(.int .i64 (.ofNat 0))]) S K) (fun sS=>Au sS 0 (aT v9 S fun v21 S=>aT v0 S fun MY S=>x.call yI [v21,MY] S fun FI S=>tK 0 FI fun v24=>tK 1 FI fun TE=>aT v10 S fun ZS S=>bD (.tuple [v24,ZS,TE]) S K) (False)))))))
theorem aAE (x:VE) (a0 a1 a2 a3:V) (S:Hp) (K:KV):jI PP bI dX x [a0,a1,a2,a3] S K=Hf x a0 a1 a2 a3 S K:=by kernel_rfl
def JQ (x:VE) (l:Nat) (t7 t11 t12 a0 a1:V) (S:Hp) (K:KV):Prop:=
 At l S fun S=>
 aT t11 S fun v0 S=>
 aT t7 S fun v1 S=>
 aT t12 S fun v2 S=>
 aT t7 S fun v3 S=>
 x.call nX [v0,a0,v1] S fun v4 S=>
 aT t7 S fun v5 _=>
 aZ v5 v3 (aT t12 S fun v6 _=>aZ v6 v2 (x.call nX [v2,a1,v3] S fun v7 S=>mL 1 t11 v4 S fun S=>mL 1 t12 v7 S fun S=>JI l .ready none true S K))
theorem Dj (x:VE) (l:Nat) (t7 t11 t12 a0 a1:V) (S:Hp) (K:KV):XT PP bI x 45 (DV PP dX [.r,.r,.l,.r,.d]) (DW PP dX [.r,.r,.l,.r,.d]) (yK PP dX [.r,.r,.l,.r,.d]) l [t7,t11,t12] [a0,a1] S K=JQ x l t7 t11 t12 a0 a1 S K:=by kernel_rfl
theorem Dk:[7,11,12]=Ag bI 45 (yK PP dX [.r,.r,.l,.r,.d]):=by kernel_rfl
def Be (x:VE) (a0 a1 a2 a3:V) (S:Hp) (K:KV):Prop:=
 iD 51 a0 S fun v0 S=>
 iD 3 a1 S fun v1 S=>
 iD 22 a2 S fun v2 S=>
 iD 22 a3 S fun v3 S=>
 bD (.func BC [] [v0,v1,v3,v2]) S K
theorem Ur (x:VE) (a0 a1 a2 a3:V) (S:Hp) (K:KV):jI PP bI Ba x [a0,a1,a2,a3] S K=Be x a0 a1 a2 a3 S K:=by kernel_rfl
def gH (x:VE) (m:Nat) (t0 t1 t2 t3 t4 t8 t9 t10:V) (S:Hp) (K:KV):Prop:=dG PP bI BC x [.r,.d] m [] [t0,t1,t2,t3,t4,t8,t9,t10] S K
def US (x:VE) (a0 a1 a2 a3 a4:V) (S:Hp) (K:KV):Prop:=
 aT a1 S fun v0 S=>
 bH v0 fun v1=>
 gH x x.most a0 a1 a2 a3 a4 v0 v1 (.int .i64 (.ofNat 0)) S K
theorem Ml (x:VE) (a0 a1 a2 a3 a4:V) (S:Hp) (K:KV):jI PP bI BC x [a0,a1,a2,a3,a4] S K=US x a0 a1 a2 a3 a4 S K:=by kernel_rfl
def sY (x:VE) (m0:Nat) (t0 t1 t2 t3 t4 t8 t9 t10:V) (S:Hp) (K:KV):Prop:=
 cH S fun S=>
 aH PP .lss 3 t10 t9 fun v0=>
 fS v0 (cF 1 t8 t10 fun v1=>aT v1 S fun v2 S=>aT t2 S fun v3 S=>aH PP .neq 3 t10 v3 fun v4=>gK x true v4 t0 S fun v5 S=>gL x true v4 (aT t1 S) S fun v7 S=>gL x true v4 (aT t2 S) S fun v9 S=>gP x true v4 (cF 1 v7 v9) S fun v11 S=>gL x true v4 (aT v11 S) S fun sO S=>gK x true v4 v2 S fun sS S=>gL x true v4 (aT t3 S) S fun wU S=>gL x true v4 (aT t4 S) S fun yE S=>gK x true v4 v2 S fun wZ S=>gL x true v4 (aT t3 S) S fun v21 S=>gL x true v4 (x.call yH [sO,sS,wU] S) S fun FI S=>gC x true v4 v21 t3 S (gC x true v4 yE t4 S (gC x true v4 v9 t2 S (gC x true v4 v7 t1 S (aT t2 S fun v28 _=>aZ v28 v3 (gL x true v4 (x.call yH [yE,wZ,v21] S) S fun v30 S=>gC x true v4 v9 t2 S (gC x true v4 v7 t1 S (aT t2 S fun Sv _=>aZ Sv v3 (gL x true v4 (lX x v5 [FI,v30] S) S fun Rz S=>gC x true v4 v9 t2 S (gC x true v4 v7 t1 S (aT t2 S fun Gg _=>aZ Gg v3 (gP x true v4 (SO .not Rz) S fun v40 S=>gQ x v4 v40 (.bool false) fun v41=>fS v41 (bD (.tuple []) S K) (aH PP .add 3 t10 (.int .i64 (.ofNat 1)) fun Ma=>gH x m0 t0 t1 t2 t3 t4 t8 t9 Ma S K))))))))))))) (bD (.tuple []) S K)
theorem AB (x:VE) (m0:Nat) (t0 t1 t2 t3 t4 t8 t9 t10:V) (S:Hp) (K:KV):gH x (m0+1) t0 t1 t2 t3 t4 t8 t9 t10 S K=sY x m0 t0 t1 t2 t3 t4 t8 t9 t10 S K:=by kernel_rfl
set_option maxRecDepth 4000
section
variable{M n:Nat}{x:VE}{S:Hp}{K:KV}{two:Bool}
theorem aKH (hx:Deep PP bI gM M (n+1) x) (hK:K (ni 2) S):x.call AZ [.agg (pv two)] S K:=by
 refine hx.call rfl fun y hy=>?_;rw [Ly];unfold UI;refine cA jV fun b hb=>?_;rw [aU,cQ (o:=7) aC rfl,aU,cQ (o:=8) aC rfl,bE (by decide),Cn (by decide)];exact bL (.aI hb) hK
theorem aRm (hx:Deep PP bI gM M (n+1) x){S0:Hp}{w:V}{l:List Nat}{b:Nat} (hw:NL S0 S w l) (rb:S b=some (.row (pv two) 29)) (hK:K (.bool (!decide (l.length=2))) S):x.call MQ [w,.ptr b 0] S K:=by
 refine hx.call rfl fun y hy=>?_;rw [Rv];unfold XZ;rw [hw.nv.len,aU,cQ (o:=6) rb rfl,show(ni (tT two):V)=ni 1 from rfl,bE (by decide),aFI];exact aL hK
theorem aRn (hx:Deep PP bI gM M (n+3) x){b a e:Nat} (ha:EY a) (he:EY e) (rb:S b=some (.row (pv two) 29)) (hK:K (nu (pw a e)) S):x.call jY [nu a,nu e,.ptr b 0] S K:=by
 refine hx.call rfl fun y hy=>?_;rw [Rw];unfold YA;rw [lC rb];refine Fm (two:=two) hy ha he ?_;exact aL hK
theorem aRo (hM:1000000<M) (hx:Deep PP bI gM M (n+3) x){b a c:Nat} (ha:EY a) (hc:EY c) (rb:S b=some (.row (pv two) 29)) (hK:K (nu (LW [a,c])) S):x.call jZ [nu a,nu c,.ptr b 0] S K:=by
 refine hx.call rfl fun y hy=>?_;rw [Rx];unfold YB;rw [lC rb];refine Iu fun j hj=>?_;have le:bO S (aK S j (.row (nY [a,c]) 22)):= .aI hj;refine XD (two:=two) hM hy (.own (l:=[a,c]) aC (fun i z h=>by rw [eG];exact IP h) (by rw [nZ];simp)) (fun z hz=>?_) (by simp) ?_
 ·rcases List.mem_cons.1 hz with rfl | hz
  ·exact ha
  ·rcases List.mem_cons.1 hz with rfl | hz
   ·exact hc
   ·cases hz
 ·exact bL le hK
end
set_option maxRecDepth 4000
def Ku:List (Nat×Nat)->Nat->Nat
 | [],a=>a
 | (y,w)::l,a=>Ku l (LW [a,pw y w])
section
variable{M n:Nat}{x:VE}{S S0:Hp}{K:KV}{two:Bool}
theorem aKI (hx:Deep PP bI gM M (n+1) x) (hK:K (.bool true) S):x.call PI [.agg (pv two)] S K:=by
 refine hx.call rfl fun y hy=>?_;rw [Ul];unfold Ay gP gL gQ;refine cA jV fun b hb=>?_;have dF:bO S (aK S b (.row (pv two) 29)):= .aI hb;have rb:aK S b (.row (pv two) 29) b=some (.row (pv two) 29):=aC;generalize aK S b (.row (pv two) 29)=S1 at dF rb;have l7:∀{K:KV},aT (.ptr b 7) S1 K=K (ni 1) S1:=cQ rb rfl;have l8:∀{K:KV},aT (.ptr b 8) S1 K=K (ni 1) S1:=cQ rb rfl;rw [aU,l7,aU,l8];show aH PP .geq 3 (ni 1) (ni 0) _;rw [zE];simp only [aF,BG,decide_true,aM,aU,l7,l8];show aH PP .leq 3 (ni 1) (ni 2) _;rw [KL];show Vz (.bool true) (.bool true) _ _;rw [dJ];simp only [aM,l8];show aH PP .leq 3 (ni 1) (ni 4) _;rw [KL];exact bL dF hK
theorem aKJ (hM:1000000<M) (hx:Deep PP bI gM M (n+4) x){v vw:V}{l w:List Nat}{b:Nat} (hlw:l.length=w.length) (h:NV S v l) (hw:NV S vw w) (UX:LP l) (aKK:LP w) (hl:l.length<1000000) (rb:S b=some (.row (pv two) 29)){R:Nat} (hK:K (nu R) S):
 ∀(r i m:Nat) (a:Nat) (S1:Hp),bO S S1->a<23->i+r=l.length->r<m->Ku ((l.zip w).drop i) a=R->nE x m vw (nu a) (.func jY [] [.ptr b 0]) (.func jZ [] [.ptr b 0]) v (ni l.length) (ni i) S1 K:=by
 intro r;induction r with
 | zero=>
  intro i m a S1 hs ha hi hm he;obtain⟨m,rfl⟩:=bG (show m≠0 by omega);rw [yX];unfold qW;refine tI S hs ?_;rw [aN,iN (by omega),aW];rw [oS (by rw [List.length_zip];omega)]at he;have he:a=R:=he;rw [he];exact aL hK
 | succ r ih=>
  intro i m a S1 hs ha hi hm he;obtain⟨m,rfl⟩:=bG (show m≠0 by omega);rw [yX];unfold qW;refine tI S hs ?_;have hlt:i<l.length:=by omega
  have aHX:i<w.length:=by omega
  obtain⟨p,hp,RD⟩:=h.at (i:=i) (aQ hlt);obtain⟨p2,Kj,aPs⟩:=hw.at (i:=i) (aQ aHX);rw [aN,wX hlt,bQ,hp,RD S (.refl S),Kj,aPs S (.refl S)];have p3:=aFh l[i] w[i];show x.call jY [nu l[i],nu w[i],.ptr b 0] S _;refine aRn (n:=n+1) (two:=two) hx (UX _ (cK hlt)) (aKK _ (cK aHX)) rb ?_;show x.call jZ [nu a,nu (pw l[i] w[i]),.ptr b 0] S _;refine aRo (n:=n+1) (two:=two) hM hx (show a<18446744073709551616 by omega) (show pw l[i] w[i]<18446744073709551616 by omega) rb ?_;rw [bE (by omega)];refine ih (i+1) m _ S (.refl S) (QO _) (by omega) (by omega) ?_;rw [lP (show i<(l.zip w).length by rw [List.length_zip];omega)]at he;rw [List.getElem_zip]at he;exact he
theorem aMQ (hM:1000000<M) (hx:Deep PP bI gM M (n+5) x){v vw:V}{l w:List Nat}{b a:Nat} (hlw:l.length=w.length) (h:NV S v l) (hw:NV S vw w) (UX:LP l) (aKK:LP w) (hl:l.length<1000000) (rb:S b=some (.row (pv two) 29)) (ha:a<23) (hK:K (nu (Ku (l.zip w) a)) S):
 x.call oP [v,vw,nu a,.func jY [] [.ptr b 0],.func jZ [] [.ptr b 0]] S K:=by
 refine hx.call rfl fun y hy=>?_;rw [ZU];unfold JM;rw [h.len,hy.most];exact aKJ (two:=two) hM hy hlw h hw UX aKK hl rb hK l.length 0 M a S (.refl S) ha (by omega) (by omega) rfl
def QT (ls:List (List Nat)) (j:Nat):List Nat:=ls.map fun l=>l.getD j 0
theorem aMR (hx:Deep PP bI gM M (n+1) x){O:Tag}{ls:List (List Nat)}{j:Nat} (hj:∀l∈ls,j<l.length) (hl:ls.length<1000000) (hK:∀O,K (.list O (jK (QT ls j)) (QT ls j).length) S):
 ∀(r i m:Nat) (u:V) (acc:List Nat) (S1:Hp),bO S S1->MN S S1 u acc->i+r=ls.length->r<m->acc++QT (ls.drop i) j=QT ls j->kA x m (ni j) u (.list O (dS ls) ls.length) (ni ls.length) (ni i) S1 K:=by
 intro r;induction r with
 | zero=>
  intro i m u acc S1 hs CU hi hm he;obtain⟨m,rfl⟩:=bG (show m≠0 by omega);rw [yY];unfold qX;refine aE ?_;rw [aN,iN (by omega),aW];rw [oS (by omega)]at he;have he:acc=QT ls j:=by simpa [QT]using he
  subst he;exact gJ hs CU.Cm hK
 | succ r ih=>
  intro i m u acc S1 hs CU hi hm he;obtain⟨m,rfl⟩:=bG (show m≠0 by omega);rw [yY];unfold qX;refine aE ?_;have hlt:i<ls.length:=by omega
  have hv:RL S1 S1 (.list O (dS ls) ls.length) ls:= .val;obtain⟨q,w,hq,RD,hw⟩:=hv.at (i:=i) (aQ hlt);have hjl:=hj _ (cK hlt);obtain⟨q2,Xz,aPs⟩:=hw.nv.at (i:=j) (aQ hjl);rw [aN,wX hlt,bQ,hq,RD S1 (.refl S1),Xz,aPs S1 (.refl S1)]
  have ha:acc.length<=ls.length:=by
   have:=iZ List.length he;simp [QT]at this;omega
  refine CU.app hs (by omega) fun u2 S2 tZ _ YR=>?_;rw [bE (by omega)];refine ih (i+1) m u2 _ S2 tZ YR (by omega) (by omega) ?_;rw [lP hlt]at he;rw [<-he,BE];show _=acc++QT (ls[i]::ls.drop (i+1)) j;have:ls[i].getD j 0=ls[i][j]:=by rw [BD,aQ hjl];rfl
  show acc++([ls[i][j]]++_)=acc++(ls[i].getD j 0::_);rw [this];rfl
theorem aPt (hM:1000000<M) (hx:Deep PP bI gM M (n+2) x){O:Tag}{ls:List (List Nat)}{j:Nat} (hj:∀l∈ls,j<l.length) (hl:ls.length<1000000) (hK:∀O,K (.list O (jK (QT ls j)) (QT ls j).length) S):x.call qA [.list O (dS ls) ls.length,ni j] S K:=by
 refine hx.call rfl fun y hy=>?_;rw [Dh];unfold MR;show kA y y.most (ni j) .nil (.list O (dS ls) ls.length) (ni ls.length) (ni 0) S K;rw [hy.most];exact aMR hy hj hl hK ls.length 0 M .nil [] S (.refl S) .nil (by omega) (by omega) (by simp)
end
set_option maxRecDepth 4000
def FG (ms:List (List (List Nat))) (s:Nat):List (List Nat):=ms.map fun l=>l.getD s []
section
variable{M n:Nat}{x:VE}{S S0:Hp}{K:KV}{two:Bool}
theorem Gx (a b:List (List Nat)):dS (a++b)=dS a++dS b:=RI
theorem HB (a:List (List Nat)):(dS a).length=a.length:=lR _
theorem aKL (hx:Deep PP bI gM M (n+1) x){v:V}{ms:List (List (List Nat))}{s:Nat} (hs0:∀l∈ms,s<l.length) (hl:ms.length<1000000) (h:GL 33 S0 S v (mD ms)) (hK:∀O,K (.list O (dS (FG ms s)) (FG ms s).length) S):
 ∀(r i m:Nat) (u:V) (acc:List (List Nat)) (S1:Hp),bO S S1->GL 51 S S1 u (dS acc)->i+r=ms.length->r<m->acc++FG (ms.drop i) s=FG ms s->jR x m (ni s) u v (ni ms.length) (ni i) S1 K:=by
 intro r;induction r with
 | zero=>
  intro i m u acc S1 hs CU hi hm he;obtain⟨m,rfl⟩:=bG (show m≠0 by omega);rw [tS];unfold mV;refine aE ?_;rw [aN,iN (by omega),aW];rw [oS (by omega)]at he;have he:acc=FG ms s:=by simpa [FG]using he
  subst he;have hf:=CU.Cm;rw [HB]at hf;exact gJ hs hf hK
 | succ r ih=>
  intro i m u acc S1 hs CU hi hm he;obtain⟨m,rfl⟩:=bG (show m≠0 by omega);rw [tS];unfold mV;refine aE ?_;have hlt:i<ms.length:=by omega
  have hd:(mD ms)[i]? =some (.list (dS ms[i]) ms[i].length):=by unfold mD;rw [dO,aQ hlt];rfl
  obtain⟨q,t,hq,RD⟩:=(h.up hs).at hd;have XC:=hs0 _ (cK hlt);have hd2:(dS ms[i])[s*1]? =some (.list (jK ms[i][s]) ms[i][s].length):=by rw [jL];unfold dS;rw [dO,aQ XC];rfl
  rw [aN,wX hlt,bQ,hq,RD S1 (.refl S1)];show cF 1 (.list t (dS ms[i]) ms[i].length) (ni s) _;rw [fH XC,sJ,cI hd2]
  have ha:acc.length<=ms.length:=by
   have:=iZ List.length he;simp [FG]at this;omega
  refine GL.app (d:= .list (jK ms[i][s]) ms[i][s].length) CU hs (by rw [HB];omega) (zv:= .nil) rfl (by decide) fun u2 S2 tZ _ _ YR=>?_;rw [bE (by omega)];have e3:dS acc++[.list (jK ms[i][s]) ms[i][s].length]=dS (acc++[ms[i][s]]):=by rw [Gx];rfl
  rw [e3]at YR;refine ih (i+1) m u2 _ S2 tZ YR (by omega) (by omega) ?_;rw [lP hlt]at he;rw [<-he,BE];have:ms[i].getD s []=ms[i][s]:=by rw [BD,aQ XC];rfl
  show acc++([ms[i][s]]++_)=acc++(ms[i].getD s []::_);rw [this];rfl
theorem aMS (hM:1000000<M) (hx:Deep PP bI gM M (n+2) x){v:V}{ms:List (List (List Nat))}{s:Nat} (hs0:∀l∈ms,s<l.length) (hl:ms.length<1000000) (h:GL 33 S0 S v (mD ms)) (hK:∀O,K (.list O (dS (FG ms s)) (FG ms s).length) S):x.call kO [v,ni s] S K:=by
 refine hx.call rfl fun y hy=>?_;rw [QY];unfold CN;have UW:(mD ms).length=ms.length:=lR _;rw [h.len,UW,hy.most];exact aKL hy hs0 hl h hK ms.length 0 M .nil [] S (.refl S) .nil (by omega) (by omega) (by simp)
end
end Go.Am
namespace Go.Am
open Go.Proofs.NQ
structure VB where
 ep:Nat
 mem:List Int
 eH:List (List Nat)
 next:List Int
 asked:List (Int×List Int)
structure En where
 kind:Nat
 id:Int
 ep:Int
 x:List Int
 eH:List (List Nat)
 next:List Int
 fB:List (Int×List (List Nat))
def dlF:List (Int×List (List Nat))->Int->Bool
 | [],_=>true
 | d::l,last=> !(decide (d.1<=last) || (decide (4<d.1) || !xW d.2))&&dlF l d.1
def mM (ds:List (Int×List (List Nat))):Bool:=dlF ds 0&&decide (ds.length=2)
def XX (ls:List (List Nat)):List Nat:=QT ls 0
def AT (eH:List (List Nat)) (ds:List (Int×List (List Nat))):Bool:=ds.all fun d=>decide (XX d.2=zN eH d.1.toNat)
def wt (a b:Nat):Nat:=(CO (iB a b 11*1%11+1) 11 (iB a b 11%11) 0 (1%11) 11).2*iB 0 b 11%11
def wts (a b:Nat):List Nat:=[wt a b,wt b a]
def aQ6 (ds:List (Int×List (List Nat))) (w:List Nat):List (List Nat):=
 [0,1].map fun s=>[0,1].map fun j=>Ku ((QT (FG (ds.map Prod.snd) s) j).zip w) (LW [])
def MF (ds:List (Int×List (List Nat))):List (List Nat):=match ds with
 | [d,e]=>aQ6 ds (wts d.1.toNat e.1.toNat)
 | _=>[]
def qF (x:List Int):Nat:=if x.length=1 then(if x.any fun n=>decide (n< -1) || decide (1<n)then 20 else 0)else 4
def zU (asked:List (Int×List Int)) (id:Int) (x:List Int):Nat:=
 if qF x=4\/id<1\/1099511627776<id then 4 else if qF x≠0 then qF x else
 if asked.any fun a=>decide (a.1=id)then 6 else if 8<=asked.length then 41 else if asked.any fun a=> !decide (a.2=x)then 22 else 0
open Classical in
def xD (s:VB) (e:En):VB×Nat:=
 if e.kind=1 then(if s.ep≠0 then(s,7)else if xW e.eH=false then(s,4)else({s with ep:=1,eH:=e.eH},0))
 else if e.kind=2 then(if s.ep=0 then(s,7)else if zU s.asked e.id e.x=0 then({s with asked:=s.asked++[(e.id,e.x)]},0)else(s,zU s.asked e.id e.x))
 else if e.kind=3 then(if s.ep=0 then(s,7)else if ¬(s.next.length=0/\e.ep=s.ep)then(s,7)else if HV e.next=false then(s,4)else({s with next:=e.next},0))
 else if e.kind=4 then(if ¬(0<s.next.length/\e.ep=s.ep)then(s,7)else if mM e.fB=false then(s,4)else if AT s.eH e.fB=false then(s,21)else
  (⟨s.ep+1,s.next,MF e.fB,[],s.asked⟩,0))
 else(s,4)
structure XP (s:VB):Prop where
 mem:HV s.mem=true
 c0:s.ep=0->s.eH=[]/\s.next=[]
 c1:0<s.ep->xW s.eH=true
 nx:s.next=[]\/HV s.next=true
 ask:∃x:Int,-1<=x/\x<=1/\∀a∈s.asked,a.2=[x]
 few:s.asked.length<=8
theorem YU{l:List Int} (h:HV l=true):l.length=4:=by
 unfold HV at h;rw [dR]at h;exact of_decide_eq_true h.1
theorem GI{l:List (List Nat)}:xW l=true↔l.length=2/\∀c∈l,c.length=2/\∀a∈c,Kw a=true:=by
 unfold xW;rw [dR,decide_eq_true_iff,KN,List.any_eq_false];refine and_congr_right fun _=>forall_congr' fun c=>imp_congr_right fun _=>?_;rw [Bool.not_eq_true,Bool.or_eq_false_iff,Bool.not_eq_false',decide_eq_true_iff,List.any_eq_false];refine and_congr_right fun _=>forall_congr' fun a=>imp_congr_right fun _=>?_;rw [Bool.not_eq_true,Bool.not_eq_false']
theorem Iz{a:Nat} (h:Kw a=true):a<23:=by
 unfold Kw at h;simp only [dR,decide_eq_true_iff]at h;exact h.2.1
theorem aFF (a b:Nat):wt a b<11:=iY _ (by decide)
set_option maxRecDepth 20000 in
theorem aSC:∀a<23,Kw a=true->∀e<11,Kw (pw a e)=true:=by decide
set_option maxRecDepth 20000 in
theorem aPg:∀a<23,Kw a=true->∀b<23,Kw b=true->Kw (LW [a,b])=true:=by decide
theorem aMA:∀(l:List (Nat×Nat)) (a:Nat),Kw a=true->(∀p∈l,Kw p.1=true/\p.2<11)->Kw (Ku l a)=true:=by
 intro l;induction l with
 | nil=>intro a h _;exact h
 | cons p l ih=>
  intro a h hl;obtain⟨y,w⟩:=p;have h1:=hl _ (.head _);have h2:=aSC y (Iz h1.1) h1.1 w h1.2;exact ih _ (aPg a (Iz h) h _ (Iz h2) h2) fun p hp=>hl p (.tail _ hp)
theorem aAt:∀(ds:List (Int×List (List Nat))) (z:Int),dlF ds z=true->∀d∈ds,z<d.1/\d.1<=4/\xW d.2=true:=by
 intro ds;induction ds with
 | nil=>intro z _ d hd;cases hd
 | cons a ds ih=>
  intro z h d hd;unfold dlF at h;simp only [dR,KN,Bool.or_eq_false_iff,decide_eq_false_iff_not,Bool.not_eq_false']at h;rcases List.mem_cons.1 hd with rfl | hd
  ·exact⟨by omega,by omega,h.1.2.2⟩
  ·obtain⟨h1,h2,h3⟩:=ih a.1 h.2 d hd
   exact⟨by omega,h2,h3⟩
theorem Kx{ds:List (Int×List (List Nat))} (h:mM ds=true):∃d e,ds=[d,e]/\0<d.1/\d.1<e.1/\e.1<=4/\xW d.2=true/\xW e.2=true:=by
 unfold mM at h;rw [dR,decide_eq_true_iff]at h;obtain⟨h,hl⟩:=h
 match ds,hl with
 | [d,e],_=>
  have h1:=aAt _ _ h d (.head _);have h2:=aAt _ _ h e (.tail _ (.head _));unfold dlF at h;rw [dR]at h;have h3:=aAt _ _ h.2 e (.head _);exact⟨d,e,rfl,h1.1,h3.1,h2.2.1,h1.2.2,h2.2.2⟩
theorem Nj{l:List (List Nat)} (h:xW l=true){s j:Nat} (hs:s<2) (hj:j<2):Kw ((l.getD s []).getD j 0)=true:=by
 obtain⟨h1,h2⟩:=GI.1 h;have hs':s<l.length:=by omega
 have e1:l.getD s []=l[s]:=by rw [BD,aQ hs'];rfl
 obtain⟨h3,h4⟩:=h2 _ (cK hs');rw [e1];have Xp:j<l[s].length:=by omega
 have e2:l[s].getD j 0=l[s][j]:=by rw [BD,aQ Xp];rfl
 rw [e2];exact h4 _ (cK Xp)
theorem aHb{ds:List (Int×List (List Nat))} (h:mM ds=true):xW (MF ds)=true:=by
 obtain⟨d,e,rfl,h1,h2,h3,f1,f2⟩:=Kx h;refine GI.2 ⟨rfl,fun c hc=>?_⟩;obtain⟨s,hs,rfl⟩:=List.mem_map.1 hc;have tZ:s<2:=by simp at hs;omega
 refine⟨rfl,fun a ha=>?_⟩;obtain⟨j,hj,rfl⟩:=List.mem_map.1 ha;have Tt:j<2:=by simp at hj;omega
 refine aMA _ _ (by decide) fun p hp=>?_
 have hp:p=((d.2.getD s []).getD j 0,wt d.1.toNat e.1.toNat)\/p=((e.2.getD s []).getD j 0,wt e.1.toNat d.1.toNat):=by
  simpa [QT,FG,wts]using hp
 rcases hp with rfl | rfl
 ·exact⟨Nj f1 tZ Tt,aFF _ _⟩
 ·exact⟨Nj f2 tZ Tt,aFF _ _⟩
theorem Wp{asked:List (Int×List Int)}{id:Int}{x:List Int} (h:zU asked id x=0):(∃z:Int,x=[z]/\ -1<=z/\z<=1)/\(∀a∈asked,a.2=x)/\asked.length<8:=by
 unfold zU at h;split at h
 ·cases h
 ·rename_i c1
  split at h
  ·rename_i c2;exact aX h c2
  ·rename_i c2
   split at h
   ·cases h
   ·split at h
    ·cases h
    ·rename_i c4
     split at h
     ·cases h
     ·rename_i c5
      refine⟨?_,?_,by omega⟩
      ·have c2:qF x=0:=Classical.not_not.1 c2
       unfold qF at c2;split at c2
       ·rename_i hx
        split at c2
        ·cases c2
        ·rename_i hn
         match x,hx with
         | [z],_=>exact⟨z,rfl,by simp at hn;omega,by simp at hn;omega⟩
       ·cases c2
      ·intro a ha
       simp only [List.any_eq_true,not_exists,not_and]at c5;have:=c5 a ha;simpa using this
theorem XP.step{s:VB} (h:XP s) (e:En):XP (xD s e).1:=by
 unfold xD;split
 ·split
  ·exact h
  ·split
   ·exact h
   ·rename_i h1 h2
    have h0:s.ep=0:=Classical.not_not.1 h1;obtain⟨a,b⟩:=h.c0 h0;exact⟨h.mem,fun c=>aX c (Nq 0),fun _=>(by simpa using h2),h.nx,h.ask,h.few⟩
 ·split
  ·split
   ·exact h
   ·split
    ·rename_i h1 h2
     obtain⟨⟨z,hx,Hy,Sm⟩,ha,hl⟩:=Wp h2;refine⟨h.mem,h.c0,h.c1,h.nx,⟨z,Hy,Sm,fun a hm=>?_⟩,by simp;omega⟩;rcases List.mem_append.1 hm with hm | hm
     ·rw [ha a hm,hx]
     ·rcases List.mem_cons.1 hm with rfl | hm
      ·exact hx
      ·cases hm
    ·exact h
  ·split
   ·split
    ·exact h
    ·split
     ·exact h
     ·split
      ·exact h
      ·rename_i h1 h2 h3
       exact⟨h.mem,fun c=>aX c h1,h.c1,.inr (by simpa using h3),h.ask,h.few⟩
   ·split
    ·split
     ·exact h
     ·split
      ·exact h
      ·split
       ·exact h
       ·rename_i h1 h2 h3
        have h1:=Classical.not_not.1 h1;refine⟨?_,fun c=>(by cases c),fun _=>aHb (by simpa using h2),.inl rfl,h.ask,h.few⟩;rcases h.nx with q | q
        ·rw [q]at h1;exact aX h1.1 (by decide)
        ·exact q
    ·exact h
theorem aJD (s:VB) (e:En):(xD s e).2≠0->(xD s e).1=s:=by
 unfold xD;intro h
 repeat' (split at h<;>try (exact aX rfl h))
 all_goals simp_all
def Gt (s:VB) (e:En) (v:VB):Bool:=
 let aNA:=decide (e.kind=1) || decide (e.kind=4)
 !(aNA != decide (v.ep=s.ep+1) || (!aNA&& !decide (v.ep=s.ep) || (decide (e.kind=1)&& !decide (s.ep=0))))&&
 !((decide (e.kind=3) || decide (e.kind=2)&&decide (0<s.next.length)) != decide (0<v.next.length) || (decide (e.kind=2) != decide (v.asked.length=s.asked.length+1)))
theorem aD7{asked:List (Int×List Int)}{id:Int}{x:List Int} (h:zU asked id x=0):zU (asked++[(id,x)]) id x≠0:=by
 obtain⟨⟨z,rfl,h1,h2⟩,h3,h4⟩:=Wp h;unfold zU;have e:(asked++[(id,[z])]).any (fun a=>decide (a.1=id))=true:=by simp
 rw [e];split
 ·decide
 ·split
  ·rename_i c;exact c
  ·rw [aJ rfl];decide
theorem aGP{s:VB} (h:XP s) (e:En) (h0:(xD s e).2=0):Gt s e (xD s e).1=true/\(xD (xD s e).1 e).2≠0:=by
 by_cases k1:e.kind=1
 ·have d:xD s e=if s.ep≠0 then(s,7)else if xW e.eH=false then(s,4)else({s with ep:=1,eH:=e.eH},0):=by unfold xD;rw [aJ k1]
  by_cases c1:s.ep=0
  ·by_cases c2:xW e.eH=false
   ·rw [d,aG (by simpa using c1),aJ c2]at h0;cases h0
   ·have d2:xD s e=({s with ep:=1,eH:=e.eH},0):=by rw [d,aG (by simpa using c1),aG c2]
    rw [d2];obtain⟨a,b⟩:=h.c0 c1;refine⟨?_,?_⟩
    ·simp [Gt,k1,c1,b]
    ·unfold xD;rw [aJ k1,aJ (Nq 0)];exact Nq 6
  ·rw [d,aJ c1]at h0;cases h0
 ·by_cases k2:e.kind=2
  ·have d:∀s,xD s e=if s.ep=0 then(s,7)else if zU s.asked e.id e.x=0 then({s with asked:=s.asked++[(e.id,e.x)]},0)else(s,zU s.asked e.id e.x):=fun s=>by unfold xD;rw [aG k1,aJ k2]
   by_cases c1:s.ep=0
   ·rw [d,aJ c1]at h0;cases h0
   ·by_cases c2:zU s.asked e.id e.x=0
    ·have d2:xD s e=({s with asked:=s.asked++[(e.id,e.x)]},0):=by rw [d,aG c1,aJ c2]
     rw [d2];refine⟨?_,?_⟩
     ·simp [Gt,k2]
     ·have c3:=aD7 c2
      rw [d,aG c1,aG c3];exact c3
    ·rw [d,aG c1,aG c2]at h0;exact aX h0 c2
  ·by_cases k3:e.kind=3
   ·have d:∀s,xD s e=if s.ep=0 then(s,7)else if ¬(s.next.length=0/\e.ep=s.ep)then(s,7)else if HV e.next=false then(s,4)else({s with next:=e.next},0):=fun s=>by unfold xD;rw [aG k1,aG k2,aJ k3]
    by_cases c1:s.ep=0
    ·rw [d,aJ c1]at h0;cases h0
    ·by_cases c2:s.next.length=0/\e.ep=s.ep
     ·by_cases c3:HV e.next=false
      ·rw [d,aG c1,aG (not_not_intro c2),aJ c3]at h0;cases h0
      ·have d2:xD s e=({s with next:=e.next},0):=by rw [d,aG c1,aG (not_not_intro c2),aG c3]
       have hl:=YU (by simpa using c3);rw [d2];refine⟨?_,?_⟩
       ·simp [Gt,k3,hl]
       ·rw [d,aG c1,aJ (fun q=>by have:=q.1;simp only at this;omega)];exact Nq 6
     ·rw [d,aG c1,aJ c2]at h0;cases h0
   ·by_cases k4:e.kind=4
    ·have d:∀s,xD s e=if ¬(0<s.next.length/\e.ep=s.ep)then(s,7)else if mM e.fB=false then(s,4)else if AT s.eH e.fB=false then(s,21)else(⟨s.ep+1,s.next,MF e.fB,[],s.asked⟩,0):=fun s=>by unfold xD;rw [aG k1,aG k2,aG k3,aJ k4]
     by_cases c2:0<s.next.length/\e.ep=s.ep
     ·by_cases c3:mM e.fB=false
      ·rw [d,aG (not_not_intro c2),aJ c3]at h0;cases h0
      ·by_cases c4:AT s.eH e.fB=false
       ·rw [d,aG (not_not_intro c2),aG c3,aJ c4]at h0;cases h0
       ·have d2:xD s e=(⟨s.ep+1,s.next,MF e.fB,[],s.asked⟩,0):=by rw [d,aG (not_not_intro c2),aG c3,aG c4]
        rw [d2];refine⟨?_,?_⟩
        ·simp [Gt,k4]
        ·rw [d,aJ (fun q=>by have:=q.1;simp at this)];exact Nq 6
     ·rw [d,aJ c2]at h0;cases h0
    ·have d:xD s e=(s,4):=by unfold xD;rw [aG k1,aG k2,aG k3,aG k4]
     rw [d]at h0;cases h0
end Go.Am
set_option maxRecDepth 100000
namespace Go.Am
def qD (x:VE) (m:Nat) (t2 t3 t7 t12 t13 t14:V) (S:Hp) (K:KV):Prop:=dG PP bI EM x [.r,.r,.l,.r,.d] m [] [t2,t3,t7,t12,t13,t14] S K
def oQ (x:VE) (m:Nat) (t3 t7 t26 t27 t28:V) (S:Hp) (K:KV):Prop:=dG PP bI EM x [.r,.r,.r,.l,.r,.d] m [] [t3,t7,t26,t27,t28] S K
def Gz (x:VE) (a0 a1 a2:V) (S:Hp) (K:KV):Prop:=
 iD 29 a0 S fun v0 S=>
 bH a1 fun v1=>
 qD x x.most a2 v0 .nil a1 v1 (.int .i64 (.ofNat 0)) S K
theorem aAB (x:VE) (a0 a1 a2:V) (S:Hp) (K:KV):jI PP bI EM x [a0,a1,a2] S K=Gz x a0 a1 a2 S K:=by kernel_rfl
def zZ (x:VE) (m0:Nat) (t2 t3 t7 t12 t13 t14:V) (S:Hp) (K:KV):Prop:=
 cH S fun S=>
 aH PP .lss 3 t14 t13 fun v0=>
 fS v0 (cF 2 t12 t14 fun v1=>bN 2 v1 S fun v2 S=>cW uZ 111 S fun v3 S=>mL 2 v3 v2 S fun S=>bN 12 t3 S fun v4 S=>aP 1 v3 fun v5=>aT v5 S fun v6 S=>x.call OJ [v4,v6] S fun v7 S=>aS 51 1 cU [(0,1,v7)] S fun v8 S=>jT 51 1 24 t7 v8 S fun v9 S=>aH PP .add 3 t14 (.int .i64 (.ofNat 1)) fun v10=>qD x m0 t2 t3 v9 t12 t13 v10 S K) (bH t2 fun v11=>oQ x x.most t3 t7 t2 v11 (.int .i64 (.ofNat 0)) S K)
theorem JO (x:VE) (m0:Nat) (t2 t3 t7 t12 t13 t14:V) (S:Hp) (K:KV):qD x (m0+1) t2 t3 t7 t12 t13 t14 S K=zZ x m0 t2 t3 t7 t12 t13 t14 S K:=by kernel_rfl
def rU (x:VE) (m0:Nat) (t3 t7 t26 t27 t28:V) (S:Hp) (K:KV):Prop:=
 cH S fun S=>
 aH PP .lss 3 t28 t27 fun v0=>
 fS v0 (cF 1 t26 t28 fun v1=>aT v1 S fun v2 S=>bN 12 t3 S fun v3 S=>x.call OJ [v3,v2] S fun v4 S=>aS 51 1 cU [(0,1,v4)] S fun v5 S=>jT 51 1 24 t7 v5 S fun v6 S=>aH PP .add 3 t28 (.int .i64 (.ofNat 1)) fun v7=>oQ x m0 t3 v6 t26 t27 v7 S K) (bD t7 S K)
theorem yA (x:VE) (m0:Nat) (t3 t7 t26 t27 t28:V) (S:Hp) (K:KV):oQ x (m0+1) t3 t7 t26 t27 t28 S K=rU x m0 t3 t7 t26 t27 t28 S K:=by kernel_rfl
def qE (x:VE) (m:Nat) (t3 t6 t7 t8:V) (S:Hp) (K:KV):Prop:=dG PP bI EN x [.r,.r,.l,.r,.d] m [] [t3,t6,t7,t8] S K
def Ha (x:VE) (a0:V) (S:Hp) (K:KV):Prop:=
 bH a0 fun v0=>
 qE x x.most .nil a0 v0 (.int .i64 (.ofNat 0)) S K
theorem aAC (x:VE) (a0:V) (S:Hp) (K:KV):jI PP bI EN x [a0] S K=Ha x a0 S K:=by kernel_rfl
def AA (x:VE) (m0:Nat) (t3 t6 t7 t8:V) (S:Hp) (K:KV):Prop:=
 cH S fun S=>
 aH PP .lss 3 t8 t7 fun v0=>
 fS v0 (cF 2 t6 t8 fun v1=>bN 2 v1 S fun v2 S=>cW uZ 111 S fun v3 S=>mL 2 v3 v2 S fun S=>aP 0 v3 fun v4=>aT v4 S fun v5 S=>aP 1 v3 fun v6=>aT v6 S fun v7 S=>x.call fF [v7] S fun v8 S=>aT v4 S fun v9 _=>aZ v9 v5 (cV uZ [(0,1,v5),(1,1,v8)] fun v10=>aT v4 S fun v11 _=>aZ v11 v5 ((aS 111 1 uZ [(0,2,v10)] S fun v12 S=>True)/\(aS 111 1 uZ [(0,2,v10)] S fun sO S=>jT 111 2 32 t3 sO S fun sS S=>aT v4 S fun AM _=>aZ AM v5 (aH PP .add 3 t8 (.int .i64 (.ofNat 1)) fun wU=>qE x m0 sS t6 t7 wU S K))))) (bD t3 S K)
theorem JP (x:VE) (m0:Nat) (t3 t6 t7 t8:V) (S:Hp) (K:KV):qE x (m0+1) t3 t6 t7 t8 S K=AA x m0 t3 t6 t7 t8 S K:=by kernel_rfl
def Kz (x:VE) (a0 a1 a2 a3:V) (S:Hp) (K:KV):Prop:=
 iD 29 a0 S fun v0 S=>
 bN 12 v0 S fun v1 S=>
 x.call HC [v1,a1,a2,a3] S fun v2 S=>
 aH PP .neq 46 v2 (.int .i64 (.ofNat 0)) fun v3=>
 fS v3 (bD (.tuple [.nil,v2]) S K) (x.call EN [a1] S fun v4 S=>x.call fF [a3] S fun v5 S=>cV uZ [(0,1,a2),(1,1,v5)] fun v6=>aS 111 1 uZ [(0,2,v6)] S fun v7 S=>jT 111 2 32 v4 v7 S fun v8 S=>bD (.tuple [v8,(.int .i64 (.ofNat 0))]) S K)
theorem aCv (x:VE) (a0 a1 a2 a3:V) (S:Hp) (K:KV):jI PP bI YC x [a0,a1,a2,a3] S K=Kz x a0 a1 a2 a3 S K:=by kernel_rfl
def lK (x:VE) (m:Nat) (t26 t27 t28:V) (S:Hp) (K:KV):Prop:=dG PP bI HC x [.r,.r,.l,.r,.d] m [] [t26,t27,t28] S K
def Bb (x:VE) (a0 a1 a2 a3:V) (S:Hp) (K:KV):Prop:=
 iD 29 a0 S fun v0 S=>
 iD 34 a1 S fun v1 S=>
 iD 3 a2 S fun v2 S=>
 iD 39 a3 S fun v3 S=>
 bN 12 v0 S fun v4 S=>
 aT v3 S fun v5 S=>
 x.call PJ [v4,v5] S fun v6 S=>
 cW IT 46 S fun v7 S=>
 mL 1 v7 v6 S fun S=>
 cV [.nilFunc,(.int .i64 (.ofNat 0))] [(0,1,(.func oD [] [v7,v2])),(1,1,(.int .i64 (.ofNat 4)))] fun v8=>
 aT v7 S fun v9 S=>
 cV [.nilFunc,(.int .i64 (.ofNat 0))] [(0,1,(.func oE [] [v7])),(1,1,v9)] fun v10=>
 cV [.nilFunc,(.int .i64 (.ofNat 0))] [(0,1,(.func oF [] [v1,v2])),(1,1,(.int .i64 (.ofNat 6)))] fun v11=>
 cV [.nilFunc,(.int .i64 (.ofNat 0))] [(0,1,(.func oG [] [v1])),(1,1,(.int .i64 (.ofNat 41)))] fun v12=>
 cV [.nilFunc,(.int .i64 (.ofNat 0))] [(0,1,(.func oH [] [v0,v1,v3])),(1,1,(.int .i64 (.ofNat 22)))] fun sO=>
 aS 231 5 [.nilFunc,(.int .i64 (.ofNat 0))] [(0,2,v8),(2,2,v10),(4,2,v11),(6,2,v12),(8,2,sO)] S fun sS S=>
 bH sS fun AM=>
 lK x x.most sS AM (.int .i64 (.ofNat 0)) S K
theorem Uo (x:VE) (a0 a1 a2 a3:V) (S:Hp) (K:KV):jI PP bI HC x [a0,a1,a2,a3] S K=Bb x a0 a1 a2 a3 S K:=by kernel_rfl
def yB (x:VE) (m0:Nat) (t26 t27 t28:V) (S:Hp) (K:KV):Prop:=
 cH S fun S=>
 aH PP .lss 3 t28 t27 fun v0=>
 fS v0 (cF 2 t26 t28 fun v1=>bN 2 v1 S fun v2 S=>cW [.nilFunc,(.int .i64 (.ofNat 0))] 231 S fun v3 S=>mL 2 v3 v2 S fun S=>aP 0 v3 fun v4=>aT v4 S fun v5 S=>lX x v5 [] S fun v6 S=>fS v6 (aP 1 v3 fun v7=>aT v7 S fun v8 S=>bD v8 S K) (aH PP .add 3 t28 (.int .i64 (.ofNat 1)) fun v9=>lK x m0 t26 t27 v9 S K)) (bD (.int .i64 (.ofNat 0)) S K)
theorem IB (x:VE) (m0:Nat) (t26 t27 t28:V) (S:Hp) (K:KV):lK x (m0+1) t26 t27 t28 S K=yB x m0 t26 t27 t28 S K:=by kernel_rfl
def UK (x:VE) (a0 a1:V) (S:Hp) (K:KV):Prop:=
 aT a0 S fun v0 S=>
 aH PP .eql 46 v0 (.int .i64 (.ofNat 4)) fun v1=>
 gL x false v1 (aT a1 S) S fun v3 S=>gP x false v1 (aH PP .lss 3 v3 (.int .i64 (.ofNat 1))) S fun v5 S=>gQ x v1 (.bool true) v5 fun v6=>gL x false v6 (aT a1 S) S fun v8 S=>gP x false v6 (aH PP .gtr 3 v8 (.int .i64 (.ofNat 1099511627776))) S fun v10 S=>gQ x v6 (.bool true) v10 fun v11=>bD v11 S K
theorem Mc (x:VE) (a0 a1:V) (S:Hp) (K:KV):jI PP bI oD x [a0,a1] S K=UK x a0 a1 S K:=by kernel_rfl
def UL (x:VE) (a0:V) (S:Hp) (K:KV):Prop:=
 aT a0 S fun v0 S=>
 aH PP .neq 46 v0 (.int .i64 (.ofNat 0)) fun v1=>
 bD v1 S K
theorem Md (x:VE) (a0:V) (S:Hp) (K:KV):jI PP bI oE x [a0] S K=UL x a0 S K:=by kernel_rfl
def UM (x:VE) (a0 a1:V) (S:Hp) (K:KV):Prop:=
 aT a0 S fun v0 S=>
 x.call fD [v0,(.func OK [] [a1])] S fun v1 S=>
 bD v1 S K
theorem Me (x:VE) (a0 a1:V) (S:Hp) (K:KV):jI PP bI oF x [a0,a1] S K=UM x a0 a1 S K:=by kernel_rfl
def OM (x:VE) (a0 a1:V) (S:Hp) (K:KV):Prop:=
 iD 111 a0 S fun v0 S=>
 aP 0 v0 fun v1=>
 aT v1 S fun v2 S=>
 aT a1 S fun v3 S=>
 aH PP .eql 3 v2 v3 fun v4=>
 bD v4 S K
theorem Hb (x:VE) (a0 a1:V) (S:Hp) (K:KV):jI PP bI OK x [a0,a1] S K=OM x a0 a1 S K:=by kernel_rfl
def UN (x:VE) (a0:V) (S:Hp) (K:KV):Prop:=
 aT a0 S fun v0 S=>
 bH v0 fun v1=>
 aH PP .geq 3 v1 (.int .i64 (.ofNat 8)) fun v2=>
 bD v2 S K
theorem Mf (x:VE) (a0:V) (S:Hp) (K:KV):jI PP bI oG x [a0] S K=UN x a0 S K:=by kernel_rfl
def UO (x:VE) (a0 a1 a2:V) (S:Hp) (K:KV):Prop:=
 bN 12 a0 S fun v0 S=>
 aT a1 S fun v1 S=>
 aT a2 S fun v2 S=>
 aP 1 a0 fun v3=>
 aT v3 S fun v4 S=>
 aP 9 a0 fun v5=>
 aT v5 S fun v6 S=>
 aT v5 S fun v7 _=>
 aZ v7 v6 (aT v3 S fun v8 _=>aZ v8 v4 (aT a2 S fun v9 _=>aZ v9 v2 (aT a1 S fun v10 _=>aZ v10 v1 (bN 12 a0 S fun v11 _=>aZ v11 v0 ((aS 39 1 cU [(0,1,v2)] S fun v12 S=>True)/\(aS 39 1 cU [(0,1,v2)] S fun sO S=>x.call EM [v0,v1,sO] S fun sS S=>aT v5 S fun AM _=>aZ AM v6 (aT v3 S fun wU _=>aZ wU v4 (x.call YD [sS,v4] S fun rQ S=>aT v5 S fun yE _=>aZ yE v6 (aH PP .gtr 3 rQ v6 fun wZ=>bD wZ S K)))))))))
theorem Mg (x:VE) (a0 a1 a2:V) (S:Hp) (K:KV):jI PP bI oH x [a0,a1,a2] S K=UO x a0 a1 a2 S K:=by kernel_rfl
def La (x:VE) (a0 a1:V) (S:Hp) (K:KV):Prop:=
 iD 29 a0 S fun v0 S=>
 bN 12 v0 S fun v1 S=>
 x.call OL [v1] S fun v2 S=>
 SO .not v2 fun v3=>
 fS v3 (bD .nil S K) (aP 8 v0 fun v4=>aT v4 S fun v5 S=>aH PP .add 3 v5 (.int .i64 (.ofNat 1)) fun v6=>vMk 22 8 iC v6 v6 S fun v7 S=>aP 8 v0 fun v8=>aT v8 S fun v9 S=>LU 22 1 v7 none (some v9) none S fun v10=>aP 1 v0 fun v11=>aT v11 S fun v12 S=>x.call BB [v12,a1] S fun sO S=>aT v8 S fun sS _=>aZ sS v9 (Wh 1 v10 sO S fun AM S=>aT v8 S fun wU _=>aZ wU v9 (aP 8 v0 fun rQ=>aT rQ S fun yE S=>aP 1 v0 fun wZ=>aT wZ S fun v20 S=>x.call HZ [(.int .i64 (.ofNat 1)),v20] S fun v21 S=>aT rQ S fun MY _=>aZ MY yE (cF 1 v7 yE fun FI=>mL 1 FI v21 S fun S=>bD v7 S K))))
theorem aCw (x:VE) (a0 a1:V) (S:Hp) (K:KV):jI PP bI OJ x [a0,a1] S K=La x a0 a1 S K:=by kernel_rfl
def Lb (x:VE) (a0:V) (S:Hp) (K:KV):Prop:=
 iD 29 a0 S fun v0 S=>
 aP 7 v0 fun v1=>
 aT v1 S fun v2 S=>
 aH PP .geq 3 v2 (.int .i64 (.ofNat 0)) fun v3=>
 gP x true v3 (aP 7 v0) S fun v5 S=>gL x true v3 (aT v5 S) S fun v7 S=>gP x true v3 (aH PP .leq 3 v7 (.int .i64 (.ofNat 2))) S fun v9 S=>gQ x v3 v9 (.bool false) fun v10=>gP x true v10 (aP 8 v0) S fun v12 S=>gL x true v10 (aT v12 S) S fun sS S=>gP x true v10 (aH PP .geq 3 sS (.int .i64 (.ofNat 0))) S fun wU S=>gQ x v10 wU (.bool false) fun rQ=>gP x true rQ (aP 8 v0) S fun wZ S=>gL x true rQ (aT wZ S) S fun v21 S=>gP x true rQ (aH PP .leq 3 v21 (.int .i64 (.ofNat 4))) S fun FI S=>gQ x rQ FI (.bool false) fun v24=>gP x true v24 (aP 10 v0) S fun ZS S=>gL x true v24 (aT ZS S) S fun v28 S=>gP x true v24 (aH PP .geq 2 v28 (.int .i64 (.ofNat 0))) S fun v30 S=>gQ x v24 v30 (.bool false) fun v31=>gP x true v31 (aP 10 v0) S fun Sv S=>gL x true v31 (aT Sv S) S fun Rz S=>gP x true v31 (aH PP .leq 2 Rz (.int .i64 (.ofNat 1048576))) S fun v37 S=>gQ x v31 v37 (.bool false) fun Gg=>gP x true Gg (aP 11 v0) S fun v40 S=>gL x true Gg (aT v40 S) S fun Ma S=>gP x true Gg (aH PP .geq 2 Ma (.int .i64 (.ofNat 0))) S fun v44 S=>gQ x Gg v44 (.bool false) fun v45=>gP x true v45 (aP 11 v0) S fun v47 S=>gL x true v45 (aT v47 S) S fun v49 S=>gP x true v45 (aH PP .leq 2 v49 (.int .i64 (.ofNat 1048576))) S fun v51 S=>gQ x v45 v51 (.bool false) fun v52=>bD v52 S K
theorem aCx (x:VE) (a0:V) (S:Hp) (K:KV):jI PP bI OL x [a0] S K=Lb x a0 S K:=by kernel_rfl
def wI (x:VE) (m:Nat) (t0 t5 t8 t9 t10:V) (S:Hp) (K:KV):Prop:=dG PP bI BB x [.r,.r,.l,.r,.d] m [] [t0,t5,t8,t9,t10] S K
def UP (x:VE) (a0 a1:V) (S:Hp) (K:KV):Prop:=
 bH a1 fun v0=>
 wI x x.most a0 .nil a1 v0 (.int .i64 (.ofNat 0)) S K
theorem Mh (x:VE) (a0 a1:V) (S:Hp) (K:KV):jI PP bI BB x [a0,a1] S K=UP x a0 a1 S K:=by kernel_rfl
def vH (x:VE) (m0:Nat) (t0 t5 t8 t9 t10:V) (S:Hp) (K:KV):Prop:=
 cH S fun S=>
 aH PP .lss 3 t10 t9 fun v0=>
 fS v0 (cF 1 t8 t10 fun v1=>aT v1 S fun v2 S=>x.call HZ [v2,t0] S fun v3 S=>aS 22 1 iC [(0,1,v3)] S fun v4 S=>jT 22 1 8 t5 v4 S fun v5 S=>aH PP .add 3 t10 (.int .i64 (.ofNat 1)) fun v6=>wI x m0 t0 v5 t8 t9 v6 S K) (bD t5 S K)
theorem EQ (x:VE) (m0:Nat) (t0 t5 t8 t9 t10:V) (S:Hp) (K:KV):wI x (m0+1) t0 t5 t8 t9 t10 S K=vH x m0 t0 t5 t8 t9 t10 S K:=by kernel_rfl
def Lc (x:VE) (a0 a1:V) (S:Hp) (K:KV):Prop:=
 aH PP .lss 2 a0 (.int .i64 (.ofNat 0)) fun v0=>
 fS v0 (LS .u64 a0 fun v1=>SO .neg v1 fun v2=>x.call yH [(.int .u64 (.ofNat 0)),v2,a1] S fun v3 S=>bD v3 S K) (LS .u64 a0 fun v4=>x.call CF [v4,(.int .u64 (.ofNat 0)),a1] S fun v5 S=>bD v5 S K)
theorem aCy (x:VE) (a0 a1:V) (S:Hp) (K:KV):jI PP bI HZ x [a0,a1] S K=Lc x a0 a1 S K:=by kernel_rfl
def Bc (x:VE) (a0 a1:V) (S:Hp) (K:KV):Prop:=
 iD 29 a0 S fun v0 S=>
 bN 12 v0 S fun v1 S=>
 x.call OL [v1] S fun v2 S=>
 SO .not v2 fun v3=>
 gK x false v3 a1 S fun v4 S=>gP x false v3 (bH v4) S fun v6 S=>gP x false v3 (aP 8 v0) S fun v8 S=>gL x false v3 (aT v8 S) S fun v10 S=>gP x false v3 (aH PP .neq 3 v6 v10) S fun v12 S=>gQ x v3 (.bool true) v12 fun sO=>fS sO (bD (.int .i64 (.ofNat 4)) S K) (aP 11 v0 fun sS=>aT sS S fun AM S=>aS 39 1 cU [(0,1,a1)] S fun wU S=>x.call xZ [AM,wU] S fun rQ S=>SO .not rQ fun yE=>fS yE (bD (.int .i64 (.ofNat 20)) S K) (bD (.int .i64 (.ofNat 0)) S K))
theorem Up (x:VE) (a0 a1:V) (S:Hp) (K:KV):jI PP bI PJ x [a0,a1] S K=Bc x a0 a1 S K:=by kernel_rfl
def sX (x:VE) (m:Nat) (t2 t7 t8 t9:V) (S:Hp) (K:KV):Prop:=dG PP bI xZ x [.r,.l,.r,.d] m [] [t2,t7,t8,t9] S K
def YF (x:VE) (a0 a1:V) (S:Hp) (K:KV):Prop:=
 iD 2 a0 S fun v0 S=>
 bH a1 fun v1=>
 sX x x.most v0 a1 v1 (.int .i64 (.ofNat 0)) S K
theorem Sa (x:VE) (a0 a1:V) (S:Hp) (K:KV):jI PP bI xZ x [a0,a1] S K=YF x a0 a1 S K:=by kernel_rfl
def yC (x:VE) (m0:Nat) (t2 t7 t8 t9:V) (S:Hp) (K:KV):Prop:=
 cH S fun S=>
 aH PP .lss 3 t9 t8 fun v0=>
 fS v0 (cF 1 t7 t9 fun v1=>aT v1 S fun v2 S=>x.call iQ [v2,(.func GN [] [t2])] S fun v3 S=>fS v3 (bD (.bool false) S K) (aH PP .add 3 t9 (.int .i64 (.ofNat 1)) fun v4=>sX x m0 t2 t7 t8 v4 S K)) (bD (.bool true) S K)
theorem IC (x:VE) (m0:Nat) (t2 t7 t8 t9:V) (S:Hp) (K:KV):sX x (m0+1) t2 t7 t8 t9 S K=yC x m0 t2 t7 t8 t9 S K:=by kernel_rfl
def RA (x:VE) (a0 a1:V) (S:Hp) (K:KV):Prop:=
 aT a1 S fun v0 S=>
 SO .neg v0 fun v1=>
 aH PP .lss 2 a0 v1 fun v2=>
 gK x false v2 a0 S fun v3 S=>gL x false v2 (aT a1 S) S fun v5 S=>gP x false v2 (aH PP .gtr 2 v3 v5) S fun v7 S=>gQ x v2 (.bool true) v7 fun v8=>bD v8 S K
theorem Jk (x:VE) (a0 a1:V) (S:Hp) (K:KV):jI PP bI GN x [a0,a1] S K=RA x a0 a1 S K:=by kernel_rfl
end Go.Am
set_option maxRecDepth 4000
namespace Go.Am
open Go.Proofs.NQ
section
variable{M n:Nat}{x:VE}{S:Hp}{K:KV}{two:Bool}
theorem aKM:Fl PP 51=some .slice:=by kernel_rfl
theorem aKN:Fl PP 39=some .slice:=by kernel_rfl
theorem aFN{S0 S:Hp}{l:List Nat} (j:Nat) (v:V) (d:Dt) (h1:(nY l)[j]? =some v) (h2:(jK l)[j]? =some d):Fi S0 S v d:=Zh (o:=0) (fun j n hj=>by rw [eG];exact IP hj) j v d (by rw [eG];exact h1) h2
theorem aFO{S0 S:Hp}{l:List Int} (j:Nat) (v:V) (d:Dt) (h1:(zvs l)[j]? =some v) (h2:(iV l)[j]? =some d):Fi S0 S v d:=by
 unfold zvs at h1;unfold iV at h2;rw [dO]at h1 h2;cases hq:l[j]? with
 | none=>rw [hq]at h2;cases h2
 | some z=>rw [hq]at h1 h2;injection h1 with h1;injection h2 with h2;subst h1 h2;exact .int
theorem aCA (hx:Deep PP bI gM M (n+1) x){O:Tag}{l:List Nat} (hl:l.length*8<=140737488355328) (hK:∀O',K (.list O' (jK l) l.length) S):x.call cE [.list O (jK l) l.length] S K:=by
 refine hx.call rfl fun y hy=>?_;rw [CQ];unfold qM
 have rest:(aS 22 0 iC [] S fun v1 S=>jT 22 1 8 v1 (.list O (jK l) l.length) S fun v2 S=>bD v2 S K):=by
  intro j hj;have hle:bO S (aK S j (.row [] 22)):= .aI hj;show jT 22 1 8 (.own j 0 0 0) (.list O (jK l) l.length) (aK S j (.row [] 22)) _;refine⟨by rw [GY];omega,?_⟩;rw [lQ (by rw [GY];omega),aII];cases hl0:l.length with
  | zero=>
   have e0:l=[]:=rY hl0;subst e0;exact⟨bR _,gJ hle (.own (cs:=[]) aC hj (bR _) (bR _) (fun j v d a b=>by cases b)) hK⟩
  | succ q=>
   refine⟨aLQ l,?_⟩;simp only [aC];refine⟨by omega,by simp,fun c=>aX c (by omega),fun _ i hi=>?_⟩;have e2:(List.take (0*1) (List.drop 0 ([]:List V)))++nY l=nY l:=by simp
   rw [e2,show 0+(q+1)=l.length by omega];exact gJ (hle.trans (.aI hi)) (.acc aC (hle.none hi) (by rw [nZ,GY]) aFN) hK
 cases l with
 | nil=>exact⟨aKM,gJ (.refl S) .nil hK,rest⟩
 | cons a l=>exact⟨rfl,aKM,.inr rfl,(fun e=>by cases e),rest⟩
theorem Sh (hx:Deep PP bI gM M (n+1) x){O:Tag}{l:List Int} (hl:l.length<1000000) (hK:∀O',K (.list O' (iV l) l.length) S):x.call fF [.list O (iV l) l.length] S K:=by
 refine hx.call rfl fun y hy=>?_;rw [FA];unfold sP
 have rest:(aS 2 0 IT [] S fun v1 S=>jT 2 1 8 v1 (.list O (iV l) l.length) S fun v2 S=>bD v2 S K):=by
  intro j hj;have hle:bO S (aK S j (.row [] 2)):= .aI hj;show jT 2 1 8 (.own j 0 0 0) (.list O (iV l) l.length) (aK S j (.row [] 2)) _;refine⟨by rw [EE];omega,?_⟩;rw [lQ (by rw [EE];omega),aEc];cases hl0:l.length with
  | zero=>
   have e0:l=[]:=rY hl0;subst e0;exact⟨bR _,gJ hle (.own (cs:=[]) aC hj (bR _) (bR _) (fun j v d a b=>by cases b)) hK⟩
  | succ q=>
   refine⟨aAx l,?_⟩;simp only [aC];refine⟨by omega,by simp,fun c=>aX c (by omega),fun _ i hi=>?_⟩;have e2:(List.take (0*1) (List.drop 0 ([]:List V)))++zvs l=zvs l:=by simp
   rw [e2,show 0+(q+1)=l.length by omega];exact gJ (hle.trans (.aI hi)) (.acc aC (hle.none hi) (by rw [aFL,EE]) aFO) hK
 cases l with
 | nil=>exact⟨aKN,gJ (.refl S) .nil hK,rest⟩
 | cons a l=>exact⟨rfl,aKN,.inr rfl,(fun e=>by cases e),rest⟩
theorem Si (hx:Deep PP bI gM M (n+1) x){O:Tag}{l:List Int} (hl:l.length<1000000) (hK:∀O',K (.list O' (iV l) l.length) S):x.call dW [.list O (iV l) l.length] S K:=by
 refine hx.call rfl fun y hy=>?_;rw [wT];unfold oZ
 have rest:(aS 3 0 IT [] S fun v1 S=>jT 3 1 8 v1 (.list O (iV l) l.length) S fun v2 S=>bD v2 S K):=by
  intro j hj;have hle:bO S (aK S j (.row [] 3)):= .aI hj;show jT 3 1 8 (.own j 0 0 0) (.list O (iV l) l.length) (aK S j (.row [] 3)) _;refine⟨by rw [EE];omega,?_⟩;rw [lQ (by rw [EE];omega),aEc];cases hl0:l.length with
  | zero=>
   have e0:l=[]:=rY hl0;subst e0;exact⟨bR _,gJ hle (.own (cs:=[]) aC hj (bR _) (bR _) (fun j v d a b=>by cases b)) hK⟩
  | succ q=>
   refine⟨aAx l,?_⟩;simp only [aC];refine⟨by omega,by simp,fun c=>aX c (by omega),fun _ i hi=>?_⟩;have e2:(List.take (0*1) (List.drop 0 ([]:List V)))++zvs l=zvs l:=by simp
   rw [e2,show 0+(q+1)=l.length by omega];exact gJ (hle.trans (.aI hi)) (.acc aC (hle.none hi) (by rw [aFL,EE]) aFO) hK
 cases l with
 | nil=>exact⟨ZB,gJ (.refl S) .nil hK,rest⟩
 | cons a l=>exact⟨rfl,ZB,.inr rfl,(fun e=>by cases e),rest⟩
def aD:List (Int×List Int)->List Dt
 | []=>[]
 | a::l=> .int .i64 a.1:: .list (iV a.2) a.2.length::aD l
theorem aKO (l:List (Int×List Int)):(aD l).length=l.length*2:=by induction l with | nil=>rfl | cons a l ih=>show(aD l).length+1+1=(l.length+1)*2;omega
theorem aKP (l m:List (Int×List Int)):aD (l++m)=aD l++aD m:=by induction l with | nil=>rfl | cons a l ih=>show _::_::aD (l++m)=_;rw [ih];rfl
theorem aB1{l:List (Int×List Int)}:∀{i:Nat} {a:Int×List Int},l[i]? =some a->i*2+2<=(aD l).length/\((aD l).drop (i*2)).take 2=[.int .i64 a.1,.list (iV a.2) a.2.length]:=by
 induction l with
 | nil=>intro i a h;cases h
 | cons b l ih=>
  intro i a h
  match i,h with
  | 0,h=>injection h with h;subst h;exact⟨by show 2<=(aD l).length+1+1;omega,rfl⟩
  | i+1,h=>
   obtain⟨h1,h2⟩:=ih (i:=i) h;refine⟨by show _<=(aD l).length+1+1;omega,?_⟩;rw [show(i+1)*2=i*2+2 by omega];exact h2
theorem Qo{a:Int}{t:Tag}{d:Dt}{k:V->Prop}:cV uZ [(0,1,(.int .i64 a)),(1,1,T t d)] k=k (.agg [.int .i64 a,T t d]):=by
 unfold cV rL;show iG [(0,1,(.int .i64 a)),(1,1,T t d)] [ni 0,.nil] _=_;unfold iG iG iG;rw [vc1 (v:= .int .i64 a) rfl,aFi];exact propext ⟨fun h=>h.2.2.2.2,fun h=>⟨rfl,by simp,rfl,by simp [aY],h⟩⟩
theorem aKQ (hM:1000000<M) (hx:Deep PP bI gM M (n+1) x){O:Tag}{l:List (Int×List Int)} (hl:l.length<1000000) (DK:∀a∈l,a.2.length<1000000) (hK:∀w S',bO S S'->SL 111 S S' w (aD l) l.length->K w S'):
 ∀(r i m:Nat) (u:V) (acc:List (Int×List Int)) (S1:Hp),bO S S1->SL 111 S S1 u (aD acc) acc.length->i+r=l.length->r<m->acc++l.drop i=l->qE x m u (.list O (aD l) l.length) (ni l.length) (ni i) S1 K:=by
 intro r;induction r with
 | zero=>
  intro i m u acc S1 hs CU hi hm he;obtain⟨m,rfl⟩:=bG (show m≠0 by omega);rw [JP];unfold AA;refine aE ?_;rw [aN,iN (by omega),aW];rw [oS (by omega),OU]at he;subst he;exact aL (hK _ _ hs CU)
 | succ r ih=>
  intro i m u acc S1 hs CU hi hm he;obtain⟨m,rfl⟩:=bG (show m≠0 by omega);rw [JP];unfold AA;refine aE ?_;have hlt:i<l.length:=by omega
  obtain⟨g1,g2⟩:=aB1 (aQ hlt);have LG:=DK _ (cK hlt);rw [aN,wX hlt,bQ,fH hlt,SU,dL g1,g2];refine cB (l:=[ni 0,.nil]) rfl fun b hb=>?_;refine gV (n:=2) (i:=b) aC rfl rfl rfl ?_;rw [dU];generalize vX:(Tl O (i*2) [.int .i64 l[i].1,.list (iV l[i].2) l[i].2.length])=cs;obtain⟨t1,vX⟩:∃t1,cs=[.int .i64 l[i].1,.list t1 (iV l[i].2) l[i].2.length]:=⟨_,vX.symm⟩;subst vX;have dF:bO S1 (aK S1 b (.row [.int .i64 l[i].1,.list t1 (iV l[i].2) l[i].2.length] 111)):= .aI hb;have rb:aK S1 b (.row [.int .i64 l[i].1,.list t1 (iV l[i].2) l[i].2.length] 111) b=some (.row [.int .i64 l[i].1,.list t1 (iV l[i].2) l[i].2.length] 111):=aC;generalize aK S1 b (.row [.int .i64 l[i].1,.list t1 (iV l[i].2) l[i].2.length] 111)=S2 at dF rb;have l0:∀{K:KV},aT (.ptr b 0) S2 K=K (.int .i64 l[i].1) S2:=cQ rb rfl;have l1:∀{K:KV},aT (.ptr b (0+1)) S2 K=K (.list t1 (iV l[i].2) l[i].2.length) S2:=cQ rb rfl;have sm:∀{p:Prop},aZ (.int .i64 l[i].1) (.int .i64 l[i].1) p=p:=fun {p}=>cR rfl;rw [aU,l0,bA,l1];refine Sh hx LG fun t2=>?_;rw [l0,sm,show(V.list t2 (iV l[i].2) l[i].2.length)=T t2 (.list (iV l[i].2) l[i].2.length)from rfl,Qo,l0,sm];have tso:Lp [.int .i64 l[i].1,T t2 (.list (iV l[i].2) l[i].2.length)] [.int .i64 l[i].1,.list (iV l[i].2) l[i].2.length]:= .cons t2 (.int .i64 l[i].1) (.cons t2 (.list (iV l[i].2) l[i].2.length) .nil);refine⟨HP (z:=[ni 0,.nil]) rfl rfl rfl tso.one fun _ _=>trivial,?_⟩
  have hal:acc.length<=l.length:=by
   have:=iZ List.length he;rw [jU]at this;omega
  have YR:=CU.up dF;refine YR.app (hs.trans dF) (by omega) (aKO acc) (zv:=[ni 0,.nil]) rfl rfl tso rfl (by decide) fun u2 S3 hs3 hk3 _ hm3=>?_;have rb3:S3 b=some (.row [.int .i64 l[i].1,.list t1 (iV l[i].2) l[i].2.length] 111):=hk3 _ _ rb (YR.ne rb fun vs e m c=>by cases c);rw [cQ rb3 (v:= .int .i64 l[i].1) rfl,sm,bE (by omega)];have e2:aD acc++[.int .i64 l[i].1,.list (iV l[i].2) l[i].2.length]=aD (acc++[l[i]]):=by rw [aKP];rfl
  rw [e2]at hm3;refine ih (i+1) m u2 (acc++[l[i]]) S3 hs3 (by rw [jU];exact hm3) (by omega) (by omega) ?_;rw [lP hlt]at he;rw [BE];exact he
theorem aFP (hM:1000000<M) (hx:Deep PP bI gM M (n+2) x){O:Tag}{l:List (Int×List Int)} (hl:l.length<1000000) (DK:∀a∈l,a.2.length<1000000) (hK:∀w S',bO S S'->SL 111 S S' w (aD l) l.length->K w S'):x.call EN [.list O (aD l) l.length] S K:=by
 refine hx.call rfl fun y hy=>?_;rw [aAC];unfold Ha;show qE y y.most .nil (.list O (aD l) l.length) (ni l.length) (ni 0) S K;rw [hy.most];exact aKQ hM hy hl DK hK l.length 0 M .nil [] S (.refl S) .nil (by omega) (by omega) (by simp)
def iH (O:Nat->Tag) (s:VB):List V:=[ni s.ep,.list (O 1) (iV s.mem) s.mem.length,.list (O 2) (dS s.eH) s.eH.length,.list (O 3) (iV s.next) s.next.length,.list (O 4) (aD s.asked) s.asked.length]
structure Wf (s:VB):Prop where
 ep:s.ep<1000000
 mem:s.mem.length<1000000
 eH:s.eH.length<1000000
 iO:∀c∈s.eH,LP c/\c.length<1000000
 next:s.next.length<1000000
 asked:s.asked.length<1000000
 aJA:∀a∈s.asked,a.2.length<1000000
theorem HT{O:Nat->Tag}{s:VB}:(iH O s).all fR=true:=rfl
theorem aKR{a:Nat}{b c d e:V} (hb:fR b=true) (hc:fR c=true) (hd:fR d=true) (he:fR e=true){k:V->Prop} (hk:k (.agg [ni a,b,c,d,e])):cV wC [(0,1,ni a),(1,1,b),(2,1,c),(3,1,d),(4,1,e)] k:=by
 have cc:∀{v:V} {p:List V->Prop},fR v=true->vZ v p=p [v]:=fun {v p} h=>by cases v<;>first | rfl | cases h
 unfold cV rL;show iG [(0,1,ni a),(1,1,b),(2,1,c),(3,1,d),(4,1,e)] [ni 0,.nil,.nil,.nil,.nil] _;unfold iG iG iG iG iG iG;rw [cc (v:=ni a) rfl,cc hb,cc hc,cc hd,cc he];exact⟨rfl,by simp,rfl,by simp [aY],rfl,by simp [aY],rfl,by simp [aY],rfl,by simp [aY],hk⟩
theorem aMT (hM:1000000<M) (hx:Deep PP bI gM M (n+3) x){O:Nat->Tag}{s:VB} (h:Wf s) (hK:∀O,K (.agg (iH O s)) S):x.call KF [.agg (iH O s)] S K:=by
 refine hx.call rfl fun y hy=>?_;rw [aAA];unfold Gy;refine cA HT fun b hb=>?_;have dF:bO S (aK S b (.row (iH O s) 36)):= .aI hb;have rb:aK S b (.row (iH O s) 36) b=some (.row (iH O s) 36):=aC;generalize aK S b (.row (iH O s) 36)=S1 at dF rb;refine cB (l:=[ni 0,.nil,.nil,.nil,.nil]) rfl fun r hr=>?_;have fG:bO S1 (aK S1 r (.row [ni 0,.nil,.nil,.nil,.nil] 36)):= .aI hr;have rr:aK S1 r (.row [ni 0,.nil,.nil,.nil,.nil] 36) r=some (.row [ni 0,.nil,.nil,.nil,.nil] 36):=aC;have FB:S r=none:=dF.none hr;generalize aK S1 r (.row [ni 0,.nil,.nil,.nil,.nil] 36)=S2 at fG rr;have EV:bO S S2:=dF.trans fG;rw [bA,cQ (o:=0+2) (fG _ _ rb) rfl];show qC y y.most (.ptr b 0) (.ptr r 0) .nil (.list (O 2) (dS s.eH) s.eH.length) (ni s.eH.length) (ni 0) S2 K;rw [hy.most]
 have go:∀(q i m:Nat) (u:V) (acc:List (List Nat)) (S3:Hp),bO S2 S3->GL 51 S2 S3 u (dS acc)->i+q=s.eH.length->q<m->acc++s.eH.drop i=s.eH->qC y m (.ptr b 0) (.ptr r 0) u (.list (O 2) (dS s.eH) s.eH.length) (ni s.eH.length) (ni i) S3 K:=by
  intro q;induction q with
  | zero=>
   intro i m u acc S3 hs CU hi hm he;obtain⟨m,rfl⟩:=bG (show m≠0 by omega);rw [JN];unfold zY;refine aE ?_;rw [aN,iN (by omega),aW];rw [oS (by omega),OU]at he;subst he;have rb3:S3 b=some (.row (iH O s) 36):=hs _ _ (fG _ _ rb);have l0:∀{S':Hp} {K:KV},bO S3 S'->aT (.ptr b 0) S' K=K (ni s.ep) S':=fun {S' K} l=>cQ (l _ _ rb3) rfl;have l1:∀{K:KV},aT (.ptr b (0+1)) S3 K=K (.list (O 1) (iV s.mem) s.mem.length) S3:=cQ rb3 rfl;have l3:∀{K:KV},aT (.ptr b (0+3)) S3 K=K (.list (O 3) (iV s.next) s.next.length) S3:=cQ rb3 rfl;have l4:∀{K:KV},aT (.ptr b (0+4)) S3 K=K (.list (O 4) (aD s.asked) s.asked.length) S3:=cQ rb3 rfl;have sm:∀{t:Tag} {cs:List Dt} {n:Nat} {p:Prop},aZ (.list t cs n) (.list t cs n) p=p:=fun {t cs n p}=>cR rfl;rw [aU,l0 (.refl _),bA,l1,bA,l3,bA,l4];refine Si hy h.mem fun t1=>?_;rw [l4,sm,l3,sm,l0 (.refl _),cS];refine Si hy h.next fun t3=>?_;rw [l4,sm,l0 (.refl _),cS];refine aFP hM hy h.asked h.aJA fun w S4 IY hw=>?_;rw [l0 IY,cS];have Ls:=CU.up IY;refine aKR rfl Ls.one rfl hw.one ?_;have Nb:S4 r=some (.row [ni 0,.nil,.nil,.nil,.nil] 36):=IY _ _ (hs _ _ rr);refine gV (n:=5) (i:=r) Nb (by simp only [VM,List.all_nil,Ls.one,hw.one];rfl) rfl rfl ?_;have leB:bO S S4:=(EV.trans hs).trans IY;have hm5:=Ls.set (o:= .row [ni s.ep,.list t1 (iV s.mem) s.mem.length,u,.list t3 (iV s.next) s.next.length,w] 36) Nb fun vs m c=>by cases c
   have hw5:SL 111 S3 (aK S4 r (.row [ni s.ep,.list t1 (iV s.mem) s.mem.length,u,.list t3 (iV s.next) s.next.length,w] 36)) w (aD s.asked) s.asked.length:=hw.set Nb fun vs m c=>by cases c
   have fu:=(hm5.base EV).Cm;have fw:=(hw5.base (EV.trans hs)).Cm;rw [HB]at fu;refine cO (n:=5) (i:=r) aC rfl ?_;refine⟨S,fun O=> .agg (iH O s),fun j o e=>by rw [aB (fun c=>by rw [c,FB]at e;cases e)];exact leB j o e,fun O=> .agg ⟨rfl,fun j v u e1 e2=>?_⟩,fun O=>hK O⟩
   match j with
   | 0=>injection e1 with e1;injection e2 with e2;subst e1 e2;exact .lT _
   | 1=>injection e1 with e1;injection e2 with e2;subst e1 e2;exact .Ao .list
   | 2=>injection e1 with e1;injection e2 with e2;subst e1 e2;exact .Ao fu
   | 3=>injection e1 with e1;injection e2 with e2;subst e1 e2;exact .Ao .list
   | 4=>injection e1 with e1;injection e2 with e2;subst e1 e2;exact .Ao fw
   | j+5=>simp at e1
  | succ q ih=>
   intro i m u acc S3 hs CU hi hm he;obtain⟨m,rfl⟩:=bG (show m≠0 by omega);rw [JN];unfold zY;refine aE ?_;have hlt:i<s.eH.length:=by omega
   have RE:(dS s.eH)[i*1]? =some (.list (jK s.eH[i]) s.eH[i].length):=by rw [jL];unfold dS;rw [dO,aQ hlt];rfl
   have LG:=h.iO _ (cK hlt);have UX:=h.eH;rw [aN,wX hlt,bQ,fH hlt,sJ,cI RE];refine aCA hy (by have:=LG.2;omega) fun t2=>?_
   have hal:acc.length<=s.eH.length:=by
    have:=iZ List.length he;rw [jU]at this;omega
   refine CU.app hs (by rw [HB];omega) (zv:= .nil) rfl (by decide) (d:= .list (jK s.eH[i]) s.eH[i].length) fun u2 S4 hs4 hk4 _ Ls=>?_;rw [bE (by omega)];have e2:dS acc++[.list (jK s.eH[i]) s.eH[i].length]=dS (acc++[s.eH[i]]):=by rw [Gx];rfl
   rw [e2]at Ls;refine ih (i+1) m u2 (acc++[s.eH[i]]) S4 hs4 Ls (by omega) (by omega) ?_;rw [lP hlt]at he;rw [BE];exact he
 have Hi:=h.eH;exact go s.eH.length 0 M .nil [] S2 (.refl _) .nil (by omega) (by omega) (by simp)
end
set_option maxRecDepth 4000
def MX:List (Int×List (List Nat))->List Dt
 | []=>[]
 | a::l=> .int .i64 a.1:: .list (dS a.2) a.2.length::MX l
theorem aFo (l:List (Int×List (List Nat))):(MX l).length=l.length*2:=by induction l with | nil=>rfl | cons a l ih=>show(MX l).length+1+1=(l.length+1)*2;omega
theorem aFp (l m:List (Int×List (List Nat))):MX (l++m)=MX l++MX m:=by induction l with | nil=>rfl | cons a l ih=>show _::_::MX (l++m)=_;rw [ih];rfl
theorem aAG{l:List (Int×List (List Nat))}:∀{i:Nat} {a:Int×List (List Nat)},l[i]? =some a->i*2+2<=(MX l).length/\((MX l).drop (i*2)).take 2=[.int .i64 a.1,.list (dS a.2) a.2.length]:=by
 induction l with
 | nil=>intro i a h;cases h
 | cons b l ih=>
  intro i a h
  match i,h with
  | 0,h=>injection h with h;subst h;exact⟨by show 2<=(MX l).length+1+1;omega,rfl⟩
  | i+1,h=>
   obtain⟨h1,h2⟩:=ih (i:=i) h;refine⟨by show _<=(MX l).length+1+1;omega,?_⟩;rw [show(i+1)*2=i*2+2 by omega];exact h2
def OA (O:Nat->Tag) (e:En):List V:=[n8 e.kind,.int .i64 e.id,.int .i64 e.ep,.list (O 3) (iV e.x) e.x.length,.list (O 4) (dS e.eH) e.eH.length,.list (O 5) (iV e.next) e.next.length,.list (O 6) (MX e.fB) e.fB.length]
def Lo (ls:List (List Nat)):Prop:=ls.length*24<=140737488355328/\∀c∈ls,LP c/\c.length*8<=140737488355328
structure aBW (e:En):Prop where
 kind:e.kind<256
 x:e.x.length<1000000
 eH:Lo e.eH
 next:e.next.length<1000000
 fB:e.fB.length<1000000
 Qj:∀d∈e.fB,Lo d.2
theorem Fy{O:Nat->Tag}{e:En}:(OA O e).all fR=true:=rfl
section
variable{M n:Nat}{x:VE}{S:Hp}{K:KV}{two:Bool}
theorem aFQ (hM:140737488355328<M) (hx:Deep PP bI gM M (n+2) x){O:Tag}{ls:List (List Nat)} (h:Lo ls) (hK:∀O,K (.list O (dS ls) ls.length) S):x.call kB [.list O (dS ls) ls.length,.func cE [] []] S K:=by
 refine hx.call rfl fun y hy=>?_;rw [PK];unfold AN;show fL y y.most (.func cE [] []) .nil (.list O (dS ls) ls.length) (ni ls.length) (ni 0) S K;rw [hy.most];have UX:=h.1
 have go:∀(q i m:Nat) (u:V) (acc:List (List Nat)) (S3:Hp),bO S S3->GL 51 S S3 u (dS acc)->i+q=ls.length->q<m->acc++ls.drop i=ls->fL y m (.func cE [] []) u (.list O (dS ls) ls.length) (ni ls.length) (ni i) S3 K:=by
  intro q;induction q with
  | zero=>
   intro i m u acc S3 hs CU hi hm he;obtain⟨m,rfl⟩:=bG (show m≠0 by omega);rw [sQ];unfold mC;refine aE ?_;rw [aN,iN (by omega),aW];rw [oS (by omega),OU]at he;subst he;have fu:=CU.Cm;rw [HB]at fu;exact gJ hs fu hK
  | succ q ih=>
   intro i m u acc S3 hs CU hi hm he;obtain⟨m,rfl⟩:=bG (show m≠0 by omega);rw [sQ];unfold mC;refine aE ?_;have hlt:i<ls.length:=by omega
   have RE:(dS ls)[i*1]? =some (.list (jK ls[i]) ls[i].length):=by rw [jL];unfold dS;rw [dO,aQ hlt];rfl
   have LG:=h.2 _ (cK hlt);rw [aN,wX hlt,bQ,fH hlt,sJ,cI RE];refine aCA hy LG.2 fun t2=>?_
   have hal:acc.length+1<=ls.length:=by
    have:=iZ List.length he;rw [jU,IG]at this;omega
   refine CU.aQE hs (by rw [HB];omega) (zv:= .nil) rfl (d:= .list (jK ls[i]) ls[i].length) fun u2 S4 hs4 hk4 _ Ls=>?_;rw [bE (by omega)];have e2:dS acc++[.list (jK ls[i]) ls[i].length]=dS (acc++[ls[i]]):=by rw [Gx];rfl
   rw [e2]at Ls;refine ih (i+1) m u2 (acc++[ls[i]]) S4 hs4 Ls (by omega) (by omega) ?_;rw [lP hlt]at he;rw [BE];exact he
 exact go ls.length 0 M .nil [] S (.refl _) .nil (by omega) (by omega) (by simp)
theorem aKS (hM:140737488355328<M) (hx:Deep PP bI gM M (n+3) x){z:Int}{t:Tag}{c:List (List Nat)} (h:Lo c) (hK:∀t,K (.agg [.int .i64 z,.list t (dS c) c.length]) S):x.call tU [.agg [.int .i64 z,.list t (dS c) c.length]] S K:=by
 refine hx.call rfl fun y hy=>?_;rw [Sf];unfold YH;refine cA rfl fun b hb=>?_;have dF:bO S (aK S b (.row [.int .i64 z,.list t (dS c) c.length] 68)):= .aI hb;have rb:aK S b (.row [.int .i64 z,.list t (dS c) c.length] 68) b=some (.row [.int .i64 z,.list t (dS c) c.length] 68):=aC;generalize aK S b (.row [.int .i64 z,.list t (dS c) c.length] 68)=S1 at dF rb;refine cB (l:=[ni 0,.nil]) rfl fun r hr=>?_;have fG:bO S1 (aK S1 r (.row [ni 0,.nil] 68)):= .aI hr;have rr:aK S1 r (.row [ni 0,.nil] 68) r=some (.row [ni 0,.nil] 68):=aC;have FB:S r=none:=dF.none hr;have Ar:=fG _ _ rb;have EV:=dF.trans fG;generalize aK S1 r (.row [ni 0,.nil] 68)=S2 at EV rr Ar;rw [bA,cQ (o:=0+1) Ar rfl];refine aFQ hM hy h fun t2=>?_;have hbr:r≠b:=fun e=>by subst e;rw [rb]at hr;cases hr
 rw [bA,DT Ar (show 0+1<2 by decide) rfl];refine cO (n:=2) (i:=b) aC rfl ?_;refine gV (n:=2) (i:=r) (vs:=[ni 0,.nil]) (by rw [aB hbr];exact rr) rfl rfl rfl ?_;refine cO (n:=2) (i:=r) aC rfl ?_;refine⟨S,fun O=> .agg [.int .i64 z,.list t2 (dS c) c.length],fun j o e=>?_,fun O=> .one (.lT _),fun O=>hK _⟩;rw [aB (fun q=>by rw [q,FB]at e;cases e),aB (fun q=>by rw [q,hb]at e;cases e)];exact EV j o e
theorem aMU (hM:140737488355328<M) (hx:Deep PP bI gM M (n+4) x){O:Tag}{l:List (Int×List (List Nat))} (hl:l.length<1000000) (DK:∀d∈l,Lo d.2) (hK:∀O,K (.list O (MX l) l.length) S):x.call pA [.list O (MX l) l.length,.func tU [] []] S K:=by
 refine hx.call rfl fun y hy=>?_;rw [TJ];unfold ET;show gO y y.most (.func tU [] []) .nil (.list O (MX l) l.length) (ni l.length) (ni 0) S K;rw [hy.most]
 have go:∀(q i m:Nat) (u:V) (acc:List (Int×List (List Nat))) (S3:Hp),bO S S3->SL 68 S S3 u (MX acc) acc.length->i+q=l.length->q<m->acc++l.drop i=l->gO y m (.func tU [] []) u (.list O (MX l) l.length) (ni l.length) (ni i) S3 K:=by
  intro q;induction q with
  | zero=>
   intro i m u acc S3 hs CU hi hm he;obtain⟨m,rfl⟩:=bG (show m≠0 by omega);rw [uL];unfold nR;refine aE ?_;rw [aN,iN (by omega),aW];rw [oS (by omega),OU]at he;subst he;exact gJ hs CU.Cm hK
  | succ q ih=>
   intro i m u acc S3 hs CU hi hm he;obtain⟨m,rfl⟩:=bG (show m≠0 by omega);rw [uL];unfold nR;refine aE ?_;have hlt:i<l.length:=by omega
   obtain⟨g1,g2⟩:=aAG (aQ hlt);have LG:=DK _ (cK hlt);rw [aN,wX hlt,bQ,fH hlt,SU,dL g1,g2];refine cB (l:=[ni 0,.nil]) rfl fun b hb=>?_;refine gV (n:=2) (i:=b) aC rfl rfl rfl ?_;rw [dU];generalize vX:(Tl O (i*2) [.int .i64 l[i].1,.list (dS l[i].2) l[i].2.length])=cs;obtain⟨t1,vX⟩:∃t1,cs=[.int .i64 l[i].1,.list t1 (dS l[i].2) l[i].2.length]:=⟨_,vX.symm⟩;subst vX;have dF:bO S3 (aK S3 b (.row [.int .i64 l[i].1,.list t1 (dS l[i].2) l[i].2.length] 68)):= .aI hb;refine cO (n:=2) (i:=b) aC rfl ?_;refine aKS hM hy LG fun t2=>?_;have tso:Lp [.int .i64 l[i].1,T t2 (.list (dS l[i].2) l[i].2.length)] [.int .i64 l[i].1,.list (dS l[i].2) l[i].2.length]:= .cons t2 (.int .i64 l[i].1) (.cons t2 (.list (dS l[i].2) l[i].2.length) .nil)
   have hal:acc.length<=l.length:=by
    have:=iZ List.length he;rw [jU]at this;omega
   refine(CU.up dF).app (hs.trans dF) (by omega) (aFo acc) (zv:=[ni 0,.nil]) rfl rfl tso rfl (by decide) fun u2 S4 hs4 hk4 _ Ls=>?_;rw [bE (by omega)];have e2:MX acc++[.int .i64 l[i].1,.list (dS l[i].2) l[i].2.length]=MX (acc++[l[i]]):=by rw [aFp];rfl
   rw [e2]at Ls;refine ih (i+1) m u2 (acc++[l[i]]) S4 hs4 (by rw [jU];exact Ls) (by omega) (by omega) ?_;rw [lP hlt]at he;rw [BE];exact he
 exact go l.length 0 M .nil [] S (.refl _) .nil (by omega) (by omega) (by simp)
theorem aMV (hM:140737488355328<M) (hx:Deep PP bI gM M (n+5) x){O:Nat->Tag}{e:En} (h:aBW e) (hK:∀O,K (.agg (OA O e)) S):x.call TG [.agg (OA O e)] S K:=by
 refine hx.call rfl fun y hy=>?_;rw [aAF];unfold Hg;refine cA Fy fun b hb=>?_;have dF:bO S (aK S b (.row (OA O e) 42)):= .aI hb;have rb:aK S b (.row (OA O e) 42) b=some (.row (OA O e) 42):=aC;generalize aK S b (.row (OA O e) 42)=S1 at dF rb;refine cB (l:=[n8 0,ni 0,ni 0,.nil,.nil,.nil,.nil]) rfl fun r hr=>?_;have fG:bO S1 (aK S1 r (.row [n8 0,ni 0,ni 0,.nil,.nil,.nil,.nil] 42)):= .aI hr;have rr:aK S1 r (.row [n8 0,ni 0,ni 0,.nil,.nil,.nil,.nil] 42) r=some (.row [n8 0,ni 0,ni 0,.nil,.nil,.nil,.nil] 42):=aC;have FB:S r=none:=dF.none hr;have hbr:r≠b:=fun e=>by subst e;rw [rb]at hr;cases hr
 have Ar:=fG _ _ rb;have EV:=dF.trans fG;generalize aK S1 r (.row [n8 0,ni 0,ni 0,.nil,.nil,.nil,.nil] 42)=S2 at EV rr Ar;have sm:∀{t:Tag} {cs:List Dt} {n:Nat} {p:Prop},aZ (.list t cs n) (.list t cs n) p=p:=fun {t cs n p}=>cR rfl;rw [bA,cQ (o:=0+3) Ar rfl,bA,cQ (o:=0+5) Ar rfl];refine Sh hy h.x fun t3=>?_;rw [cQ (o:=0+5) Ar (v:= .list (O 5) (iV e.next) e.next.length) rfl,sm];refine Si hy h.next fun t5=>?_;rw [bA,DT Ar (show 0+3<7 by decide) rfl,bA,DT aC (show 0+5<7 by decide) rfl,dU,bA,cQ (o:=0+4) (v:= .list (O 4) (dS e.eH) e.eH.length) aC rfl];refine aFQ hM hy h.eH fun t4=>?_;rw [bA,DT aC (show 0+4<7 by decide) rfl,dU,bA,cQ (o:=0+6) (v:= .list (O 6) (MX e.fB) e.fB.length) aC rfl];refine aMU hM hy h.fB h.Qj fun t6=>?_;rw [bA,DT aC (show 0+6<7 by decide) rfl,dU];refine cO (n:=7) (i:=b) aC rfl ?_;refine gV (n:=7) (i:=r) (vs:=[n8 0,ni 0,ni 0,.nil,.nil,.nil,.nil]) (by rw [aB hbr];exact rr) rfl rfl rfl ?_;refine cO (n:=7) (i:=r) aC rfl ?_;refine⟨S,fun O=> .agg (OA (fun k=>if k=3 then t3 else if k=4 then t4 else if k=5 then t5 else t6) e),fun j o q=>?_,fun O=> .one (.lT _),fun O=>hK _⟩;rw [aB (fun c=>by rw [c,FB]at q;cases q),aB (fun c=>by rw [c,hb]at q;cases q)];exact EV j o q
end
set_option maxRecDepth 4000
def VD (two:Bool) (O O':Nat->Tag) (s:VB) (e:En):List V:=pv two++(iH O s++OA O' e)
theorem HE{two:Bool}{O O':Nat->Tag}{s:VB}{e:En}:(VD two O O' s e).all fR=true:=by cases two<;>rfl
theorem aAH{two:Bool}{O O':Nat->Tag}{s:VB}{e:En}:(VD two O O' s e).take 12=pv two:=by cases two<;>rfl
section
variable{M n:Nat}{x:VE}{S:Hp}{K:KV}{two:Bool}{O O':Nat->Tag}{s:VB}{e:En}
theorem aPu (hM:1000000<M) (hx:Deep PP bI gM M (n+5) x) (he:e.next.length<1000000) (hK:K (.bool (HV e.next)) S):x.call AX [.agg (VD two O O' s e)] S K:=by
 refine hx.call rfl fun y hy=>?_;rw [Mb];unfold UJ;refine cA HE fun b hb=>?_;have rb:aK S b (.row (VD two O O' s e) 86) b=some (.row (VD two O O' s e) 86):=aC;have le:bO S (aK S b (.row (VD two O O' s e) 86)):= .aI hb;generalize aK S b (.row (VD two O O' s e) 86)=S1 at rb le;rw [aU,aFK rb aAH,bA,bA,cQ (o:=0+17+5) (v:= .list (O' 5) (iV e.next) e.next.length) rb (by cases two<;>rfl)];exact aPr (two:=two) hM hy he (bL le hK)
theorem aPv{t:TypeId}{a b:Int}{k:V->Prop}:aH PP .leq t (.int .i64 a) (.int .i64 b) k=k (.bool (decide (a<=b))):=by rw [KL]
theorem aHn (hM:1000000<M) (hx:Deep PP bI gM M (n+13) x) (he:aBW e) (hK:K (.bool (mM e.fB)) S):x.call nP [.agg (VD two O O' s e)] S K:=by
 refine hx.call rfl fun y hy=>?_;rw [YE];unfold IA;refine cA HE fun b hb=>?_;have rb:aK S b (.row (VD two O O' s e) 86) b=some (.row (VD two O O' s e) 86):=aC;have le:bO S (aK S b (.row (VD two O O' s e) 86)):= .aI hb;generalize aK S b (.row (VD two O O' s e) 86)=S1 at rb le;have hd:=he.fB;have hdl:=he.Qj;have e23:(VD two O O' s e)[17+6]? =some (.list (O' 6) (MX e.fB) e.fB.length):=by cases two<;>rfl
 have e5:(VD two O O' s e)[0+5]? =some (ni 4):=by cases two<;>rfl
 have e6:(VD two O O' s e)[0+6]? =some (ni 1):=by cases two<;>rfl
 generalize vX:VD two O O' s e=cs at rb e23 e5 e6 le;have hpv:cs.take 12=pv two:=by rw [<-vX];exact aAH
 rw [bA,bA,cQ (o:=0+17+6) rb e23];generalize e.fB=ds at hd hdl hK e23;show iS y y.most (.ptr b 0) (.int .i64 (.ofNat 0)) (.list (O' 6) (MX ds) ds.length) (ni ds.length) (ni 0) S1 K;rw [hy.most]
 have go:∀(r i m:Nat) (z:Int) (S2:Hp),bO S1 S2->i+r=ds.length->r<m->(dlF (ds.drop i) z&&decide (ds.length=2))=mM ds->iS y m (.ptr b 0) (.int .i64 z) (.list (O' 6) (MX ds) ds.length) (ni ds.length) (ni i) S2 K:=by
  intro r;induction r with
  | zero=>
   intro i m z S2 hs hi hm hE;obtain⟨m,rfl⟩:=bG (show m≠0 by omega);rw [wV];unfold pB gP gL gQ;refine tI S1 hs ?_;rw [aN,iN (by omega),aW,bA,bA,cQ (o:=0+17+6) rb e23,cD,aU,bA,cQ (o:=0+6) rb e6];show aH PP .add 3 (ni 1) (ni 1) _;rw [bE (by decide),uV];rw [oS (by omega)]at hE;have hE:decide (ds.length=2)=mM ds:=hE;rw [hE];exact bL le hK
  | succ r ih=>
   intro i m z S2 hs hi hm hE;obtain⟨m,rfl⟩:=bG (show m≠0 by omega);rw [wV];unfold pB gP gL gQ;refine tI S1 hs ?_;have hlt:i<ds.length:=by omega
   obtain⟨g1,g2⟩:=aAG (aQ hlt);have LG:=hdl _ (cK hlt);rw [lP hlt]at hE;unfold dlF at hE;rw [aN,wX hlt,bQ,fH hlt,SU,dL g1,g2];refine cB (l:=[ni 0,.nil]) rfl fun d hdn=>?_;refine gV (n:=2) (i:=d) aC rfl rfl rfl ?_;rw [dU];generalize aEh:(Tl (O' 6) (i*2) [.int .i64 ds[i].1,.list (dS ds[i].2) ds[i].2.length])=ks;obtain⟨t1,aEh⟩:∃t1,ks=[.int .i64 ds[i].1,.list t1 (dS ds[i].2) ds[i].2.length]:=⟨_,aEh.symm⟩;subst aEh;have fG:bO S1 (aK S1 d (.row [.int .i64 ds[i].1,.list t1 (dS ds[i].2) ds[i].2.length] 68)):= .aI hdn;have rd:aK S1 d (.row [.int .i64 ds[i].1,.list t1 (dS ds[i].2) ds[i].2.length] 68) d=some (.row [.int .i64 ds[i].1,.list t1 (dS ds[i].2) ds[i].2.length] 68):=aC;generalize aK S1 d (.row [.int .i64 ds[i].1,.list t1 (dS ds[i].2) ds[i].2.length] 68)=S3 at fG rd;have rb3:=fG _ _ rb;have l0:∀{K:KV},aT (.ptr d 0) S3 K=K (.int .i64 ds[i].1) S3:=cQ rd rfl;have l1:∀{K:KV},aT (.ptr d (0+1)) S3 K=K (.list t1 (dS ds[i].2) ds[i].2.length) S3:=cQ rd rfl;have l5:∀{K:KV},aT (.ptr b (0+5)) S3 K=K (ni 4) S3:=cQ rb3 e5;have lp:∀{K:KV},bN 12 (.ptr b 0) S3 K=K (.agg (pv two)) S3:=aFK rb3 hpv;have leS:bO S S3:=le.trans fG;rw [aU,l0,aPv];by_cases c1:ds[i].1<=z
   ·rw [bF c1]at hE ⊢
    simp only [aF,EI,dJ,bQ];have hE:false=mM ds:=by simpa using hE
    rw [<-hE]at hK;exact bL leS hK
   ·rw [bJ c1]at hE ⊢
    simp only [aF,aM,aU,l0,bA,l5];show aH PP .gtr 3 (.int .i64 ds[i].1) (.int .i64 4) _;rw [aAy];by_cases c2:4<ds[i].1
    ·rw [bF c2]at hE ⊢
     simp only [EI,dJ,eI,bQ];have hE:false=mM ds:=by simpa using hE
     rw [<-hE]at hK;exact bL leS hK
    ·rw [bJ c2]at hE ⊢
     simp only [aM,eI,aU,bA,lp,l1];refine aCt (two:=two) hM hy (S0:=S3) .val (fun c hc=>(LG.2 c hc).1) ?_;rw [lW];cases c3:xW ds[i].2 with
     | false=>
      rw [c3]at hE;simp only [uN,bQ];have hE:false=mM ds:=by simpa using hE
      rw [<-hE]at hK;exact bL leS hK
     | true=>
      rw [c3]at hE;simp only [dD,aW,l0];rw [bE (by omega)];exact ih (i+1) m _ S3 fG (by omega) (by omega) (by simpa using hE)
 exact go ds.length 0 M 0 S1 (.refl _) (by omega) (by omega) rfl
theorem aRs (hM:1000000<M) (hx:Deep PP bI gM M (n+1) x){v w:V}{a b:List Nat} (ha:NV S v a) (hb:NV S w b) (hl:a.length<1000000) (hK:K (.bool (decide (a=b))) S):x.call eU [v,w] S K:=by
 refine hx.call rfl fun y hy=>?_;rw [CR];unfold qO;rw [ha.len,hb.len,lV];by_cases c:a.length=b.length
 ·rw [bF c,dD,aW,ha.len,hy.most]
  have go:∀(r i m:Nat),i+r=a.length->r<m->(decide (a.drop i=b.drop i))=decide (a=b)->eW y m v w (ni a.length) (ni i) S K:=by
   intro r;induction r with
   | zero=>
    intro i m hi hm hE;obtain⟨m,rfl⟩:=bG (show m≠0 by omega);rw [mO];unfold iF;refine aE ?_;rw [aN,iN (by omega),aW];rw [oS (by omega),oS (by omega),bF rfl]at hE;rw [<-hE]at hK;exact aL hK
   | succ r ih=>
    intro i m hi hm hE;obtain⟨m,rfl⟩:=bG (show m≠0 by omega);rw [mO];unfold iF;refine aE ?_;have h1:i<a.length:=by omega
    have h2:i<b.length:=by omega
    obtain⟨p1,hp1,hl1⟩:=ha.at (aQ h1);obtain⟨p2,Kj,DK⟩:=hb.at (aQ h2);rw [aN,wX h1,bQ,hp1,hl1 S (.refl _),Kj,DK S (.refl _),aFc];rw [lP h1,lP h2]at hE;by_cases q:a[i]=b[i]
    ·rw [bF q,dD,aW,bE (by omega)]
     refine ih (i+1) m (by omega) (by omega) ?_;rw [<-hE];exact decide_eq_decide.2 ⟨fun h=>by rw [q,h],fun h=>by injection h⟩
    ·rw [bJ q,uN,bQ]
     rw [bJ (fun h=>q (by injection h))]at hE;rw [<-hE]at hK;exact aL hK
  exact go a.length 0 M (by omega) (by omega) rfl
 ·rw [bJ c,uN,bQ]
  rw [bJ (fun h=>c (by rw [h]))]at hK;exact aL hK
theorem aAI{z:Int} (h0:0<=z) (h1:z<18446744073709551616){k:V->Prop}:LS .u64 (.int .i64 z) k=k (nu z.toNat):=by
 obtain⟨m,rfl⟩:=Int.eq_ofNat_of_zero_le h0;exact Iq (by omega)
theorem aKT (hM:1000000<M) (hx:Deep PP bI gM M (n+6) x) (hs:Wf s) (hd:mM e.fB=true) (he:aBW e) (hK:K (.bool (AT s.eH e.fB)) S):x.call iA [.agg (VD two O O' s e)] S K:=by
 refine hx.call rfl fun y hy=>?_;rw [ZW];unfold JR;refine cA HE fun b hb=>?_;have rb:aK S b (.row (VD two O O' s e) 86) b=some (.row (VD two O O' s e) 86):=aC;have le:bO S (aK S b (.row (VD two O O' s e) 86)):= .aI hb;generalize aK S b (.row (VD two O O' s e) 86)=S1 at rb le;have hdl:=he.fB;have RE:=aAt _ _ (show dlF e.fB 0=true by unfold mM at hd;rw [dR]at hd;exact hd.1);have e23:(VD two O O' s e)[0+17+6]? =some (.list (O' 6) (MX e.fB) e.fB.length):=by cases two<;>rfl
 have e14:(VD two O O' s e)[0+12+2]? =some (.list (O 2) (dS s.eH) s.eH.length):=by cases two<;>rfl
 generalize vX:VD two O O' s e=cs at rb e23 e14 le;have hpv:cs.take 12=pv two:=by rw [<-vX];exact aAH
 rw [bA,bA,cQ (o:=0+17+6) rb e23];generalize e.fB=ds at RE hdl hK e23;show dZ y y.most (.ptr b 0) (.list (O' 6) (MX ds) ds.length) (ni ds.length) (ni 0) S1 K;rw [hy.most]
 have go:∀(r i m:Nat) (S2:Hp),bO S1 S2->i+r=ds.length->r<m->AT s.eH (ds.drop i)=AT s.eH ds->dZ y m (.ptr b 0) (.list (O' 6) (MX ds) ds.length) (ni ds.length) (ni i) S2 K:=by
  intro r;induction r with
  | zero=>
   intro i m S2 xB hi hm hE;obtain⟨m,rfl⟩:=bG (show m≠0 by omega);rw [yZ];unfold rB;refine tI S1 xB ?_;rw [aN,iN (by omega),aW];rw [oS (by omega)]at hE;have hE:true=AT s.eH ds:=hE;rw [<-hE]at hK;exact bL le hK
  | succ r ih=>
   intro i m S2 xB hi hm hE;obtain⟨m,rfl⟩:=bG (show m≠0 by omega);rw [yZ];unfold rB;refine tI S1 xB ?_;have hlt:i<ds.length:=by omega
   obtain⟨g1,g2⟩:=aAG (aQ hlt);obtain⟨f1,f2,f3⟩:=RE _ (cK hlt);obtain⟨f4,f5⟩:=GI.1 f3;rw [lP hlt]at hE;have hE:(decide (XX ds[i].2=zN s.eH ds[i].1.toNat)&&AT s.eH (ds.drop (i+1)))=AT s.eH ds:=hE;rw [aN,wX hlt,bQ,fH hlt,SU,dL g1,g2];refine cB (l:=[ni 0,.nil]) rfl fun d hdn=>?_;refine gV (n:=2) (i:=d) aC rfl rfl rfl ?_;rw [dU];generalize aEh:(Tl (O' 6) (i*2) [.int .i64 ds[i].1,.list (dS ds[i].2) ds[i].2.length])=ks;obtain⟨t1,aEh⟩:∃t1,ks=[.int .i64 ds[i].1,.list t1 (dS ds[i].2) ds[i].2.length]:=⟨_,aEh.symm⟩;subst aEh;generalize ds[i]=D at f1 f2 f3 f4 f5 hE;have fG:bO S1 (aK S1 d (.row [.int .i64 D.1,.list t1 (dS D.2) D.2.length] 68)):= .aI hdn;have rd:aK S1 d (.row [.int .i64 D.1,.list t1 (dS D.2) D.2.length] 68) d=some (.row [.int .i64 D.1,.list t1 (dS D.2) D.2.length] 68):=aC;generalize aK S1 d (.row [.int .i64 D.1,.list t1 (dS D.2) D.2.length] 68)=S3 at fG rd;rw [bA,cQ (o:=0+1) rd rfl];show bX y y.most m (.ptr b 0) (.ptr d 0) .nil (.list (O' 6) (MX ds) ds.length) (ni ds.length) (ni i) (.list t1 (dS D.2) D.2.length) (ni D.2.length) (ni 0) S3 K;rw [hy.most]
   have inner:∀(q j m2:Nat) (u:V) (acc:List Nat) (S4:Hp),bO S3 S4->MN S3 S4 u acc->j+q=D.2.length->q<m2->acc++XX (D.2.drop j)=XX D.2->bX y m2 m (.ptr b 0) (.ptr d 0) u (.list (O' 6) (MX ds) ds.length) (ni ds.length) (ni i) (.list t1 (dS D.2) D.2.length) (ni D.2.length) (ni j) S4 K:=by
    intro q;induction q with
    | zero=>
     intro j m2 u acc S4 hs4 Ls hj YR hF;obtain⟨m2,rfl⟩:=bG (show m2≠0 by omega);rw [pG];unfold kE;refine aE ?_;rw [oS (by omega)]at hF;have hF:acc++[]=XX D.2:=hF;rw [OU]at hF;subst hF;have Qn:=hs4 _ _ (fG _ _ rb);have rd4:=hs4 _ _ rd;have lS:=fG.trans hs4;rw [aN,iN (by omega),aW,aU,aFK Qn hpv,bA,bA,cQ (o:=0+12+2) Qn e14,aU,cQ (o:=0) rd4 rfl,aAI (by omega) (by omega)];refine aCu (two:=two) hM hy (show D.1.toNat<18446744073709551616 by omega) hs.iO hs.eH fun t2=>?_;refine aRs hM hy Ls.nv .list (by unfold XX QT;rw [lR];omega) ?_;rw [lW];by_cases c:XX D.2=zN s.eH D.1.toNat
     ·rw [bF c]at hE ⊢
      rw [dD,aW,bE (by omega)];exact ih (i+1) m S4 lS (by omega) (by omega) (by simpa using hE)
     ·rw [bJ c]at hE ⊢
      rw [uN,bQ];have hE:false=AT s.eH ds:=by simpa using hE
      rw [<-hE]at hK;exact bL (le.trans lS) hK
    | succ q ih2=>
     intro j m2 u acc S4 hs4 Ls hj YR hF;obtain⟨m2,rfl⟩:=bG (show m2≠0 by omega);rw [pG];unfold kE;refine aE ?_;have hjl:j<D.2.length:=by omega
     have aS2:(dS D.2)[j*1]? =some (.list (jK D.2[j]) D.2[j].length):=by rw [jL];unfold dS;rw [dO,aQ hjl];rfl
     obtain⟨f6,f7⟩:=f5 _ (cK hjl);have h0:0<D.2[j].length:=by omega
     have nv:NV S4 (.list (.sub t1 (j*1)) (jK D.2[j]) D.2[j].length) D.2[j]:= .list;obtain⟨p1,hp1,hl1⟩:=nv.at (i:=0) (aQ h0);have hp1:∀{K:V->Prop},cF 1 (T (.sub t1 (j*1)) (.list (jK D.2[j]) D.2[j].length)) (.int .i64 (.ofNat 0)) K=K p1:=fun {K}=>hp1 .i64 K;rw [aN,wX hjl,bQ,fH hjl,sJ,cI aS2,hp1,hl1 S4 (.refl _)]
     have ha:acc.length<=D.2.length:=by
      have:=iZ List.length hF;unfold XX QT at this;rw [jU,lR,lR]at this;omega
     refine Ls.app hs4 (by omega) fun u2 S5 hs5 _ hm5=>?_;rw [bE (by omega)];refine ih2 (j+1) m2 u2 _ S5 hs5 hm5 (by omega) (by omega) ?_;rw [lP hjl]at hF;rw [<-hF,BE];have:D.2[j].getD 0 0=D.2[j][0]:=by rw [BD,aQ h0];rfl
     show acc++([D.2[j][0]]++_)=acc++(D.2[j].getD 0 0::_);rw [this];rfl
   exact inner D.2.length 0 M .nil [] S3 (.refl _) .nil (by omega) (by omega) rfl
 exact go ds.length 0 M S1 (.refl _) (by omega) (by omega) rfl
end
end Go.Am
set_option maxRecDepth 4000
namespace Go.Am
section
variable{M n:Nat}{x:VE}{S:Hp}{K:KV}{two:Bool}
theorem aMN{O:Tag}{l:List Int} (hl:l.length<1000000){f:V}{p:Int->Bool}
 (hf:∀a∈l,∀K:KV,K (.bool (p a)) S->lX x f [.int .i64 a] S K) (hT:l.any p=true->∀j:Nat,K (ni j) S) (hF:l.any p=false->K (.int .i64 (.negSucc 0)) S):
 ∀(r i m:Nat),i+r=l.length->r<m->(l.drop i).any p=l.any p->eJ x m (.list O (iV l) l.length) f (ni l.length) (ni i) S K:=by
 intro r;induction r with
 | zero=>
  intro i m hi hm he;obtain⟨m,rfl⟩:=bG (show m≠0 by omega);rw [lO];unfold gN;refine aE ?_;rw [aN,iN (by omega),aW];rw [oS (by omega)]at he;exact aL (hF he.symm)
 | succ r ih=>
  intro i m hi hm he;obtain⟨m,rfl⟩:=bG (show m≠0 by omega);rw [lO];unfold gN;refine aE ?_;have hlt:i<l.length:=by omega
  have RE:(iV l)[i*1]? =some (.int .i64 l[i]):=by rw [jL];unfold iV;rw [dO,aQ hlt];rfl
  rw [aN,wX hlt,bQ,fH hlt,sJ,cI RE];refine hf l[i] (cK hlt) _ ?_;rw [lP hlt,List.any_cons]at he;cases hp:p l[i]with
  | true=>
   rw [hp,Bool.true_or]at he;rw [bQ];exact aL (hT he.symm i)
  | false=>
   rw [hp,Bo]at he;rw [aW,bE (by omega)];exact ih (i+1) m (by omega) (by omega) he
theorem aMO (hM:1000000<M) (hx:Deep PP bI gM M (n+2) x){O:Tag}{l:List Int} (hl:l.length<1000000){c:FuncId}{cs:List V}{p:Int->Bool}
 (hf:∀y,Deep PP bI gM M n y->∀a∈l,∀K:KV,K (.bool (p a)) S->y.call c (.int .i64 a::cs) S K) (hK:K (.bool (l.any p)) S):x.call iQ [.list O (iV l) l.length,.func c [] cs] S K:=by
 refine hx.call rfl fun y hy=>?_;rw [xY];unfold nQ;refine hy.call rfl fun u hu=>?_;rw [AL];unfold pF;rw [show ∀k:V->Prop,bH (.list O (iV l) l.length) k=k (ni l.length)from fun _=>rfl,hu.most];refine aMN (x:=u) (f:= .func c [] cs) hl (p:=p) (fun a ha K hk=>hf u hu a ha K hk) (fun e j=>?_) (fun e=>?_) l.length 0 M (by omega) (by omega) rfl
 ·rw [e]at hK
  rw [zE];exact aL (by rw [bF (BG j)];exact hK)
 ·rw [e]at hK
  rw [CH];exact aL hK
end
end Go.Am
set_option maxRecDepth 4000
namespace Go.Am
open Go.Proofs.NQ
abbrev iz (z:Int):V:= .int .i64 z
def aS3 (a b:Nat):Nat:=(a%11+b%11)%11
def iU (z:Int):Nat:=if z<0 then iB 0 (-z).toNat 11 else aS3 z.toNat 0
theorem ZE (z:Int):iU z<11:=by unfold iU;split;exact iY _ (by decide);exact iY _ (by decide)
abbrev w1 (O:Tag) (z:Int):V:= .list O [.int .i64 z] 1
def Sj (z:Int):Prop:=-1<=z/\z<=1
theorem aCB{z:Int} (h:Sj z):z= -1\/z=0\/z=1:=by unfold Sj at h;omega
def Us (q:Int):List Nat:=[iU q,iU 1]
section
variable{M n:Nat}{x:VE}{S:Hp}{K:KV}{two:Bool}
theorem aNE (hx:Deep PP bI gM M (n+2) x){z:Int} (hz:Sj z) (hK:K (nu (iU z)) S):x.call HZ [iz z,nu 11] S K:=by
 refine hx.call rfl fun y hy=>?_;rw [aCy];unfold Lc;rw [rC];rcases aCB hz with rfl | rfl | rfl
 ·show y.call yH [nu 0,nu 1,nu 11] S _
  exact aBM hy (by decide) (by decide) qQ (aL hK)
 ·show y.call CF [nu 0,nu 0,nu 11] S _
  exact aIO hy (by decide) (by decide) qQ (aL hK)
 ·show y.call CF [nu 1,nu 0,nu 11] S _
  exact aIO hy (by decide) (by decide) qQ (aL hK)
theorem lv{O:Tag}{z:Int}{K:V->Prop}:bH (w1 O z) K=K (ni 1):=rfl
theorem aNF (hx:Deep PP bI gM M (n+1) x) (hK:K (.bool true) S):x.call OL [.agg (pv two)] S K:=by
 refine hx.call rfl fun y hy=>?_;rw [aCx];unfold Lb gP gL gQ;refine cA jV fun b hb=>?_;have rb:aK S b (.row (pv two) 29) b=some (.row (pv two) 29):=aC;have e7:(pv two)[7]? =some (ni 1):=rfl;have e8:(pv two)[8]? =some (ni 1):=rfl;have e10:(pv two)[10]? =some (ni 1):=rfl;have e11:(pv two)[11]? =some (ni 1):=rfl;have hg:∀{a b:Nat} {t:TypeId} {k:V->Prop},aH PP .leq t (ni a) (ni b) k=k (.bool (decide (a<=b))):=fun {a b t k}=>by rw [KL];congr 2;simp
 simp only [aF];rw [aU,cQ rb e7,zE,bF (by decide)];simp only [aM];rw [aU,cQ rb e7,hg,bF (by decide),dJ];simp only [aM];rw [aU,cQ rb e8,zE,bF (by decide),dJ];simp only [aM];rw [aU,cQ rb e8,hg,bF (by decide),dJ];simp only [aM];rw [aU,cQ rb e10,zE,bF (by decide),dJ];simp only [aM];rw [aU,cQ rb e10,hg,bF (by decide),dJ];simp only [aM];rw [aU,cQ rb e11,zE,bF (by decide),dJ];simp only [aM];rw [aU,cQ rb e11,hg,bF (by decide),dJ];exact bL (.aI hb) hK
theorem aPw (hM:10<M) (hx:Deep PP bI gM M (n+3) x){O:Tag}{z:Int} (hz:Sj z) (hK:∀w S',bO S S'->MN S S' w [iU z]->K w S'):x.call BB [nu 11,w1 O z] S K:=by
 refine hx.call rfl fun y hy=>?_;rw [Mh];unfold UP;obtain⟨m,hm⟩:∃m,M=m+2:=⟨M-2,by omega⟩;rw [lv,hy.most,hm,EQ];unfold vH;refine aE ?_;rw [aN,wX (by decide),bQ,fH (by decide)];show y.call HZ [iz z,nu 11] S _;refine aNE hy hz ?_;refine(MN.nil (S0:=S)).app (.refl _) (by simp) fun w S1 dF k1 m1=>?_;rw [bE (by decide),EQ];unfold vH;refine aE ?_;rw [aN,iN (by decide),aW];exact aL (hK w S1 dF m1)
theorem aNG (hM:10<M) (hx:Deep PP bI gM M (n+4) x){O:Tag}{q:Int} (hq:Sj q) (hK:∀O,K (.list O (jK (Us q)) 2) S):x.call OJ [.agg (pv two),w1 O q] S K:=by
 refine hx.call rfl fun y hy=>?_;rw [aCw];unfold La;refine cA jV fun p hp=>?_;have dF:bO S (aK S p (.row (pv two) 29)):= .aI hp;have rp:aK S p (.row (pv two) 29) p=some (.row (pv two) 29):=aC;generalize aK S p (.row (pv two) 29)=S1 at dF rp;have e1:(pv two)[1]? =some (nu 11):=rfl;have e8:(pv two)[8]? =some (ni 1):=rfl;rw [lC rp];refine aNF (n:=n+2) hy ?_;rw [lW,dD,aW,aU,cQ rp e8,bE (by decide)];refine⟨by decide,by decide,by decide,fun r hr=>?_⟩;have fG:bO S1 (aK S1 r (.row (nY [0,0]) 22)):= .aI hr;have rr:aK S1 r (.row (nY [0,0]) 22) r=some (.row (nY [0,0]) 22):=aC;show(aP 8 (.ptr p 0) fun v8=>aT v8 (aK S1 r (.row (nY [0,0]) 22)) fun v9 S=>LU 22 1 (.own r 0 2 2) none (some v9) none S fun v10=>_);generalize aK S1 r (.row (nY [0,0]) 22)=S2 at fG rr;rw [aU,cQ (fG _ _ rp) e8];refine⟨by decide,by decide,by decide,?_⟩;dsimp only;rw [aU,cQ (fG _ _ rp) e1];refine aPw (n:=n) hM hy hq fun w S3 pR mw=>?_;rw [cQ (pR _ _ (fG _ _ rp)) e8,cS];have rr3:=pR _ _ rr;refine mw.nv.src ?_;refine⟨bR _,rfl,?_⟩;simp only [rr3];refine⟨Nat.le_add_left 1 1,?_⟩;have es:aY 0 (nY [iU q]) (nY [0,0])=nY [iU q,0]:=rfl;rw [show(if 2=0 then 0 else 0+0*1)=0 from rfl,es];have hpr:p≠r:=fun c=>by rw [c,hr]at rp;cases rp
 have rp4:aK S3 r (.row (nY [iU q,0]) 22) p=some (.row (pv two) 29):=by rw [aB hpr];exact pR _ _ (fG _ _ rp)
 have Nb:aK S3 r (.row (nY [iU q,0]) 22) r=some (.row (nY [iU q,0]) 22):=aC;have IY:bO S1 (aK S3 r (.row (nY [iU q,0]) 22)):=fun j o e=>by rw [aB (fun c=>by rw [c,hr]at e;cases e)];exact pR _ _ (fG _ _ e)
 generalize aK S3 r (.row (nY [iU q,0]) 22)=S4 at rp4 Nb IY;rw [cQ rp4 e8,cS,aU,cQ rp4 e8,aU,cQ rp4 e1];refine aNE (n:=n+1) hy (z:=1) (by unfold Sj;omega) ?_;rw [cQ rp4 e8,cS];refine⟨by decide,?_⟩;dsimp only;refine NT Nb rfl (xF 1) ?_;refine gJ (S':=S) (cs:=jK (Us q)) (n:=2) (fun j o e=>?_) (.own (vs:=nY (Us q)) (t:=22) aC (dF.none hr) (bR _) (bR _) fun j v d a b=>?_) hK
 ·rw [aB (fun c=>by rw [c,dF.none hr]at e;cases e)]
  exact IY _ _ (dF _ _ e)
 ·rw [eG]at a
  exact aFN j v d a b
theorem aHo (hx:Deep PP bI gM M (n+1) x){z:Int}{b:Nat} (hb:S b=some (.row [ni 1] 2)) (hK:K (.bool (decide (z< -1) || decide (1<z))) S):x.call GN [iz z,.ptr b 0] S K:=by
 refine hx.call rfl fun y hy=>?_;rw [Jk];unfold RA gP gL gK gQ;have l0:∀{K:KV},aT (.ptr b 0) S K=K (ni 1) S:=cQ hb rfl;rw [l0];show aH PP .lss 2 (iz z) (iz (-1)) _;rw [rC];by_cases c:z< -1
 ·rw [bF c]at hK ⊢
  simp only [aF,EI,dJ];exact aL hK
 ·rw [bJ c]at hK ⊢
  simp only [aF,aM,l0,eI];rw [QF];exact aL hK
theorem aKU (hM:1000000<M) (hx:Deep PP bI gM M (n+5) x){O:Tag}{l:List Int} (hl:l.length<1000000){j:Nat} (rj:S j=some (.row [.list O (iV l) l.length] 39)) (hK:K (.bool (!(l.any fun z=>decide (z< -1) || decide (1<z)))) S):x.call xZ [ni 1,.own j 0 1 1] S K:=by
 refine hx.call rfl fun y hy=>?_;rw [Sa];unfold YF;intro b hb;have rb:aK S b (.row [ni 1] 2) b=some (.row [ni 1] 2):=aC;have dF:bO S (aK S b (.row [ni 1] 2)):= .aI hb;show sX y y.most (.ptr b 0) (.own j 0 1 1) (ni 1) (ni 0) (aK S b (.row [ni 1] 2)) K;generalize aK S b (.row [ni 1] 2)=S1 at rb dF;have rj1:=dF _ _ rj;obtain⟨m,hm⟩:∃m,M=m+2:=⟨M-2,by omega⟩;rw [hy.most,hm,IC];unfold yC;refine aE ?_;rw [aN,wX (by decide),bQ];refine⟨by decide,?_⟩;show aT (.ptr j 0) S1 _;rw [cQ (o:=0) rj1 rfl];refine aMO hM hy hl (p:=fun z=>decide (z< -1) || decide (1<z)) (fun u hu a ha K hk=>aHo hu rb hk) ?_;cases c:l.any fun z=>decide (z< -1) || decide (1<z)with
 | true=>
  rw [c]at hK;rw [bQ];exact bL dF hK
 | false=>
  rw [c]at hK;rw [aW,bE (by decide),IC];unfold yC;refine aE ?_;rw [aN,iN (by decide),aW];exact bL dF hK
theorem aMW (hM:1000000<M) (hx:Deep PP bI gM M (n+6) x){O:Tag}{l:List Int} (hl:l.length<1000000) (hK:K (ni (qF l)) S):x.call PJ [.agg (pv two),.list O (iV l) l.length] S K:=by
 refine hx.call rfl fun y hy=>?_;rw [Up];unfold Bc gP gL gK gQ;refine cA jV fun p hp=>?_;have dF:bO S (aK S p (.row (pv two) 29)):= .aI hp;have rp:aK S p (.row (pv two) 29) p=some (.row (pv two) 29):=aC;generalize aK S p (.row (pv two) 29)=S1 at dF rp;have e8:(pv two)[8]? =some (ni 1):=rfl;have e11:(pv two)[11]? =some (ni 1):=rfl;rw [lC rp];refine aNF (n:=n+4) hy ?_;rw [lW,dD,aF,aM];dsimp only;rw [aF,aM];dsimp only;rw [cD,aF,aM,aU];dsimp only;rw [aF,aM,cQ rp e8];dsimp only;rw [aF,aM];dsimp only;rw [lV,aF,eI];by_cases c:l.length=1
 ·rw [bF c,dD,aW,aU,cQ rp e11]
  refine⟨rfl,by simp,fun j hj=>?_⟩;have rj:aK S1 j (.row [.list O (iV l) l.length] 39) j=some (.row [.list O (iV l) l.length] 39):=aC;have fG:bO S1 (aK S1 j (.row [.list O (iV l) l.length] 39)):= .aI hj;show y.call xZ [ni 1,.own j 0 1 1] (aK S1 j (.row [.list O (iV l) l.length] 39)) _;refine aKU hM hy hl rj ?_;rw [lW,Bool.not_not];unfold qF at hK;rw [aJ c]at hK;cases c2:l.any fun z=>decide (z< -1) || decide (1<z)with
  | true=>rw [c2]at hK;rw [bQ];exact bL (dF.trans fG) hK
  | false=>rw [c2]at hK;rw [aW];exact bL (dF.trans fG) hK
 ·rw [bJ c,uN,bQ]
  unfold qF at hK;rw [aG c]at hK;exact bL dF hK
end
end Go.Am
set_option maxRecDepth 100000
namespace Go.Am
def Ld (x:VE) (a0 a1:V) (S:Hp) (K:KV):Prop:=
 x.call Di [a1] S fun v0 S=>
 SO .not v0 fun v1=>
 fS v1 (bD (.int .i64 (.ofNat 0)) S K) (x.call QZ [a0,a1] S fun v2 S=>oW PP v2 fun v3=>aP 2 v3 fun v4=>aT v4 S fun v5 S=>Qu v5 S fun v6 S=>bD v6 S K)
theorem aCz (x:VE) (a0 a1:V) (S:Hp) (K:KV):jI PP bI YD x [a0,a1] S K=Ld x a0 a1 S K:=by kernel_rfl
def Sd (x:VE) (a0:V) (S:Hp) (K:KV):Prop:=
 aH PP .leq 22 a0 (.int .u64 (.ofNat 2305843009213693952)) fun v0=>
 gK x true v0 a0 S fun v1 S=>gL x true v0 (x.call NS [v1] S) S fun v3 S=>gQ x v0 v3 (.bool false) fun v4=>bD v4 S K
theorem aEf (x:VE) (a0:V) (S:Hp) (K:KV):jI PP bI Di x [a0] S K=Sd x a0 S K:=by kernel_rfl
def vS (x:VE) (m:Nat) (t0 t5 t14 t15 t16:V) (S:Hp) (K:KV):Prop:=dG PP bI QZ x [.r,.r,.l,.r,.d] m [] [t0,t5,t14,t15,t16] S K
def tW (x:VE) (m:Nat) (t5 t31 t32 t33:V) (S:Hp) (K:KV):Prop:=dG PP bI QZ x [.r,.r,.r,.l,.r,.d] m [] [t5,t31,t32,t33] S K
def Wq (x:VE) (a0 a1:V) (S:Hp) (K:KV):Prop:=
 Gk S fun v0 S=>
 cV [(.int .u64 (.ofNat 0)),(.int .i64 (.ofNat 0)),(.map none)] [(0,1,a1),(2,1,v0)] fun v1=>
 iD 183 v1 S fun v2 S=>
 bH a0 fun v3=>
 vS x x.most a0 v2 a0 v3 (.int .i64 (.ofNat 0)) S K
theorem aHm (x:VE) (a0 a1:V) (S:Hp) (K:KV):jI PP bI QZ x [a0,a1] S K=Wq x a0 a1 S K:=by kernel_rfl
def GQ (x:VE) (m0:Nat) (t0 t5 t14 t15 t16:V) (S:Hp) (K:KV):Prop:=
 cH S fun S=>
 aH PP .lss 3 t16 t15 fun v0=>
 fS v0 (cF 1 t14 t16 fun v1=>aT v1 S fun v2 S=>oW PP t5 fun v3=>aP 1 v3 fun v4=>aT v4 S fun v5 S=>bH v2 fun v6=>Cq true v5 v6 fun v7=>oW PP t5 fun v8=>aP 1 v8 fun v9=>mL 1 v9 v7 S fun S=>aH PP .add 3 t16 (.int .i64 (.ofNat 1)) fun v10=>vS x m0 t0 t5 t14 t15 v10 S K) (bH t0 fun v11=>tW x x.most t5 t0 v11 (.int .i64 (.ofNat 0)) S K)
theorem RB (x:VE) (m0:Nat) (t0 t5 t14 t15 t16:V) (S:Hp) (K:KV):vS x (m0+1) t0 t5 t14 t15 t16 S K=GQ x m0 t0 t5 t14 t15 t16 S K:=by kernel_rfl
def rV (x:VE) (m0:Nat) (t5 t31 t32 t33:V) (S:Hp) (K:KV):Prop:=
 cH S fun S=>
 aH PP .lss 3 t33 t32 fun v0=>
 fS v0 (cF 1 t31 t33 fun v1=>aT v1 S fun v2 S=>x.call jH [t5,v2] S fun v3 S=>aH PP .add 3 t33 (.int .i64 (.ofNat 1)) fun v4=>tW x m0 t5 t31 t32 v4 S K) (bD t5 S K)
theorem wW (x:VE) (m0:Nat) (t5 t31 t32 t33:V) (S:Hp) (K:KV):tW x (m0+1) t5 t31 t32 t33 S K=rV x m0 t5 t31 t32 t33 S K:=by kernel_rfl
def iL (x:VE) (m:Nat) (t0 t4 t5 t6 t32 t33:V) (S:Hp) (K:KV):Prop:=dG PP bI jH x [.r,.r,.r,.l,.r,.d] m [] [t0,t4,t5,t6,t32,t33] S K
def nF (x:VE) (m:Nat) (t0 t4 t5 t54:V) (S:Hp) (K:KV):Prop:=dG PP bI jH x [.r,.r,.r,.r,.l,.r,.d] m [] [t0,t4,t5,t54] S K
def yR (x:VE) (a0 a1:V) (S:Hp) (K:KV):Prop:=
 x.call oB [a0,a1] S fun v0 S=>
 tK 0 v0 fun v1=>
 tK 1 v0 fun v2=>
 aH PP .lss 3 v2 (.int .i64 (.ofNat 0)) fun v3=>
 fS v3 (bD (.tuple []) S K) (cF 1 v1 v2 fun v4=>aT v4 S fun v5 S=>oW PP a0 fun v6=>aP 0 v6 fun v7=>aT v7 S fun v8 S=>x.call yI [v5,v8] S fun v9 S=>tK 0 v9 fun v10=>tK 1 v9 fun v11=>bH v1 fun v12=>iL x x.most a0 v1 v2 v10 v12 (.int .i64 (.ofNat 0)) S K)
theorem GR (x:VE) (a0 a1:V) (S:Hp) (K:KV):jI PP bI jH x [a0,a1] S K=yR x a0 a1 S K:=by kernel_rfl
def nG (x:VE) (m0:Nat) (t0 t4 t5 t6 t32 t33:V) (S:Hp) (K:KV):Prop:=
 cH S fun S=>
 aH PP .lss 3 t33 t32 fun v0=>
 fS v0 (cF 1 t4 t33 fun v1=>aT v1 S fun v2 S=>oW PP t0 fun v3=>aP 0 v3 fun v4=>aT v4 S fun v5 S=>x.call nX [v2,t6,v5] S fun v6 S=>cF 1 t4 t33 fun v7=>mL 1 v7 v6 S fun S=>aH PP .add 3 t33 (.int .i64 (.ofNat 1)) fun v8=>iL x m0 t0 t4 t5 t6 t32 v8 S K) (oW PP t0 fun v9=>aP 2 v9 fun v10=>aT v10 S fun v11 S=>HA v11 S fun v12 S=>nF x x.most t0 t4 t5 v12 S K)
theorem sE (x:VE) (m0:Nat) (t0 t4 t5 t6 t32 t33:V) (S:Hp) (K:KV):iL x (m0+1) t0 t4 t5 t6 t32 t33 S K=nG x m0 t0 t4 t5 t6 t32 t33 S K:=by kernel_rfl
def mH (x:VE) (m0:Nat) (t0 t4 t5 t54:V) (S:Hp) (K:KV):Prop:=
 cH S fun S=>
 MA t54 S fun v0 S=>
 tK 0 v0 fun v1=>
 fS v1 (SX t54 S fun v2 S=>tK 1 v2 fun v3=>cF 1 v3 t5 fun v4=>aT v4 S fun v5 S=>x.call rT [t0,v3,t4,v5] S fun v6 S=>nF x m0 t0 t4 t5 t54 S K) (oW PP t0 fun v7=>aP 2 v7 fun v8=>aT v8 S fun v9 S=>zT (.one (.int .i64)) v9 t5 t4 S fun S=>bD (.tuple []) S K)
theorem qY (x:VE) (m0:Nat) (t0 t4 t5 t54:V) (S:Hp) (K:KV):nF x (m0+1) t0 t4 t5 t54 S K=mH x m0 t0 t4 t5 t54 S K:=by kernel_rfl
def tX (x:VE) (m:Nat) (t0 t6 VC:V) (S:Hp) (K:KV):Prop:=dG PP bI oB x [.r,.r,.l,.r,.d] m [] [t0,t6,VC] S K
def gX (x:VE) (m:Nat) (t6 t32 t33 t34:V) (S:Hp) (K:KV):Prop:=dG PP bI oB x [.r,.r,.r,.l,.r,.d] m [] [t6,t32,t33,t34] S K
def ES (x:VE) (a0 a1:V) (S:Hp) (K:KV):Prop:=
 x.call yQ [a0,a1] S fun v0 S=>
 oW PP a0 fun v1=>
 aP 2 v1 fun v2=>
 aT v2 S fun v3 S=>
 HA v3 S fun v4 S=>
 tX x x.most a0 v0 v4 S K
theorem ON (x:VE) (a0 a1:V) (S:Hp) (K:KV):jI PP bI oB x [a0,a1] S K=ES x a0 a1 S K:=by kernel_rfl
def nH (x:VE) (m0:Nat) (t0 t6 VC:V) (S:Hp) (K:KV):Prop:=
 cH S fun S=>
 MA VC S fun v0 S=>
 tK 0 v0 fun v1=>
 fS v1 (SX VC S fun v2 S=>tK 0 v2 fun v3=>tK 1 v2 fun v4=>cF 1 t6 v3 fun v5=>aT v5 S fun v6 S=>x.call rT [t0,t6,v4,v6] S fun v7 S=>tX x m0 t0 t6 VC S K) (bH t6 fun v8=>gX x x.most t6 t6 v8 (.int .i64 (.ofNat 0)) S K)
theorem sF (x:VE) (m0:Nat) (t0 t6 VC:V) (S:Hp) (K:KV):tX x (m0+1) t0 t6 VC S K=nH x m0 t0 t6 VC S K:=by kernel_rfl
def mI (x:VE) (m0:Nat) (t6 t32 t33 t34:V) (S:Hp) (K:KV):Prop:=
 cH S fun S=>
 aH PP .lss 3 t34 t33 fun v0=>
 fS v0 (cF 1 t32 t34 fun v1=>aT v1 S fun v2 S=>aH PP .neq 22 v2 (.int .u64 (.ofNat 0)) fun v3=>fS v3 (bD (.tuple [t6,t34]) S K) (aH PP .add 3 t34 (.int .i64 (.ofNat 1)) fun v4=>gX x m0 t6 t32 t33 v4 S K)) (bD (.tuple [t6,(.int .i64 (.negSucc 0))]) S K)
theorem qZ (x:VE) (m0:Nat) (t6 t32 t33 t34:V) (S:Hp) (K:KV):gX x (m0+1) t6 t32 t33 t34 S K=mI x m0 t6 t32 t33 t34 S K:=by kernel_rfl
def rW (x:VE) (m:Nat) (t0 t1 t3 t10 t11 t12:V) (S:Hp) (K:KV):Prop:=dG PP bI rT x [.r,.d] m [] [t0,t1,t3,t10,t11,t12] S K
def OO (x:VE) (a0 a1 a2 a3:V) (S:Hp) (K:KV):Prop:=
 bH a2 fun v0=>
 rW x x.most a0 a1 a3 a2 v0 (.int .i64 (.ofNat 0)) S K
theorem Hc (x:VE) (a0 a1 a2 a3:V) (S:Hp) (K:KV):jI PP bI rT x [a0,a1,a2,a3] S K=OO x a0 a1 a2 a3 S K:=by kernel_rfl
def qG (x:VE) (m0:Nat) (t0 t1 t3 t10 t11 t12:V) (S:Hp) (K:KV):Prop:=
 cH S fun S=>
 aH PP .lss 3 t12 t11 fun v0=>
 fS v0 (cF 1 t10 t12 fun v1=>aT v1 S fun v2 S=>cF 1 t1 t12 fun v3=>aT v3 S fun v4 S=>oW PP t0 fun v5=>aP 0 v5 fun v6=>aT v6 S fun v7 S=>oW PP t0 fun v8=>aP 0 v8 fun v9=>aT v9 S fun v10 S=>x.call nX [v2,t3,v7] S fun v11 S=>aT v9 S fun v12 _=>aZ v12 v10 (aT v3 S fun sO _=>aZ sO v4 (x.call yH [v4,v11,v10] S fun sS S=>cF 1 t1 t12 fun AM=>mL 1 AM sS S fun S=>aH PP .add 3 t12 (.int .i64 (.ofNat 1)) fun wU=>rW x m0 t0 t1 t3 t10 t11 wU S K))) (bD (.tuple []) S K)
theorem wJ (x:VE) (m0:Nat) (t0 t1 t3 t10 t11 t12:V) (S:Hp) (K:KV):rW x (m0+1) t0 t1 t3 t10 t11 t12 S K=qG x m0 t0 t1 t3 t10 t11 t12 S K:=by kernel_rfl
def kP (x:VE) (m:Nat) (t0 t5 t19 t20:V) (S:Hp) (K:KV):Prop:=dG PP bI yQ x [.r,.r,.r,.l,.r,.d] m [] [t0,t5,t19,t20] S K
def RC (x:VE) (a0 a1:V) (S:Hp) (K:KV):Prop:=
 oW PP a0 fun v0=>
 aP 1 v0 fun v1=>
 aT v1 S fun v2 S=>
 bH a1 fun v3=>
 Cq true v2 v3 fun v4=>
 vMk 22 8 iC v4 v4 S fun v5 S=>
 Wh 1 v5 a1 S fun v6 S=>
 bH v5 fun v7=>
 kP x x.most a0 v5 v7 (.int .i64 (.ofNat 0)) S K
theorem Jl (x:VE) (a0 a1:V) (S:Hp) (K:KV):jI PP bI yQ x [a0,a1] S K=RC x a0 a1 S K:=by kernel_rfl
def nI (x:VE) (m0:Nat) (t0 t5 t19 t20:V) (S:Hp) (K:KV):Prop:=
 cH S fun S=>
 aH PP .lss 3 t20 t19 fun v0=>
 fS v0 (cF 1 t5 t20 fun v1=>aT v1 S fun v2 S=>oW PP t0 fun v3=>aP 0 v3 fun v4=>aT v4 S fun v5 S=>aH PP .rem 22 v2 v5 fun v6=>cF 1 t5 t20 fun v7=>mL 1 v7 v6 S fun S=>aH PP .add 3 t20 (.int .i64 (.ofNat 1)) fun v8=>kP x m0 t0 t5 t19 v8 S K) (bD t5 S K)
theorem sG (x:VE) (m0:Nat) (t0 t5 t19 t20:V) (S:Hp) (K:KV):kP x (m0+1) t0 t5 t19 t20 S K=nI x m0 t0 t5 t19 t20 S K:=by kernel_rfl
end Go.Am
set_option maxRecDepth 4000
namespace Go.Am
open Go.Proofs.NQ
def O2 (S:Hp) (r a b:Nat):Prop:=S r=some (.row (nY [a,b]) 22)
abbrev ow (r:Nat):V:= .own r 0 2 2
def Sp (S:Hp) (s w m:Nat):Prop:=S s=some (.row [nu 11,ni w,.yM m] 183)
section
variable{M n s m r r2 w:Nat}{x:VE}{S:Hp}{K:KV}{a b c d t:Nat}
theorem ix0{k:V->Prop}:cF 1 (ow r) (.int .i64 (.ofNat 0)) k=k (.ptr r 0):=propext ⟨fun h=>h.2,fun h=>⟨by decide,h⟩⟩
theorem ix1{k:V->Prop}:cF 1 (ow r) (.int .i64 (.ofNat 1)) k=k (.ptr r 1):=propext ⟨fun h=>h.2,fun h=>⟨by decide,h⟩⟩
theorem aEi (h:O2 S r a b){K:KV}:aT (.ptr r 0) S K=K (nu a) S:=cQ h rfl
theorem aEj (h:O2 S r a b){K:KV}:aT (.ptr r 1) S K=K (nu b) S:=cQ h rfl
theorem aKV (h:O2 S r a b){k:Hp->Prop}:mL 1 (.ptr r 0) (nu c) S k=k (aK S r (.row (nY [c,b]) 22)):=DT h (show 0<2 by decide) rfl
theorem aKW (h:O2 S r a b){k:Hp->Prop}:mL 1 (.ptr r 1) (nu c) S k=k (aK S r (.row (nY [a,c]) 22)):=DT h (show 1<2 by decide) rfl
theorem O2.other (h:O2 S r a b) (hn:r≠r2){o:Ob}:O2 (aK S r2 o) r a b:=by unfold O2;rw [aB hn];exact h
theorem Mm (h:Sp S s w m){K:KV}:aT (.ptr s 0) S K=K (nu 11) S:=cQ h rfl
theorem aRt (h:Sp S s w m){K:KV}:aT (.ptr s (0+1)) S K=K (ni w) S:=cQ h rfl
theorem aHp (h:Sp S s w m){K:KV}:aT (.ptr s (0+2)) S K=K (.yM m) S:=cQ h rfl
theorem Sp.other (h:Sp S s w m) (hn:s≠r2){o:Ob}:Sp (aK S r2 o) s w m:=by unfold Sp;rw [aB hn];exact h
theorem aKX (h:Sp S s w m) (g:O2 S r a b):s≠r:=fun e=>by subst e;unfold Sp at h;unfold O2 at g;rw [h]at g;injection g with g;injection g with _ g;cases g
theorem aKY (hM:10<M) (hx:Deep PP bI gM M (n+1) x){O:Tag} (hs:Sp S s 2 m) (ha:a<11) (hb:b<11) (hK:∀r S',S r=none->bO S S'->O2 S' r a b->K (ow r) S'):x.call yQ [.ptr s 0,.list O (jK [a,b]) 2] S K:=by
 refine hx.call rfl fun y hy=>?_;rw [Jl];unfold RC;rw [dA,bA,aRt hs,cD,show ∀k:V->Prop,Cq true (ni 2) (.int .i64 (.ofNat 2)) k=k (ni 2)from fun k=>(show k (.int .i64 (max 2 2))=k (.int .i64 2)by rw [Int.max_self])];show vMk 22 8 iC (ni 2) (ni 2) S _;refine⟨by decide,by decide,by decide,fun r hr=>?_⟩;show Wh 1 (ow r) (.list O (jK [a,b]) 2) (aK S r (.row (nY [0,0]) 22)) _;have dF:bO S (aK S r (.row (nY [0,0]) 22)):= .aI hr;refine⟨bR 2,?_⟩;refine⟨bR 2,rfl,?_⟩;simp only [aC];refine⟨bR 2,?_⟩;rw [dU];show bH (ow r) fun v7=>kP y y.most (.ptr s 0) (ow r) v7 (ni 0) (aK S r (.row (nY [a,b]) 22)) K;have o1:O2 (aK S r (.row (nY [a,b]) 22)) r a b:=aC;have fG:bO S (aK S r (.row (nY [a,b]) 22)):= .aI hr;have sp1:Sp (aK S r (.row (nY [a,b]) 22)) s 2 m:=fG _ _ hs;generalize aK S r (.row (nY [a,b]) 22)=S1 at o1 fG sp1;obtain⟨M',EU⟩:∃k,M=k+3:=⟨M-3,by omega⟩;show kP y y.most (.ptr s 0) (ow r) (ni 2) (ni 0) S1 K;rw [hy.most,EU,sG];unfold nI;refine aE ?_;rw [aN,wX (by decide),bQ,ix0,aEi o1,dA,aU,Mm sp1,Ai (by decide),VJ ha,ix0,aKV o1,show aK S1 r (.row (nY [a,b]) 22)=S1 from aB2 o1,bE (by decide),sG];unfold nI;refine aE ?_;rw [aN,wX (by decide),bQ,ix1,aEj o1,dA,aU,Mm sp1,Ai (by decide),VJ hb,ix1,aKW o1,show aK S1 r (.row (nY [a,b]) 22)=S1 from aB2 o1,bE (by decide),sG];unfold nI;refine aE ?_;rw [aN,iN (by decide),aW];exact aL (hK r S1 hr fG o1)
theorem lE{q:Nat} (h:q<11):EY q:=show q<18446744073709551616 by omega
theorem Nk (a b:Nat):iB a b 11<11:=iY _ (by decide)
theorem aFR (hM:10<M) (hx:Deep PP bI gM M (n+2) x) (hs:Sp S s w m) (h1:O2 S r a b) (h2:O2 S r2 c d) (hn:r≠r2) (ha:a<11) (hb:b<11) (hc:c<11) (hd:d<11) (ht:t<11)
 (hK:K (.tuple []) (aK S r (.row (nY [iB a (c*t%11) 11,iB b (d*t%11) 11]) 22))):x.call rT [.ptr s 0,ow r,ow r2,nu t] S K:=by
 refine hx.call rfl fun y hy=>?_;rw [Hc];unfold OO;show rW y y.most (.ptr s 0) (ow r) (nu t) (ow r2) (ni 2) (ni 0) S K;obtain⟨M',EU⟩:∃k,M=k+3:=⟨M-3,by omega⟩;rw [hy.most,EU,wJ];unfold qG;refine aE ?_;rw [aN,wX (by decide),bQ,ix0,aEi h2,ix0,aEi h1,dA,aU,Mm hs,dA,aU,Mm hs];refine QG hy (lE hc) (lE ht) qQ ?_;rw [Mm hs,cS,aEi h1,cS];refine aBM hy (lE ha) (lE (iY _ (by decide))) qQ ?_;have hsr:=aKX hs h1;rw [ix0,aKV h1,bE (by decide),wJ];unfold qG;refine aE ?_;have h1':O2 (aK S r (.row (nY [iB a (c*t%11) 11,b]) 22)) r (iB a (c*t%11) 11) b:=aC;have h2':O2 (aK S r (.row (nY [iB a (c*t%11) 11,b]) 22)) r2 c d:=h2.other (aO hn);have hs':Sp (aK S r (.row (nY [iB a (c*t%11) 11,b]) 22)) s w m:=hs.other hsr;rw [aN,wX (by decide),bQ,ix1,aEj h2',ix1,aEj h1',dA,aU,Mm hs',dA,aU,Mm hs'];refine QG hy (lE hd) (lE ht) qQ ?_;rw [Mm hs',cS,aEj h1',cS];refine aBM hy (lE hb) (lE (iY _ (by decide))) qQ ?_;rw [ix1,aKW h1',dU,bE (by decide),wJ];unfold qG;refine aE ?_;rw [aN,iN (by decide),aW];exact aL hK
def Mn (u v:Nat):V:=if u≠0 then ni 0 else if v≠0 then ni 1 else .int .i64 (.negSucc 0)
theorem Ws (hM:10<M){y:VE} (h:O2 S r a b) (hK:K (.tuple [ow r,Mn a b]) S):gX y M (ow r) (ow r) (ni 2) (ni 0) S K:=by
 obtain⟨M',EU⟩:∃k,M=k+3:=⟨M-3,by omega⟩;rw [EU,qZ];unfold mI;refine aE ?_;rw [aN,wX (by decide),bQ,ix0,aEi h,aFc];unfold Mn at hK;by_cases c1:a=0
 ·rw [bF c1,dD,aW,bE (by decide),qZ]
  unfold mI;refine aE ?_;rw [aN,wX (by decide),bQ,ix1,aEj h,aFc];rw [aG (by simpa using c1)]at hK;by_cases c2:b=0
  ·rw [bF c2,dD,aW,bE (by decide),qZ]
   unfold mI;refine aE ?_;rw [aN,iN (by decide),aW];rw [aG (by simpa using c2)]at hK;exact aL hK
  ·rw [bJ c2,uN,bQ]
   rw [aJ c2]at hK;exact aL hK
 ·rw [bJ c1,uN,bQ]
  rw [aJ c1]at hK;exact aL hK
theorem aMX (hM:10<M) (hx:Deep PP bI gM M (n+3) x){O:Tag} (hs:Sp S s 2 m) (hm:S m=some (.map [])) (ha:a<11) (hb:b<11) (hK:∀r S',S r=none->bO S S'->O2 S' r a b->K (.tuple [ow r,Mn a b]) S'):x.call oB [.ptr s 0,.list O (jK [a,b]) 2] S K:=by
 refine hx.call rfl fun y hy=>?_;rw [ON];unfold ES;refine aKY hM hy hs ha hb fun r S1 hr dF o1=>?_;have xB:Sp S1 s 2 m:=dF _ _ hs;have CU:=dF _ _ hm;rw [dA,bA,aHp xB];unfold HA;simp only [CU];intro bs ck hbl _ _ i hi;have hb0:bs=[]:=rY hbl;subst hb0;have him:i≠m:=fun e=>by rw [e,aC]at hi;cases hi
 have IW:S1 i=none:=by rw [aB him]at hi;exact hi
 rw [hy.most];obtain⟨M',EU⟩:∃k,M=k+1:=⟨M-1,by omega⟩;rw [EU,sF];unfold nH;refine aE ?_;have hmi:aK (aK S1 m (.wD [] [] ck)) i (.iter m ck [] ck) m=some (.wD [] [] ck):=by rw [aB (aO him)];exact aC
 unfold MA;simp only [aC,hmi];refine⟨(fun b hb=>by cases hb),bR _,fun _=>?_,(fun j e b he=>by cases he)⟩;refine cJ (v:= .bool false) rfl ?_;rw [aW];show gX y y.most (ow r) (ow r) (ni 2) (ni 0) _ K;rw [hy.most]
 have fG:bO S1 (aK (aK (aK S1 m (.wD [] [] ck)) i (.iter m ck [] ck)) m (.map [])):=fun j o e=>by
  by_cases c1:j=m
  ·subst c1;rw [aC,<-e,CU]
  ·rw [aB c1,aB (fun c=>by rw [c,IW]at e;cases e),aB c1];exact e
 refine Ws hM (fG _ _ o1) (hK r _ hr (dF.trans fG) (fG _ _ o1))
def fQ (k a b:Nat):Nat:=if k=0 then a else b
theorem ixk (h:O2 S r a b){k:Nat} (hk:k<2){K:KV}:(cF 1 (ow r) (ni k) fun p=>aT p S K)=K (nu (fQ k a b)) S:=by
 match k,hk with
 | 0,_=>rw [ix0,aEi h];rfl
 | 1,_=>rw [ix1,aEj h];rfl
theorem MW{k:Nat} (ha:a<11) (hb:b<11):fQ k a b<11:=by unfold fQ;split<;>assumption
theorem aFS (hM:10<M) (hx:Deep PP bI gM M (n+4) x){O:Tag}{k:Nat} (hk:k<2) (hs:Sp S s 2 m) (hm:S m=some (.map [(ni k,ow r2)])) (ho:O2 S r2 c d) (ha:a<11) (hb:b<11) (hc:c<11) (hd:d<11)
 (hK:∀r S',S r=none->bO S S'->O2 S' r (iB a (c*fQ k a b%11) 11) (iB b (d*fQ k a b%11) 11)->K (.tuple [ow r,Mn (iB a (c*fQ k a b%11) 11) (iB b (d*fQ k a b%11) 11)]) S'):x.call oB [.ptr s 0,.list O (jK [a,b]) 2] S K:=by
 refine hx.call rfl fun y hy=>?_;rw [ON];unfold ES;refine aKY hM hy hs ha hb fun r S1 hr dF o1=>?_;have xB:Sp S1 s 2 m:=dF _ _ hs;have CU:=dF _ _ hm;have ho1:O2 S1 r2 c d:=dF _ _ ho;rw [dA,bA,aHp xB];unfold HA;simp only [CU];intro bs ck hbl _ hlt i hi;obtain⟨b0,rfl⟩:∃b0,bs=[b0]:=by match bs,hbl with | [b0],_=>exact⟨b0,rfl⟩
 have him:i≠m:=fun e=>by rw [e,aC]at hi;cases hi
 have IW:S1 i=none:=by rw [aB him]at hi;exact hi
 rw [hy.most];obtain⟨M',EU⟩:∃k,M=k+2:=⟨M-2,by omega⟩;rw [EU,sF];unfold nH;refine aE ?_;have hmi:aK (aK S1 m (.wD [(ni k,ow r2)] [b0] ck)) i (.iter m ck [] ck) m=some (.wD [(ni k,ow r2)] [b0] ck):=by rw [aB (aO him)];exact aC
 unfold MA;simp only [aC,hmi];refine⟨hlt,bR _,fun h=>aX (h b0 (.head _)) (by simp),fun j e b' he TN hns=>?_⟩
 obtain rfl:j=0:=by
  have:=(List.getElem?_eq_some_iff.1 he).1;simp at this;omega
 injection he with he;injection TN with TN;subst he TN;refine cJ (v:= .bool true) rfl ?_;rw [bQ,dU];have hnm:∀{q:Nat} {o:Ob},S1 q=some o->(∀es,o≠ .map es)->q≠m:=fun {q o} e h c=>by rw [c,CU]at e;injection e with e;exact h _ e.symm
 have hni:∀{q:Nat} {o:Ob},S1 q=some o->q≠i:=fun {q o} e c=>by rw [c,IW]at e;cases e
 have lT:∀{q:Nat} {o:Ob},S1 q=some o->(∀es,o≠ .map es)->aK (aK S1 m (.wD [(ni k,ow r2)] [b0] ck)) i (.iter m ck ([]++[b0]) ck) q=some o:=fun {q o} e h=>by rw [aB (hni e),aB (hnm e h)];exact e
 have o2:O2 _ r a b:=lT o1 (fun es c=>by cases c);have BL:O2 _ r2 c d:=lT ho1 (fun es c=>by cases c);have tZ:Sp _ s 2 m:=lT xB (fun es c=>by cases c);have aEk:aK (aK S1 m (.wD [(ni k,ow r2)] [b0] ck)) i (.iter m ck ([]++[b0]) ck) m=some (.wD [(ni k,ow r2)] [b0] ck):=by rw [aB (aO him)];exact aC
 have aEl:aK (aK S1 m (.wD [(ni k,ow r2)] [b0] ck)) i (.iter m ck ([]++[b0]) ck) i=some (.iter m ck ([]++[b0]) ck):=aC;generalize hS2:aK (aK S1 m (.wD [(ni k,ow r2)] [b0] ck)) i (.iter m ck ([]++[b0]) ck)=S2 at o2 BL tZ aEk aEl;unfold SX;simp only [aEl,aEk];refine⟨trivial,by simp,0,(ni k,ow r2),b0,rfl,rfl,rfl,?_⟩;refine cJ (v:=ni k) rfl ?_;refine cJ (v:=ow r2) rfl ?_;rw [ixk o2 hk];have hrr:r≠r2:=fun e=>by unfold O2 at ho;rw [<-e,hr]at ho;cases ho
 refine aFR hM hy tZ o2 BL hrr ha hb hc hd (MW ha hb) ?_;rw [sF];unfold nH;refine aE ?_;generalize iB a (c*fQ k a b%11) 11=A at hK;generalize iB b (d*fQ k a b%11) 11=B at hK;have hrm:r≠m:=hnm o1 (fun es c=>by cases c);have hri:r≠i:=hni o1;have aPx:aK S2 r (.row (nY [A,B]) 22) m=some (.wD [(ni k,ow r2)] [b0] ck):=by rw [aB (aO hrm)];exact aEk
 have aPy:aK S2 r (.row (nY [A,B]) 22) i=some (.iter m ck ([]++[b0]) ck):=by rw [aB (aO hri)];exact aEl
 unfold MA;simp only [aPy,aPx];refine⟨hlt,bR _,fun _=>?_,fun j e b' he TN hns=>?_⟩
 ·refine cJ (v:= .bool false) rfl ?_
  rw [aW];show gX y y.most (ow r) (ow r) (ni 2) (ni 0) _ K;rw [hy.most];have oo:O2 (aK (aK S2 r (.row (nY [A,B]) 22)) m (.map [(ni k,ow r2)])) r A B:=by unfold O2;rw [aB hrm];exact aC
  refine Ws hM oo (hK r _ hr (fun j o e=>?_) oo);have e1:=dF _ _ e;have hjr:j≠r:=fun c=>by rw [c,hr]at e;cases e
  by_cases c1:j=m
  ·subst c1;rw [aC,<-e,hm]
  ·rw [aB c1,aB hjr,<-hS2,aB (hni e1),aB c1];exact e1
 ·obtain rfl:j=0:=by
   have:=(List.getElem?_eq_some_iff.1 he).1;simp at this;omega
  injection TN with TN;subst TN;exact aX (List.mem_append.2 (.inr (.head _))) hns
end
set_option maxRecDepth 4000
def aCC (p iv:Nat):Prop:=CO (p%11+1) 11 (p%11) 0 (1%11) 11=(1,iv)/\iv<11
section
variable{M n s m r r2:Nat}{x:VE}{S:Hp}{K:KV}{a b c d t iv k:Nat}
theorem aCD (hM:10<M){y:VE} (hy:Deep PP bI gM M (n+1) y) (hs:Sp S s 2 m) (h:O2 S r a b) (ha:a<11) (hb:b<11) (hiv:iv<11)
 (hK:O2 (aK S r (.row (nY [a*iv%11,b*iv%11]) 22)) r (a*iv%11) (b*iv%11)->Sp (aK S r (.row (nY [a*iv%11,b*iv%11]) 22)) s 2 m->
  HA (.yM m) (aK S r (.row (nY [a*iv%11,b*iv%11]) 22)) fun v12 S=>nF y M (.ptr s 0) (ow r) (ni k) v12 S K):
 iL y M (.ptr s 0) (ow r) (ni k) (nu iv) (ni 2) (ni 0) S K:=by
 obtain⟨M',EU⟩:∃k,M=k+3:=⟨M-3,by omega⟩;have hsr:=aKX hs h;rw [EU,sE];unfold nG;refine aE ?_;rw [aN,wX (by decide),bQ,ix0,aEi h,dA,aU,Mm hs];refine QG hy (lE ha) (lE hiv) qQ ?_;have h1:O2 (aK S r (.row (nY [a*iv%11,b]) 22)) r (a*iv%11) b:=aC;have xB:Sp (aK S r (.row (nY [a*iv%11,b]) 22)) s 2 m:=hs.other hsr;rw [ix0,aKV h,bE (by decide),sE];unfold nG;refine aE ?_;rw [aN,wX (by decide),bQ,ix1,aEj h1,dA,aU,Mm xB];refine QG hy (lE hb) (lE hiv) qQ ?_;have h2:O2 (aK S r (.row (nY [a*iv%11,b*iv%11]) 22)) r (a*iv%11) (b*iv%11):=aC;have tZ:Sp (aK S r (.row (nY [a*iv%11,b*iv%11]) 22)) s 2 m:=hs.other hsr;rw [ix1,aKW h1,dU,bE (by decide),sE];unfold nG;refine aE ?_;rw [aN,iN (by decide),aW,dA,bA,aHp tZ,hy.most];exact hK h2 tZ
theorem aPz{j:Nat}:SW (.one (.int .i64)) (ni j):=rfl
theorem aPA (hM:10<M) (hx:Deep PP bI gM M (n+4) x){O:Tag} (hs:Sp S s 2 m) (hm:S m=some (.map [])) (ha:a<11) (hb:b<11) (hk:k<2) (hp:Mn a b=ni k) (hiv:aCC (fQ k a b) iv)
 (hK:∀r S',S r=none->(∀j o,j≠m->S j=some o->S' j=some o)->S' m=some (.map [(ni k,ow r)])->O2 S' r (a*iv%11) (b*iv%11)->K (.tuple []) S'):x.call jH [.ptr s 0,.list O (jK [a,b]) 2] S K:=by
 refine hx.call rfl fun y hy=>?_;rw [GR];unfold yR;refine aMX hM hy hs hm ha hb fun r S1 hr dF o1=>?_;have xB:Sp S1 s 2 m:=dF _ _ hs;have CU:=dF _ _ hm;refine cJ (v:=ow r) rfl ?_;refine cJ (v:=Mn a b) rfl ?_;rw [hp,aN,iN (by omega),aW,ixk o1 hk,dA,aU,Mm xB];refine aIQ hy (lE (MW ha hb)) qQ (by rw [hiv.1]) ?_;rw [hiv.1];refine cJ (v:=nu iv) rfl ?_;refine cJ (v:=ni 0) rfl ?_;show iL y y.most (.ptr s 0) (ow r) (ni k) (nu iv) (ni 2) (ni 0) S1 K;rw [hy.most];have hrm:r≠m:=fun e=>by rw [e,hm]at hr;cases hr
 refine aCD hM hy xB o1 ha hb hiv.2 fun o2 tZ=>?_;generalize a*iv%11=A at hK o2 tZ;generalize b*iv%11=B at hK o2 tZ;have YR:aK S1 r (.row (nY [A,B]) 22) m=some (.map []):=by rw [aB (aO hrm)];exact CU
 have fG:∀j o,j≠m->S j=some o->aK S1 r (.row (nY [A,B]) 22) j=some o:=fun j o hj e=>by rw [aB (fun c=>by rw [c,hr]at e;cases e)];exact dF _ _ e
 generalize aK S1 r (.row (nY [A,B]) 22)=S2 at o2 tZ YR fG;unfold HA;simp only [YR];intro bs ck hbl _ _ i hi;have hb0:bs=[]:=rY hbl;subst hb0;have him:i≠m:=fun e=>by rw [e,aC]at hi;cases hi
 have IW:S2 i=none:=by rw [aB him]at hi;exact hi
 obtain⟨M',EU⟩:∃k,M=k+1:=⟨M-1,by omega⟩;rw [EU,qY];unfold mH;refine aE ?_;have hmi:aK (aK S2 m (.wD [] [] ck)) i (.iter m ck [] ck) m=some (.wD [] [] ck):=by rw [aB (aO him)];exact aC
 unfold MA;simp only [aC,hmi];refine⟨(fun b hb=>by cases hb),bR _,fun _=>?_,(fun j e b he=>by cases he)⟩;refine cJ (v:= .bool false) rfl ?_;have hni:∀{q:Nat} {o:Ob},S2 q=some o->q≠i:=fun {q o} e c=>by rw [c,IW]at e;cases e
 have hnm:∀{q:Nat} {o:Ob},S2 q=some o->(∀es,o≠ .map es)->q≠m:=fun {q o} e h c=>by rw [c,YR]at e;injection e with e;exact h _ e.symm
 have kp:∀{q:Nat} {o:Ob},q≠m->S2 q=some o->aK (aK (aK S2 m (.wD [] [] ck)) i (.iter m ck [] ck)) m (.map []) q=some o:=fun {q o} hq e=>by rw [aB hq,aB (hni e),aB hq];exact e
 have hs3:Sp _ s 2 m:=kp (hnm tZ fun es c=>by cases c) tZ;have o3:O2 _ r A B:=kp hrm o2;have hm3:aK (aK (aK S2 m (.wD [] [] ck)) i (.iter m ck [] ck)) m (.map []) m=some (.map []):=aC;generalize aK (aK (aK S2 m (.wD [] [] ck)) i (.iter m ck [] ck)) m (.map [])=S3 at kp hs3 o3 hm3;rw [aW,dA,bA,aHp hs3];unfold zT;simp only [hm3];refine⟨aPz,(fun e he=>by cases he),?_⟩;refine aL (hK r _ hr (fun j o hj e=>by rw [aB hj];exact kp hj (fG j o hj e)) aC (o3.other hrm))
theorem aMY (hM:10<M) (hx:Deep PP bI gM M (n+5) x){O:Tag} (hk:k<2) (hs:Sp S s 2 m) (hm:S m=some (.map [(ni k,ow r2)])) (ho:O2 S r2 c d) (ha:a<11) (hb:b<11) (hc:c<11) (hd:d<11)
 (h1:iB a (c*fQ k a b%11) 11=0) (h2:iB b (d*fQ k a b%11) 11=0) (hK:K (.tuple []) S):x.call jH [.ptr s 0,.list O (jK [a,b]) 2] S K:=by
 refine hx.call rfl fun y hy=>?_;rw [GR];unfold yR;refine aFS hM hy hk hs hm ho ha hb hc hd fun r S1 hr dF o1=>?_;rw [h1,h2];refine cJ (v:=ow r) rfl ?_;refine cJ (v:=Mn 0 0) rfl ?_;show aH PP .lss 3 (.int .i64 (.negSucc 0)) (ni 0) _;rw [rC];show fS (.bool true) _ _;rw [bQ];exact bL dF hK
theorem aMZ (hM:10<M) (hx:Deep PP bI gM M (n+5) x){O:Tag}{k1 A B:Nat} (hk:k<2) (hs:Sp S s 2 m) (hm:S m=some (.map [(ni k,ow r2)])) (ho:O2 S r2 c d) (ha:a<11) (hb:b<11) (hc:c<11) (hd:d<11)
 (h1:iB a (c*fQ k a b%11) 11=A) (h2:iB b (d*fQ k a b%11) 11=B) (Yb:k1<2) (hp:Mn A B=ni k1) (oJ:k1≠k) (hiv:aCC (fQ k1 A B) iv)
 (hK:∀S' v1 v2,Sp S' s 2 m->S' m=some (.map [v1,v2])->(∀j o,j≠m->j≠r2->S j=some o->S' j=some o)->K (.tuple []) S'):x.call jH [.ptr s 0,.list O (jK [a,b]) 2] S K:=by
 refine hx.call rfl fun y hy=>?_;rw [GR];unfold yR;have hA:A<11:=by rw [<-h1];exact Nk _ _
 have hB:B<11:=by rw [<-h2];exact Nk _ _
 refine aFS hM hy hk hs hm ho ha hb hc hd fun r S1 hr dF o1=>?_;rw [h1,h2]at o1 ⊢;have xB:Sp S1 s 2 m:=dF _ _ hs;have CU:=dF _ _ hm;have ho1:O2 S1 r2 c d:=dF _ _ ho;refine cJ (v:=ow r) rfl ?_;refine cJ (v:=Mn A B) rfl ?_;rw [hp,aN,iN (by omega),aW,ixk o1 Yb,dA,aU,Mm xB];refine aIQ hy (lE (MW hA hB)) qQ (by rw [hiv.1]) ?_;rw [hiv.1];refine cJ (v:=nu iv) rfl ?_;refine cJ (v:=ni 0) rfl ?_;show iL y y.most (.ptr s 0) (ow r) (ni k1) (nu iv) (ni 2) (ni 0) S1 K;rw [hy.most];have hrm:r≠m:=fun e=>by rw [e,hm]at hr;cases hr
 have hrr:r≠r2:=fun e=>by unfold O2 at ho;rw [<-e,hr]at ho;cases ho
 refine aCD hM hy xB o1 hA hB hiv.2 fun o2 tZ=>?_;have hA2:A*iv%11<11:=iY _ (by decide);have hB2:B*iv%11<11:=iY _ (by decide);generalize A*iv%11=A2 at o2 tZ hA2;generalize B*iv%11=B2 at o2 tZ hB2;have YR:aK S1 r (.row (nY [A2,B2]) 22) m=some (.map [(ni k,ow r2)]):=by rw [aB (aO hrm)];exact CU
 have BL:O2 (aK S1 r (.row (nY [A2,B2]) 22)) r2 c d:=ho1.other (aO hrr);have fG:∀j o,S j=some o->aK S1 r (.row (nY [A2,B2]) 22) j=some o:=fun j o e=>by rw [aB (fun c=>by rw [c,hr]at e;cases e)];exact dF _ _ e
 generalize aK S1 r (.row (nY [A2,B2]) 22)=S2 at o2 tZ YR BL fG;unfold HA;simp only [YR];intro bs ck hbl _ hlt i hi;obtain⟨b0,rfl⟩:∃b0,bs=[b0]:=by match bs,hbl with | [b0],_=>exact⟨b0,rfl⟩
 have him:i≠m:=fun e=>by rw [e,aC]at hi;cases hi
 have IW:S2 i=none:=by rw [aB him]at hi;exact hi
 obtain⟨M',EU⟩:∃k,M=k+2:=⟨M-2,by omega⟩;rw [EU,qY];unfold mH;refine aE ?_;have hmi:aK (aK S2 m (.wD [(ni k,ow r2)] [b0] ck)) i (.iter m ck [] ck) m=some (.wD [(ni k,ow r2)] [b0] ck):=by rw [aB (aO him)];exact aC
 unfold MA;simp only [aC,hmi];refine⟨hlt,bR _,fun h=>aX (h b0 (.head _)) (by simp),fun j e b' he TN hns=>?_⟩
 obtain rfl:j=0:=by
  have:=(List.getElem?_eq_some_iff.1 he).1;simp at this;omega
 injection he with he;injection TN with TN;subst he TN;refine cJ (v:= .bool true) rfl ?_;rw [bQ,dU];have hnm:∀{q:Nat} {o:Ob},S2 q=some o->(∀es,o≠ .map es)->q≠m:=fun {q o} e h c=>by rw [c,YR]at e;injection e with e;exact h _ e.symm
 have hni:∀{q:Nat} {o:Ob},S2 q=some o->q≠i:=fun {q o} e c=>by rw [c,IW]at e;cases e
 have lT:∀{q:Nat} {o:Ob},q≠m->S2 q=some o->aK (aK S2 m (.wD [(ni k,ow r2)] [b0] ck)) i (.iter m ck ([]++[b0]) ck) q=some o:=fun {q o} h e=>by rw [aB (hni e),aB h];exact e
 have o3:O2 _ r A2 B2:=lT hrm o2;have aRu:r2≠m:=hnm BL (fun es c=>by cases c);have Wc:s≠m:=hnm tZ (fun es c=>by cases c);have ho3:O2 _ r2 c d:=lT aRu BL;have hs3:Sp _ s 2 m:=lT Wc tZ;have aEk:aK (aK S2 m (.wD [(ni k,ow r2)] [b0] ck)) i (.iter m ck ([]++[b0]) ck) m=some (.wD [(ni k,ow r2)] [b0] ck):=by rw [aB (aO him)];exact aC
 have aEl:aK (aK S2 m (.wD [(ni k,ow r2)] [b0] ck)) i (.iter m ck ([]++[b0]) ck) i=some (.iter m ck ([]++[b0]) ck):=aC;generalize aK (aK S2 m (.wD [(ni k,ow r2)] [b0] ck)) i (.iter m ck ([]++[b0]) ck)=S3 at o3 ho3 hs3 aEk aEl lT;unfold SX;simp only [aEl,aEk];refine⟨trivial,by simp,0,(ni k,ow r2),b0,rfl,rfl,rfl,?_⟩;refine cJ (v:=ow r2) rfl ?_;rw [ixk ho3 Yb];refine aFR hM hy hs3 ho3 o3 (aO hrr) hc hd hA2 hB2 (MW hc hd) ?_;rw [qY];unfold mH;refine aE ?_;generalize iB c (A2*fQ k1 c d%11) 11=C3;generalize iB d (B2*fQ k1 c d%11) 11=D3;have aS4:r2≠i:=hni BL;have aPx:aK S3 r2 (.row (nY [C3,D3]) 22) m=some (.wD [(ni k,ow r2)] [b0] ck):=by rw [aB (aO aRu)];exact aEk
 have aPy:aK S3 r2 (.row (nY [C3,D3]) 22) i=some (.iter m ck ([]++[b0]) ck):=by rw [aB (aO aS4)];exact aEl
 have hs4:Sp (aK S3 r2 (.row (nY [C3,D3]) 22)) s 2 m:=hs3.other (aKX hs3 ho3);unfold MA;simp only [aPy,aPx];refine⟨hlt,bR _,fun _=>?_,fun j e b' he TN hns=>?_⟩
 ·refine cJ (v:= .bool false) rfl ?_
  have hs5:Sp (aK (aK S3 r2 (.row (nY [C3,D3]) 22)) m (.map [(ni k,ow r2)])) s 2 m:=hs4.other Wc;rw [aW,dA,bA,aHp hs5];unfold zT;simp only [aC];refine⟨aPz,(fun e he=>by rcases List.mem_cons.1 he with rfl | he;exact aPz;cases he),?_⟩
  have Vk:PF [(ni k,ow r2)] (ni k1) (ow r)=[(ni k,ow r2),(ni k1,ow r)]:=by
   have:¬(ni k1=ni k):=fun e=>by injection e with _ e;exact oJ (by injection e)
   simp only [PF];rw [aG this]
  rw [Vk];refine aL (hK _ _ _ (hs5.other Wc) aC fun j o hj Tt e=>?_);rw [aB hj,aB hj,aB Tt];exact lT hj (fG j o e)
 ·obtain rfl:j=0:=by
   have:=(List.getElem?_eq_some_iff.1 he).1;simp at this;omega
  injection TN with TN;subst TN;exact aX (List.mem_append.2 (.inr (.head _))) hns
end
set_option maxRecDepth 4000
theorem aHq{x0:Int} (h:Sj x0):∃k iv,k<2/\Mn (iU x0) (iU 1)=ni k/\aCC (fQ k (iU x0) (iU 1)) iv/\
 iB (iU x0) ((iU x0*iv%11)*fQ k (iU x0) (iU 1)%11) 11=0/\iB (iU 1) ((iU 1*iv%11)*fQ k (iU x0) (iU 1)%11) 11=0/\
 ∀y,Sj y->y≠x0->∃k1 iv1,k1<2/\Mn (iB (iU y) ((iU x0*iv%11)*fQ k (iU y) (iU 1)%11) 11) (iB (iU 1) ((iU 1*iv%11)*fQ k (iU y) (iU 1)%11) 11)=ni k1/\k1≠k/\
  aCC (fQ k1 (iB (iU y) ((iU x0*iv%11)*fQ k (iU y) (iU 1)%11) 11) (iB (iU 1) ((iU 1*iv%11)*fQ k (iU y) (iU 1)%11) 11)) iv1:=by
 have iok:∀{p iv:Nat},CO (p%11+1) 11 (p%11) 0 (1%11) 11=(1,iv)->iv<11->aCC p iv:=fun a b=>⟨a,b⟩;rcases aCB h with rfl | rfl | rfl
 ·refine⟨0,10,by decide,rfl,⟨rfl,by decide⟩,rfl,rfl,fun y hy oJ=>?_⟩
  rcases aCB hy with rfl | rfl | rfl
  ·exact aX rfl oJ
  ·exact⟨1,1,by decide,rfl,by decide,⟨rfl,by decide⟩⟩
  ·exact⟨1,6,by decide,rfl,by decide,⟨rfl,by decide⟩⟩
 ·refine⟨1,1,by decide,rfl,⟨rfl,by decide⟩,rfl,rfl,fun y hy oJ=>?_⟩
  rcases aCB hy with rfl | rfl | rfl
  ·exact⟨0,10,by decide,rfl,by decide,⟨rfl,by decide⟩⟩
  ·exact aX rfl oJ
  ·exact⟨0,1,by decide,rfl,by decide,⟨rfl,by decide⟩⟩
 ·refine⟨0,1,by decide,rfl,⟨rfl,by decide⟩,rfl,rfl,fun y hy oJ=>?_⟩
  rcases aCB hy with rfl | rfl | rfl
  ·exact⟨1,6,by decide,rfl,by decide,⟨rfl,by decide⟩⟩
  ·exact⟨1,1,by decide,rfl,by decide,⟨rfl,by decide⟩⟩
  ·exact aX rfl oJ
def yD (xs:List Int):List (List Nat):=xs.map Us
section
variable{M n s m r r2:Nat}{x:VE}{S:Hp}{K:KV}
theorem Sk{xs:List Int}{i:Nat}{q:Int} (h:xs[i]? =some q):(dS (yD xs))[i*1]? =some (.list (jK (Us q)) 2):=by
 rw [jL];unfold dS yD;rw [dO,dO,h];rfl
theorem aPB (hM:1000000<M) (hx:Deep PP bI gM M (n+6) x){O:Tag}{xs:List Int}{S0:Hp}{x0:Int} (hl:xs.length<1000000) (PL:∀q∈xs,Sj q) (HH:∀i,i+1<xs.length->xs[i]? =some x0) (hm0:S0 m=none){k iv:Nat}
 (hk:k<2) (hx0:Sj x0) (e1:iB (iU x0) ((iU x0*iv%11)*fQ k (iU x0) (iU 1)%11) 11=0) (e2:iB (iU 1) ((iU 1*iv%11)*fQ k (iU x0) (iU 1)%11) 11=0)
 (e3:∀y,Sj y->y≠x0->∃k1 iv1,k1<2/\Mn (iB (iU y) ((iU x0*iv%11)*fQ k (iU y) (iU 1)%11) 11) (iB (iU 1) ((iU 1*iv%11)*fQ k (iU y) (iU 1)%11) 11)=ni k1/\k1≠k/\
  aCC (fQ k1 (iB (iU y) ((iU x0*iv%11)*fQ k (iU y) (iU 1)%11) 11) (iB (iU 1) ((iU 1*iv%11)*fQ k (iU y) (iU 1)%11) 11)) iv1)
 (hK1:(∀q∈xs,q=x0)->∀S' e,bO S0 S'->Sp S' s 2 m->S' m=some (.map [e])->K (.ptr s 0) S')
 (hK2:(∃q∈xs,q≠x0)->∀S' e f,bO S0 S'->Sp S' s 2 m->S' m=some (.map [e,f])->K (.ptr s 0) S'):
 ∀(q i mm:Nat) (S:Hp) (r:Nat),i+q=xs.length->q+1<mm->bO S0 S->Sp S s 2 m->0<i->(∀j,j<i->xs[j]? =some x0)->S0 r=none->S m=some (.map [(ni k,ow r)])->O2 S r (iU x0*iv%11) (iU 1*iv%11)->
  tW x mm (.ptr s 0) (.list O (dS (yD xs)) xs.length) (ni xs.length) (ni i) S K:=by
 intro q;induction q with
 | zero=>
  intro i mm S r hi hmm hs AO h0 rH hr hm ho;obtain⟨mm,rfl⟩:=bG (show mm≠0 by omega);rw [wW];unfold rV;refine aE ?_;rw [aN,iN (by omega),aW];refine aL (hK1 (fun q hq=>?_) S _ hs AO hm);obtain⟨j,hj,rfl⟩:=Bj hq;have:=rH j (by omega);rw [aQ hj]at this;injection this
 | succ q ih=>
  intro i mm S r hi hmm hs AO h0 rH hr hm ho;obtain⟨mm,rfl⟩:=bG (show mm≠0 by omega);rw [wW];unfold rV;refine aE ?_;have hlt:i<xs.length:=by omega
  have RE:=Sk (aQ hlt);have aS5:=PL _ (cK hlt);rw [aN,wX hlt,bQ,fH hlt,sJ,cI RE];show x.call jH [.ptr s 0,.list (.sub O (i*1)) (jK [iU xs[i],iU 1]) 2] S _;by_cases c:xs[i]=x0
  ·rw [c]
   refine aMY (n:=n+1) (by omega) hx hk AO hm ho (ZE _) (ZE _) (iY _ (by decide)) (iY _ (by decide)) e1 e2 ?_;rw [bE (by omega)];refine ih (i+1) mm S r (by omega) (by omega) hs AO (by omega) (fun j hj=>?_) hr hm ho;rcases BF j i with q | q
   ·exact rH j q
   ·obtain rfl:j=i:=by omega
    rw [aQ hlt,c]
  ·obtain⟨k1,iv1,g1,g2,g3,g4⟩:=e3 xs[i] aS5 c
   refine aMZ (n:=n+1) (by omega) hx hk AO hm ho (ZE _) (ZE _) (iY _ (by decide)) (iY _ (by decide)) rfl rfl g1 g2 g3 g4 fun S' v1 v2 hs' hm' aFT=>?_
   have aM9:i+1=xs.length:=by
    rcases BF (i+1) xs.length with q | q
    ·have:=HH i q
     rw [aQ hlt]at this;injection this with this;exact aX this c
    ·omega
   obtain⟨mm,rfl⟩:=bG (show mm≠0 by omega);rw [bE (by omega),wW];unfold rV;refine aE ?_;rw [aN,iN (by omega),aW];refine aL (hK2 ⟨_,cK hlt,c⟩ S' _ _ (fun j o e=>?_) hs' hm');exact aFT j o (fun q=>by rw [q,hm0]at e;cases e) (fun q=>by rw [q,hr]at e;cases e) (hs j o e)
theorem aM0{w:Nat} (hw:w<=2){k:V->Prop}:Cq true (ni w) (ni 2) k=k (ni 2):=by
 show k (.int .i64 (max (Int.ofNat w) 2))=k (.int .i64 2);rw [Int.max_eq_right (by simp only [VI];omega)]
theorem aRv (hM:1000000<M) (hx:Deep PP bI gM M (n+7) x){O:Tag}{xs:List Int} (hl:xs.length<1000000) (PL:∀q∈xs,Sj q){x0:Int} (HH:∀i,i+1<xs.length->xs[i]? =some x0) (hx0:Sj x0)
 (hK:∀s m w S' es,bO S S'->Sp S' s w m->S' m=some (.map es)->es.length=(if xs=[]then 0 else if xs.all (fun q=>decide (q=x0)) || xs.length==1 then 1 else 2)->K (.ptr s 0) S'):x.call QZ [.list O (dS (yD xs)) xs.length,nu 11] S K:=by
 refine hx.call rfl fun y hy=>?_;rw [aHm];unfold Wq;intro m hm;have CU:aK S m (.map []) m=some (.map []):=aC;have dF:bO S (aK S m (.map [])):= .aI hm;generalize aK S m (.map [])=S1 at CU dF
 have hb:∀{k:V->Prop},k (.agg [nu 11,ni 0,.yM m])->cV [(.int .u64 (.ofNat 0)),(.int .i64 (.ofNat 0)),(.map none)] [(0,1,nu 11),(2,1,.yM m)] k:=fun {k} hk=>by
  unfold cV rL;show iG [(0,1,nu 11),(2,1,.yM m)] [nu 0,ni 0,.Qq] _;unfold iG iG iG;rw [vc1 (v:=nu 11) rfl,vc1 (v:= .yM m) rfl];exact⟨rfl,by simp,rfl,by simp [aY],hk⟩
 refine hb ?_;refine cA rfl fun s hs=>?_;have AO:Sp (aK S1 s (.row [nu 11,ni 0,.yM m] 183)) s 0 m:=aC;have hs0:S s=none:=dF.none hs;have Wc:s≠m:=fun e=>by rw [e,CU]at hs;cases hs
 have YR:aK S1 s (.row [nu 11,ni 0,.yM m] 183) m=some (.map []):=by rw [aB (aO Wc)];exact CU
 have fG:bO S (aK S1 s (.row [nu 11,ni 0,.yM m] 183)):=dF.trans (.aI hs);generalize aK S1 s (.row [nu 11,ni 0,.yM m] 183)=S2 at AO YR fG;show vS y y.most (.list O (dS (yD xs)) xs.length) (.ptr s 0) (.list O (dS (yD xs)) xs.length) (ni xs.length) (ni 0) S2 K;rw [hy.most]
 have go:∀(q i mm:Nat) (w:Nat) (S3:Hp),i+q=xs.length->q<mm->w<=2->(0<i->w=2)->bO S S3->Sp S3 s w m->S3 m=some (.map [])->(∀w S4,(0<xs.length->w=2)->bO S S4->Sp S4 s w m->S4 m=some (.map [])->tW y M (.ptr s 0) (.list O (dS (yD xs)) xs.length) (ni xs.length) (ni 0) S4 K)->
  vS y mm (.list O (dS (yD xs)) xs.length) (.ptr s 0) (.list O (dS (yD xs)) xs.length) (ni xs.length) (ni i) S3 K:=by
  intro q;induction q with
  | zero=>
   intro i mm w S3 hi hmm hw hw2 hle aM1 hm3 hk;obtain⟨mm,rfl⟩:=bG (show mm≠0 by omega);rw [RB];unfold GQ;refine aE ?_;rw [aN,iN (by omega),aW,cD,hy.most];exact hk w S3 (fun h=>hw2 (by omega)) hle aM1 hm3
  | succ q ih=>
   intro i mm w S3 hi hmm hw hw2 hle aM1 hm3 hk;obtain⟨mm,rfl⟩:=bG (show mm≠0 by omega);rw [RB];unfold GQ;refine aE ?_;have hlt:i<xs.length:=by omega
   have RE:=Sk (aQ hlt);rw [aN,wX hlt,bQ,fH hlt,sJ,cI RE,dA,bA,aRt aM1];show bH (.list (.sub O (i*1)) (jK (Us xs[i])) 2) _;rw [cD];show Cq true (ni w) (ni 2) _;rw [aM0 hw,dA,bA,DT aM1 (show 0+1<3 by decide) rfl,bE (by omega)];refine ih (i+1) mm 2 _ (by omega) (by omega) (bR _) (fun _=>rfl) (fun j o e=>?_) aC (by rw [aB (aO Wc)];exact hm3) hk;rw [aB (fun c=>by rw [c,hs0]at e;cases e)];exact hle j o e
 refine go xs.length 0 M 0 S2 (by omega) (by omega) (by decide) (fun h=>aX h (by decide)) fG AO YR fun w S4 hw IY hs4 Ls=>?_;obtain⟨M1,hM1⟩:∃q,M=q+1:=⟨M-1,by omega⟩;rw [hM1,wW];unfold rV;refine aE ?_;by_cases c0:xs=[]
 ·subst c0
  rw [aN,iN (by decide),aW];exact aL (hK s m w S4 [] IY hs4 Ls rfl)
 ·have hlt:0<xs.length:=List.length_pos_iff.2 c0
  have hw2:=hw hlt;subst hw2;have RE:=Sk (aQ hlt);have aRw:=PL _ (cK hlt);rw [aN,wX hlt,bQ,fH hlt,sJ,cI RE];show y.call jH [.ptr s 0,.list (.sub O (0*1)) (jK [iU xs[0],iU 1]) 2] S4 _
  have aPC:∀i,i+1<xs.length->xs[i]? =some xs[0]:=fun i hi=>by
   have h1:=HH i hi;have h2:=HH 0 (by omega);rw [aQ hlt]at h2;injection h2 with h2;rw [h1,h2]
  obtain⟨k,iv,f1,f2,f3,f4,f5,f6⟩:=aHq aRw;refine aPA (n:=n+2) (by omega) hy hs4 Ls (ZE _) (ZE _) f1 f2 f3 fun r S5 hr aFT hm5 o5=>?_;rw [bE (by decide)];have aS6:Sp S5 s 2 m:=aFT _ _ Wc hs4;have DY:bO S S5:=fun j o e=>aFT j o (fun q=>by rw [q,hm]at e;cases e) (IY j o e);refine aPB (n:=n) (S0:=S) (x0:=xs[0]) hM hy hl PL aPC hm f1 aRw f4 f5 f6 (fun rH S' e aPD aPE hm'=>?_) (fun hex S' e f aPD aPE hm'=>?_) (xs.length-1) 1 M1 S5 r (by omega) (by omega) DY aS6 (by decide) (fun j hj=>?_) (IY.none hr) hm5 o5
  ·refine hK s m 2 S' [e] aPD aPE hm' ?_
   rw [aG c0];by_cases c1:xs.length=1
   ·rw [c1];simp
   ·have aPF:xs[0]=x0:=by
     have h2:=HH 0 (by omega);rw [aQ hlt]at h2;injection h2
    have:xs.all (fun q=>decide (q=x0))=true:=by
     rw [KO];intro q hq;rw [rH q hq,aPF];simp
    rw [this];rfl
  ·refine hK s m 2 S' [e,f] aPD aPE hm' ?_
   obtain⟨q,hq,oJ⟩:=hex
   have c1:xs.length≠1:=fun c1=>by
    obtain⟨j,hj,rfl⟩:=Bj hq;obtain rfl:j=0:=by omega
    exact oJ rfl
   have aPF:xs[0]=x0:=by
    have h2:=HH 0 (by omega);rw [aQ hlt]at h2;injection h2
   have:xs.all (fun q=>decide (q=x0))=false:=by
    rw [List.all_eq_false];exact⟨q,hq,by rw [<-aPF];simpa using oJ⟩
   rw [aG c0,this];have:(xs.length==1)=false:=by simpa using c1
   rw [this];rfl
  ·obtain rfl:j=0:=by omega
   exact aQ hlt
theorem aPG (hx:Deep PP bI gM M (n+2) x) (hK:K (.bool true) S):x.call Di [nu 11] S K:=by
 refine hx.call rfl fun y hy=>?_;rw [aEf];unfold Sd gL gK gQ;rw [aFb,bF (by decide),aF,aM];dsimp only;rw [aF,aM];refine hy.IQ (g:=aLN) rfl ⟨rfl,?_⟩;dsimp only;rw [aF,dJ];exact aL hK
theorem aPH (hM:1000000<M) (hx:Deep PP bI gM M (n+8) x){O:Tag}{xs:List Int} (hl:xs.length<1000000) (PL:∀q∈xs,Sj q){x0:Int} (HH:∀i,i+1<xs.length->xs[i]? =some x0) (hx0:Sj x0)
 (hK:K (ni (if xs=[]then 0 else if xs.all (fun q=>decide (q=x0)) || xs.length==1 then 1 else 2)) S):x.call YD [.list O (dS (yD xs)) xs.length,nu 11] S K:=by
 refine hx.call rfl fun y hy=>?_;rw [aCz];unfold Ld;refine aPG (n:=n+5) hy ?_;rw [lW,dD,aW];refine aRv hM hy hl PL HH hx0 fun s m w S' es hle AO hm YM=>?_;rw [dA,bA,aHp AO];unfold Qu;simp only [hm];rw [YM];exact bL hle hK
end
set_option maxRecDepth 4000
section
variable{M n:Nat}{x:VE}{S S0:Hp}{K:KV}{two:Bool}
theorem aM2{O:Tag}{l:List (Int×List Int)} (hl:l.length<1000000){f:V}{p:Int×List Int->Bool}
 (hf:∀a∈l,∀t,∀K:KV,K (.bool (p a)) S->lX x f [.agg [.int .i64 a.1,.list t (iV a.2) a.2.length]] S K) (hT:l.any p=true->∀j:Nat,K (ni j) S) (hF:l.any p=false->K (.int .i64 (.negSucc 0)) S):
 ∀(r i m:Nat),i+r=l.length->r<m->(l.drop i).any p=l.any p->dC x m (.list O (aD l) l.length) f (ni l.length) (ni i) S K:=by
 intro r;induction r with
 | zero=>
  intro i m hi hm he;obtain⟨m,rfl⟩:=bG (show m≠0 by omega);rw [iX];unfold eQ;refine aE ?_;rw [aN,iN (by omega),aW];rw [oS (by omega)]at he;exact aL (hF he.symm)
 | succ r ih=>
  intro i m hi hm he;obtain⟨m,rfl⟩:=bG (show m≠0 by omega);rw [iX];unfold eQ;refine aE ?_;have hlt:i<l.length:=by omega
  obtain⟨g1,g2⟩:=aB1 (aQ hlt);rw [aN,wX hlt,bQ,fH hlt,SU,dL g1,g2];refine hf l[i] (cK hlt) _ _ ?_;rw [lP hlt,List.any_cons]at he;cases hp:p l[i]with
  | true=>
   rw [hp,Bool.true_or]at he;rw [bQ];exact aL (hT he.symm i)
  | false=>
   rw [hp,Bo]at he;rw [aW,bE (by omega)];exact ih (i+1) m (by omega) (by omega) he
theorem aM3 (hM:1000000<M) (hx:Deep PP bI gM M (n+2) x){O:Tag}{l:List (Int×List Int)} (hl:l.length<1000000){c:FuncId}{cs:List V}{p:Int×List Int->Bool}
 (hf:∀y,Deep PP bI gM M n y->∀a∈l,∀t,∀K:KV,K (.bool (p a)) S->y.call c (.agg [.int .i64 a.1,.list t (iV a.2) a.2.length]::cs) S K) (hK:K (.bool (l.any p)) S):x.call fD [.list O (aD l) l.length,.func c [] cs] S K:=by
 refine hx.call rfl fun y hy=>?_;rw [sD];unfold kD;refine hy.call rfl fun u hu=>?_;rw [uA];unfold kX;rw [cD,hu.most];refine aM2 (x:=u) (f:= .func c [] cs) hl (p:=p) (fun a ha t K hk=>hf u hu a ha t K hk) (fun e j=>?_) (fun e=>?_) l.length 0 M (by omega) (by omega) rfl
 ·rw [e]at hK
  rw [zE];exact aL (by rw [bF (BG j)];exact hK)
 ·rw [e]at hK
  rw [CH];exact aL hK
inductive aHr (S:Hp):V->List Int->Prop
 | no:aHr S .nil []
 | one {j:Nat} {t:Tag} {y:Int} (h:S j=some (.row [.list t (iV [y]) 1] 39)):aHr S (.own j 0 1 1) [y]
theorem aHr.up{S S':Hp}{v:V}{l:List Int} (h:aHr S v l) (hle:bO S S'):aHr S' v l:=by cases h with | no=>exact .no | one h=>exact .one (hle _ _ h)
theorem Wt (a b:List Int):yD (a++b)=yD a++yD b:=RI
theorem aM4 (hM:1000000<M) (hx:Deep PP bI gM M (n+5) x){O:Tag}{l:List (Int×List Int)} (hl:l.length<1000000){x0:Int} (rH:∀a∈l,a.2=[x0]) (hx0:Sj x0){w:V}{ys:List Int} (hw:aHr S w ys) (hys:∀y∈ys,Sj y)
 (hK:∀O,K (.list O (dS (yD (List.replicate l.length x0++ys))) (List.replicate l.length x0++ys).length) S):x.call EM [.agg (pv two),.list O (aD l) l.length,w] S K:=by
 refine hx.call rfl fun y hy=>?_;rw [aAB];unfold Gz;refine cA jV fun p hp=>?_;have dF:bO S (aK S p (.row (pv two) 29)):= .aI hp;have rp:aK S p (.row (pv two) 29) p=some (.row (pv two) 29):=aC;generalize aK S p (.row (pv two) 29)=S1 at dF rp;have hw1:=hw.up dF;show qD y y.most w (.ptr p 0) .nil (.list O (aD l) l.length) (ni l.length) (ni 0) S1 K;rw [hy.most]
 have go:∀(q i m:Nat) (u:V) (S3:Hp),bO S1 S3->GL 51 S1 S3 u (dS (yD (List.replicate i x0)))->i+q=l.length->q<m->qD y m w (.ptr p 0) u (.list O (aD l) l.length) (ni l.length) (ni i) S3 K:=by
  intro q;induction q with
  | zero=>
   intro i m u S3 hs CU hi hm;obtain⟨m,rfl⟩:=bG (show m≠0 by omega);rw [JO];unfold zZ;refine aE ?_;obtain rfl:i=l.length:=by omega
   rw [aN,iN (by omega),aW];have hw3:=hw1.up hs;obtain⟨M',EU⟩:∃k,M=k+2:=⟨M-2,by omega⟩;cases hw3 with
   | no=>
    show oQ y y.most (.ptr p 0) u .nil (ni 0) (ni 0) S3 K;rw [hy.most,EU,yA];unfold rU;refine aE ?_;rw [aN,iN (by decide),aW];have fu:=(CU.base dF).Cm;rw [HB,yD,lR]at fu;rw [OU]at hK;exact gJ (dF.trans hs) fu hK
   | @one j t z hj=>
    show oQ y y.most (.ptr p 0) u (.own j 0 1 1) (ni 1) (ni 0) S3 K;rw [hy.most,EU,yA];unfold rU;refine aE ?_;rw [aN,wX (by decide),bQ];refine⟨by decide,?_⟩;show aT (.ptr j 0) S3 _;rw [cQ (o:=0) hj rfl,lC (hs _ _ rp)];refine aNG (two:=two) (by omega) hy (q:=z) (hys z (.head _)) fun t2=>?_;refine CU.app hs (by rw [HB,yD,lR,OQ];omega) (zv:= .nil) rfl (by decide) (d:= .list (jK (Us z)) 2) fun u2 S4 hs4 _ _ Ls=>?_;rw [bE (by decide),yA];unfold rU;refine aE ?_;rw [aN,iN (by decide),aW];have e2:dS (yD (List.replicate l.length x0))++[.list (jK (Us z)) 2]=dS (yD (List.replicate l.length x0++[z])):=by rw [Wt,Gx];rfl
    rw [e2]at Ls;have fu:=(Ls.base dF).Cm;rw [HB,yD,lR]at fu;exact gJ (dF.trans hs4) fu hK
  | succ q ih=>
   intro i m u S3 hs CU hi hm;obtain⟨m,rfl⟩:=bG (show m≠0 by omega);rw [JO];unfold zZ;refine aE ?_;have hlt:i<l.length:=by omega
   obtain⟨g1,g2⟩:=aB1 (aQ hlt);have LG:=rH _ (cK hlt);rw [aN,wX hlt,bQ,fH hlt,SU,dL g1,g2,LG];refine cB (l:=[ni 0,.nil]) rfl fun b hb=>?_;refine gV (n:=2) (i:=b) aC rfl rfl rfl ?_;rw [dU];generalize vX:(Tl O (i*2) [.int .i64 l[i].1,.list (iV [x0]) [x0].length])=cs;obtain⟨t1,vX⟩:∃t1,cs=[.int .i64 l[i].1,.list t1 (iV [x0]) 1]:=⟨_,vX.symm⟩;subst vX;have fG:bO S3 (aK S3 b (.row [.int .i64 l[i].1,.list t1 (iV [x0]) 1] 111)):= .aI hb;have rb:aK S3 b (.row [.int .i64 l[i].1,.list t1 (iV [x0]) 1] 111) b=some (.row [.int .i64 l[i].1,.list t1 (iV [x0]) 1] 111):=aC;generalize aK S3 b (.row [.int .i64 l[i].1,.list t1 (iV [x0]) 1] 111)=S4 at fG rb;rw [lC (fG _ _ (hs _ _ rp)),bA,cQ (o:=0+1) rb rfl];refine aNG (two:=two) (by omega) hy (q:=x0) hx0 fun t2=>?_;refine(CU.up fG).app (hs.trans fG) (by rw [HB,yD,lR,OQ];omega) (zv:= .nil) rfl (by decide) (d:= .list (jK (Us x0)) 2) fun u2 S5 hs5 _ _ hm5=>?_;rw [bE (by omega)];have e2:dS (yD (List.replicate i x0))++[.list (jK (Us x0)) 2]=dS (yD (List.replicate (i+1) x0)):=by rw [List.replicate_succ',Wt,Gx];rfl
   rw [e2]at hm5;exact ih (i+1) m u2 S5 hs5 hm5 (by omega) (by omega)
 exact go l.length 0 M .nil S1 (.refl _) .nil (by omega) (by omega)
theorem aKZ{k:Nat}{x0:Int}{ys:List Int} (hy:ys.length<=1):∀i,i+1<(List.replicate k x0++ys).length->(List.replicate k x0++ys)[i]? =some x0:=fun i hi=>by
 rw [jU,OQ]at hi;rw [gI (by rw [OQ];omega),List.getElem?_replicate,aJ (by omega)]
theorem aM5{t:TypeId}{a b:Int}{k:V->Prop}:aH PP .eql t (.int .i64 a) (.int .i64 b) k=k (.bool (decide (a=b))):=by rw [KI]
theorem aRx (hx:Deep PP bI gM M (n+1) x){e b:Nat}{w:Nat}{id:Int} (re:S e=some (.row [ni w] 46)) (rb:S b=some (.row [.int .i64 id] 3)) (hK:K (.bool (decide (w=4) || (decide (id<1) || decide (1099511627776<id)))) S):x.call oD [.ptr e 0,.ptr b 0] S K:=by
 refine hx.call rfl fun y hy=>?_;rw [Mc];unfold UK gP gL gQ;have lb:∀{K:KV},aT (.ptr b 0) S K=K (.int .i64 id) S:=cQ rb rfl;rw [cQ re rfl,uV];by_cases c1:w=4
 ·rw [bF c1]at hK ⊢
  simp only [aF,EI,dJ];exact aL hK
 ·rw [bJ c1]at hK ⊢
  simp only [aF,aM,lb,eI];show aH PP .lss 3 (.int .i64 id) (.int .i64 1) _;rw [aEd];by_cases c2:id<1
  ·rw [bF c2]at hK ⊢
   simp only [EI,dJ];exact aL hK
  ·rw [bJ c2]at hK ⊢
   simp only [aM,lb,eI];show aH PP .gtr 3 (.int .i64 id) (.int .i64 1099511627776) _;rw [aAy];exact aL hK
theorem aRy (hx:Deep PP bI gM M (n+1) x){e:Nat}{w:Nat} (re:S e=some (.row [ni w] 46)) (hK:K (.bool (!decide (w=0))) S):x.call oE [.ptr e 0] S K:=by
 refine hx.call rfl fun y hy=>?_;rw [Md];unfold UL;rw [cQ re rfl,lV];exact aL hK
theorem aRz (hM:1000000<M) (hx:Deep PP bI gM M (n+4) x){a b:Nat}{t:Tag}{l:List (Int×List Int)}{id:Int} (hl:l.length<1000000) (ra:S a=some (.row [.list t (aD l) l.length] 34)) (rb:S b=some (.row [.int .i64 id] 3)) (hK:K (.bool (l.any fun q=>decide (q.1=id))) S):x.call oF [.ptr a 0,.ptr b 0] S K:=by
 refine hx.call rfl fun y hy=>?_;rw [Me];unfold UM;rw [cQ ra rfl];refine aM3 (n:=n+1) hM hy hl (p:=fun q=>decide (q.1=id)) (fun u hu q _ t K hk=>?_) (aL hK);refine hu.call rfl fun z hz=>?_;rw [Hb];unfold OM;refine cA rfl fun d hd=>?_;have le:bO S (aK S d (.row [.int .i64 q.1,.list t (iV q.2) q.2.length] 111)):= .aI hd;rw [aU,cQ (o:=0) (v:= .int .i64 q.1) aC rfl,cQ (le _ _ rb) rfl,aM5];exact bL le hk
theorem aRA (hx:Deep PP bI gM M (n+1) x){a:Nat}{t:Tag}{l:List (Int×List Int)} (ra:S a=some (.row [.list t (aD l) l.length] 34)) (hK:K (.bool (decide (8<=l.length))) S):x.call oG [.ptr a 0] S K:=by
 refine hx.call rfl fun y hy=>?_;rw [Mf];unfold UN;rw [cQ ra rfl,cD,zE];exact aL hK
theorem aRB (hM:1000000<M) (hx:Deep PP bI gM M (n+9) x){p a d:Nat}{t t2:Tag}{l:List (Int×List Int)} (hl:l.length<999999){x0 z:Int} (rH:∀a∈l,a.2=[x0]) (hx0:Sj x0) (hz:Sj z) (rp:S p=some (.row (pv two) 29)) (ra:S a=some (.row [.list t (aD l) l.length] 34)) (rd:S d=some (.row [.list t2 (iV [z]) 1] 39))
 (hK:K (.bool (l.any fun q=> !decide (q.2=[z]))) S):x.call oH [.ptr p 0,.ptr a 0,.ptr d 0] S K:=by
 refine hx.call rfl fun y hy=>?_;rw [Mg];unfold UO;have l1:∀{S':Hp} {K:KV},bO S S'->aT (.ptr p (0+1)) S' K=K (nu 11) S':=fun {S' K} h=>cQ (h _ _ rp) rfl;have l9:∀{S':Hp} {K:KV},bO S S'->aT (.ptr p (0+9)) S' K=K (ni 1) S':=fun {S' K} h=>cQ (h _ _ rp) rfl;have la:∀{K:KV},aT (.ptr a 0) S K=K (.list t (aD l) l.length) S:=cQ ra rfl;have ld:∀{K:KV},aT (.ptr d 0) S K=K (.list t2 (iV [z]) 1) S:=cQ rd rfl;have sm:∀{t:Tag} {cs:List Dt} {n:Nat} {p:Prop},aZ (.list t cs n) (.list t cs n) p=p:=fun {t cs n p}=>cR rfl;have smp:∀{p:Prop},aZ (.agg (pv two)) (.agg (pv two)) p=p:=fun {p}=>cR rfl;rw [lC rp,la,ld,bA,l1 (.refl _),bA,l9 (.refl _),l9 (.refl _),cS,l1 (.refl _),cS,ld,sm,la,sm,lC rp,smp];have hb:∀{K:KV},(∀j,S j=none->K (.own j 0 1 1) (aK S j (.row [.list t2 (iV [z]) 1] 39)))->aS 39 1 cU [(0,1,.list t2 (iV [z]) 1)] S K:=fun {K} hk=>yL rfl hk;refine⟨hb fun _ _=>trivial,hb fun j hj=>?_⟩;have le:bO S (aK S j (.row [.list t2 (iV [z]) 1] 39)):= .aI hj;refine aM4 (n:=n+3) (two:=two) hM hy (by omega) rH hx0 (.one aC) (fun q hq=>by rcases List.mem_cons.1 hq with rfl | hq;exact hz;cases hq) fun t3=>?_;rw [l9 le,cS,l1 le,cS];refine aPH hM hy (x0:=x0) (by rw [jU,OQ];show l.length+1<_;omega) (fun q hq=>?_) (aKZ (bR _)) hx0 ?_
 ·rcases List.mem_append.1 hq with hq | hq
  ·rw [(List.mem_replicate.1 hq).2];exact hx0
  ·rcases List.mem_cons.1 hq with rfl | hq
   ·exact hz
   ·cases hq
 ·rw [l9 le,cS,LR]
  refine bL le ?_
  have:decide (1<if List.replicate l.length x0++[z]=[]then 0 else if(List.replicate l.length x0++[z]).all (fun q=>decide (q=x0)) || (List.replicate l.length x0++[z]).length==1 then 1 else 2)=l.any fun q=> !decide (q.2=[z]):=by
   rw [aG (by simp)];cases l with
   | nil=>simp
   | cons b l=>
    have hb0:=rH b (.head _);by_cases c:x0=z
    ·subst c
     have e1:(List.replicate (b::l).length x0++[x0]).all (fun q=>decide (q=x0))=true:=by
      rw [KO];intro q hq;rcases List.mem_append.1 hq with hq | hq
      ·rw [(List.mem_replicate.1 hq).2];simp
      ·rcases List.mem_cons.1 hq with rfl | hq
       ·simp
       ·cases hq
     have e2:((b::l).any fun q=> !decide (q.2=[x0]))=false:=by
      rw [List.any_eq_false];intro q hq;rw [rH q hq];simp
     rw [e1,e2];rfl
    ·have e1:(List.replicate (b::l).length x0++[z]).all (fun q=>decide (q=x0))=false:=by
      rw [List.all_eq_false];exact⟨z,by simp,by simpa using fun h=>c h.symm⟩
     have e2:((b::l).any fun q=> !decide (q.2=[z]))=true:=by
      rw [List.any_eq_true];exact⟨b,.head _,by rw [hb0];simpa using c⟩
     have e3:((List.replicate (b::l).length x0++[z]).length==1)=false:=by simp
     rw [e1,e2,e3];rfl
  rw [this];exact hK
theorem aCE{y:VE}{SB S1:Hp}{cells:List V}{j i e m:Nat}{f:V}{p:Bool} (rj:SB j=some (.row cells 231)) (hl:cells.length=10) (hi:i<5) (hc:(cells.drop (i*2)).take 2=[f,ni e]) (hfo:fR f=true) (hf:∀S2 (K:KV),bO SB S2->K (.bool p) S2->lX y f [] S2 K)
 (hs:bO SB S1) (h0:bO S SB) (hT:p=true->K (ni e) S) (hF:p=false->∀S2,bO SB S2->lK y m (.own j 0 5 5) (ni 5) (ni (i+1)) S2 K):lK y (m+1) (.own j 0 5 5) (ni 5) (ni i) S1 K:=by
 rw [IB];unfold yB;refine tI SB hs ?_;rw [aN,wX hi,bQ];refine⟨hi,?_⟩;dsimp only;rw [tC rj,eG,dL (by omega),hc];refine cB (l:=[.Ix,ni 0]) rfl fun d hd=>?_;refine gV (n:=2) (i:=d) aC (by simp only [VM,List.all_nil,hfo];rfl) rfl rfl ?_;rw [dU];have le:bO SB (aK SB d (.row [f,ni e] 231)):= .aI hd;have rd:aK SB d (.row [f,ni e] 231) d=some (.row [f,ni e] 231):=aC;generalize aK SB d (.row [f,ni e] 231)=S2 at le rd;rw [aU,cQ (o:=0) rd rfl];refine hf S2 _ le ?_;cases p with
 | true=>
  rw [bQ,bA,cQ (o:=0+1) rd rfl];exact bL (h0.trans le) (hT rfl)
 | false=>
  rw [aW,bE (by omega)];exact hF rfl S2 le
theorem YI{f:FuncId}{cs:List V}{e:Nat}{k:V->Prop} (hk:k (.agg [.func f [] cs,ni e])):cV [.nilFunc,(.int .i64 (.ofNat 0))] [(0,1,(.func f [] cs)),(1,1,ni e)] k:=by
 refine⟨rfl,by simp,?_⟩;exact⟨rfl,by simp [aY],hk⟩
theorem aK0 (hM:1000000<M) (hx:Deep PP bI gM M (n+11) x){O O2z:Tag}{l:List (Int×List Int)} (hl:l.length<999999){x0 id:Int}{z:List Int} (Mp:z.length<1000000) (rH:∀a∈l,a.2=[x0]) (hx0:Sj x0)
 (hK:K (ni (zU l id z)) S):x.call HC [.agg (pv two),.list O (aD l) l.length,.int .i64 id,.list O2z (iV z) z.length] S K:=by
 refine hx.call rfl fun y hy=>?_;rw [Uo];unfold Bb;refine cA jV fun p hp=>?_;have dF:bO S (aK S p (.row (pv two) 29)):= .aI hp;have rp:aK S p (.row (pv two) 29) p=some (.row (pv two) 29):=aC;generalize aK S p (.row (pv two) 29)=S1 at dF rp;intro a ha;have fG:bO S1 (aK S1 a (.row [.list O (aD l) l.length] 34)):= .aI ha;have ra:aK S1 a (.row [.list O (aD l) l.length] 34) a=some (.row [.list O (aD l) l.length] 34):=aC;generalize aK S1 a (.row [.list O (aD l) l.length] 34)=S2 at fG ra;intro b hb;have pR:bO S2 (aK S2 b (.row [.int .i64 id] 3)):= .aI hb;have rb:aK S2 b (.row [.int .i64 id] 3) b=some (.row [.int .i64 id] 3):=aC;generalize aK S2 b (.row [.int .i64 id] 3)=S3 at pR rb;intro d hd;have IY:bO S3 (aK S3 d (.row [.list O2z (iV z) z.length] 39)):= .aI hd;have rd:aK S3 d (.row [.list O2z (iV z) z.length] 39) d=some (.row [.list O2z (iV z) z.length] 39):=aC;generalize aK S3 d (.row [.list O2z (iV z) z.length] 39)=S4 at IY rd;have rp4:=IY _ _ (pR _ _ (fG _ _ rp));dsimp only;rw [lC rp4,cQ rd rfl];refine aMW (n:=n+4) (two:=two) hM hy Mp ?_;refine cB (l:=[ni 0]) rfl fun e he=>?_;refine NT (i:=e) aC rfl (by decide) ?_;rw [dU];have DY:bO S4 (aK S4 e (.row [ni (qF z)] 46)):= .aI he;have re:aK S4 e (.row [ni (qF z)] 46) e=some (.row [ni (qF z)] 46):=aC;show cV [.nilFunc,(.int .i64 (.ofNat 0))] _ _;have hse:aY 0 [ni (qF z)] [ni 0]=[ni (qF z)]:=rfl;rw [hse];generalize aK S4 e (.row [ni (qF z)] 46)=S5 at DY re;refine YI ?_;rw [cQ re rfl];refine YI (YI (YI (YI ?_)))
 have hbs:∀{f1 f2 f3 f4 f5 e1 e2 e3 e4 e5:V} {K:KV},fR f1=true->fR e1=true->fR f2=true->fR e2=true->fR f3=true->fR e3=true->fR f4=true->fR e4=true->fR f5=true->fR e5=true->(∀j,S5 j=none->K (.own j 0 5 5) (aK S5 j (.row [f1,e1,f2,e2,f3,e3,f4,e4,f5,e5] 231)))->aS 231 5 [.nilFunc,(.int .i64 (.ofNat 0))] [(0,2,.agg [f1,e1]),(2,2,.agg [f2,e2]),(4,2,.agg [f3,e3]),(6,2,.agg [f4,e4]),(8,2,.agg [f5,e5])] S5 K:=by
  intro f1 f2 f3 f4 f5 e1 e2 e3 e4 e5 K h1 g1 h2 g2 h3 g3 h4 g4 h5 g5 hk;refine⟨by simp [h1,g1],rfl,by simp,⟨by simp [h2,g2],rfl,by simp [aY],⟨by simp [h3,g3],rfl,by simp [aY],⟨by simp [h4,g4],rfl,by simp [aY],⟨by simp [h5,g5],rfl,by simp [aY],?_⟩⟩⟩⟩⟩;exact fun j hj=>hk j hj
 refine hbs rfl rfl rfl rfl rfl rfl rfl rfl rfl rfl fun j hj=>?_;have NW:bO S5 (aK S5 j (.row [.func oD [] [.ptr e 0,.ptr b 0],ni 4,.func oE [] [.ptr e 0],ni (qF z),.func oF [] [.ptr a 0,.ptr b 0],ni 6,.func oG [] [.ptr a 0],ni 41,.func oH [] [.ptr p 0,.ptr a 0,.ptr d 0],ni 22] 231)):= .aI hj;have rj:aK S5 j (.row [.func oD [] [.ptr e 0,.ptr b 0],ni 4,.func oE [] [.ptr e 0],ni (qF z),.func oF [] [.ptr a 0,.ptr b 0],ni 6,.func oG [] [.ptr a 0],ni 41,.func oH [] [.ptr p 0,.ptr a 0,.ptr d 0],ni 22] 231) j=some (.row [.func oD [] [.ptr e 0,.ptr b 0],ni 4,.func oE [] [.ptr e 0],ni (qF z),.func oF [] [.ptr a 0,.ptr b 0],ni 6,.func oG [] [.ptr a 0],ni 41,.func oH [] [.ptr p 0,.ptr a 0,.ptr d 0],ni 22] 231):=aC;generalize aK S5 j (.row [.func oD [] [.ptr e 0,.ptr b 0],ni 4,.func oE [] [.ptr e 0],ni (qF z),.func oF [] [.ptr a 0,.ptr b 0],ni 6,.func oG [] [.ptr a 0],ni 41,.func oH [] [.ptr p 0,.ptr a 0,.ptr d 0],ni 22] 231)=S6 at NW rj;have re6:=NW _ _ re;have rd6:=NW _ _ (DY _ _ rd);have rb6:=NW _ _ (DY _ _ (IY _ _ rb));have ra6:=NW _ _ (DY _ _ (IY _ _ (pR _ _ ra)));have rp6:=NW _ _ (DY _ _ rp4);have EV:bO S S6:=((((dF.trans fG).trans pR).trans IY).trans DY).trans NW;show lK y y.most (.own j 0 5 5) (ni 5) (ni 0) S6 K;obtain⟨M',EU⟩:∃k,M=k+1+1+1+1+1+1:=⟨M-6,by omega⟩;rw [hy.most,EU];rw [EU]at hy hM;refine aCE (p:=decide (qF z=4) || (decide (id<1) || decide (1099511627776<id))) rj rfl (by decide) rfl rfl (fun S2 K h hk=>aRx (n:=n+9) hy (h _ _ re6) (h _ _ rb6) hk) (.refl _) EV (fun h=>?_) fun h1 S7 hs7=>?_
 ·have:zU l id z=4:=by unfold zU;rw [aJ (by simpa using h)]
  rw [this]at hK;exact hK
 have n1:¬(qF z=4\/id<1\/1099511627776<id):=by simpa using h1
 refine aCE (p:= !decide (qF z=0)) rj rfl (by decide) rfl rfl (fun S2 K h hk=>aRy (n:=n+9) hy (h _ _ re6) hk) hs7 EV (fun h=>?_) fun h2 S8 hs8=>?_
 ·have:zU l id z=qF z:=by unfold zU;rw [aG n1,aJ (by simpa using h)]
  rw [this]at hK;exact hK
 have n2:¬qF z≠0:=by simpa using h2
 refine aCE (p:=l.any fun q=>decide (q.1=id)) rj rfl (by decide) rfl rfl (fun S2 K h hk=>aRz (n:=n+6) hM hy (by omega) (h _ _ ra6) (h _ _ rb6) hk) hs8 EV (fun h=>?_) fun h3 S9 hs9=>?_
 ·have:zU l id z=6:=by unfold zU;rw [aG n1,aG n2,aJ h]
  rw [this]at hK;exact hK
 refine aCE (p:=decide (8<=l.length)) rj rfl (by decide) rfl rfl (fun S2 K h hk=>aRA (n:=n+9) hy (h _ _ ra6) hk) hs9 EV (fun h=>?_) fun h4 S10 aS7=>?_
 ·have:zU l id z=41:=by unfold zU;rw [aG n1,aG n2,aG (by rw [h3];decide),aJ (by simpa using h)]
  rw [this]at hK;exact hK
 obtain⟨q,rfl,hq⟩:∃q,z=[q]/\Sj q:=by
  have c2:qF z=0:=Classical.not_not.1 n2;unfold qF at c2;split at c2
  ·rename_i Hy
   split at c2
   ·cases c2
   ·rename_i hn
    match z,Hy with
    | [q],_=>exact⟨q,rfl,by unfold Sj;simp at hn;omega⟩
  ·cases c2
 refine aCE (p:=l.any fun u=> !decide (u.2=[q])) rj rfl (by decide) rfl rfl (fun S2 K h hk=>aRB (n:=n+1) (two:=two) hM hy hl rH hx0 hq (h _ _ rp6) (h _ _ ra6) (h _ _ rd6) hk) aS7 EV (fun h=>?_) fun h5 S11 aS8=>?_
 ·have:zU l id [q]=22:=by unfold zU;rw [aG n1,aG n2,aG (by rw [h3];decide),aG (by simpa using h4),aJ h]
  rw [this]at hK;exact hK
 rw [IB];unfold yB;refine aE ?_;rw [aN,iN (by decide),aW];have:zU l id [q]=0:=by unfold zU;rw [aG n1,aG n2,aG (by rw [h3];decide),aG (by simpa using h4),aG (by rw [h5];decide)]
 rw [this]at hK;exact bL (EV.trans aS8) hK
theorem aPI (hM:1000000<M) (hx:Deep PP bI gM M (n+12) x){O O2z:Tag}{l:List (Int×List Int)} (hl:l.length<999999){x0 id:Int}{z:List Int} (Mp:z.length<1000000) (rH:∀a∈l,a.2=[x0]) (hx0:Sj x0)
 (hK:zU l id z≠0->K (.tuple [.nil,ni (zU l id z)]) S) (hK0:zU l id z=0->∀O,K (.tuple [.list O (aD (l++[(id,z)])) (l++[(id,z)]).length,ni 0]) S):x.call YC [.agg (pv two),.list O (aD l) l.length,.int .i64 id,.list O2z (iV z) z.length] S K:=by
 refine hx.call rfl fun y hy=>?_;rw [aCv];unfold Kz;refine cA jV fun p hp=>?_;have dF:bO S (aK S p (.row (pv two) 29)):= .aI hp;have rp:aK S p (.row (pv two) 29) p=some (.row (pv two) 29):=aC;generalize aK S p (.row (pv two) 29)=S1 at dF rp;rw [lC rp];refine aK0 (two:=two) hM hy hl Mp rH hx0 ?_;rw [lV];by_cases c:zU l id z=0
 ·rw [bF c,dD,aW]
  have hK0:=hK0 c;refine aFP hM hy (by omega) (fun a ha=>by rw [rH a ha];exact(by decide:1<1000000)) fun w S2 fG hw=>?_;refine Sh hy Mp fun t2=>?_;rw [show(V.list t2 (iV z) z.length)=T t2 (.list (iV z) z.length)from rfl,Qo];have tso:Lp [.int .i64 id,T t2 (.list (iV z) z.length)] [.int .i64 id,.list (iV z) z.length]:= .cons t2 (.int .i64 id) (.cons t2 (.list (iV z) z.length) .nil);refine hw.app fG (by omega) (aKO l) (zv:=[ni 0,.nil]) rfl rfl tso rfl (by decide) fun u2 S3 hs3 _ _ hm3=>?_;have e2:aD l++[.int .i64 id,.list (iV z) z.length]=aD (l++[(id,z)]):=by rw [aKP];rfl
  rw [e2]at hm3;have fu:=(hm3.base dF).Cm;rw [show l.length+1=(l++[(id,z)]).length by simp]at fu;refine⟨S,fun O=> .tuple [.list (O 0) (aD (l++[(id,z)])) (l++[(id,z)]).length,ni 0],dF.trans hs3,fun O=> .tup ⟨rfl,fun j v u a b=>?_⟩,fun O=>hK0 _⟩
  match j with
  | 0=>injection a with a;injection b with b;subst a b;exact .Ao fu
  | 1=>injection a with a;injection b with b;subst a b;exact .lT _
  | j+2=>simp at a
 ·rw [bJ c,uN,bQ]
  exact bL dF (hK c)
end
end Go.Am
