/- Functions' codes, written out (by a program), each seen to be so by the kernel. -/
import Derived.Test.YtpcfidjmdfhigaaGreatDoorGe

noncomputable section
set_option linter.unusedVariables false
set_option maxRecDepth 100000
namespace Go.Am
def Zh (P:Program) (tb:FuncId->sN) (f:FuncId) (E:VE) (p:List Dir) (m:Nat) (ms:List Nat) (vs:List V) (S:Hp) (K:KV):Prop:=
 match P.funcs[f]? with
 | some fn=>match fn.body with
  | some c=>tL P (tb f) none E p EU c ms (aJo P fn K) fun D c K=>match D,c with
   | D+1,.loop a=>aEU (β:=List V->Nat->Hp->Prop) (fun _ _ _=>False) (fun _ ih vs n S=>cR S fun S=>RN (zW (tb f) a) vs n P.globals.size fun A=>(sQ P (tb f) none (YH P (tb f) none D) a).f E A S (Ys (tb f) a ih (aGo P (tb f) a K))) m vs fn.ntmps S
   | _,_=>False
  | none=>False
 | none=>False
def vE (x:VE) (m:Nat) (t2 t3 t4 t8 t10 t11 t38 t39 t40:V) (S:Hp) (K:KV):Prop:=dW PP bK rU x [.r,.r,.r,.l,.r,.d] m [] [t2,t3,t4,t8,t10,t11,t38,t39,t40] S K
def gG (x:VE) (m:Nat) (t2 t4 t8 t10 t11 t14 t15:V) (S:Hp) (K:KV):Prop:=dW PP bK rU x [.r,.r,.r,.r,.r,.l,.r,.d] m [] [t2,t4,t8,t10,t11,t14,t15] S K
def cL (x:VE) (m:Nat) (m0:Nat) (t2 t4 t8 t10 t11 t14 t15 t16 t17 t75 t76:V) (S:Hp) (K:KV):Prop:=dW PP bK rU x [.r,.r,.r,.r,.r,.l,.r,.d,.d,.r,.l,.d,.r,.l,.r,.d] m [m0] [t2,t4,t8,t10,t11,t14,t15,t16,t17,t75,t76] S K
def Ji (x:VE) (a0 a1 a2 a3:V) (S:Hp) (K:KV):Prop:=
 iG 29 a0 S fun v0 S=>
 dQ [(.slice none 0 0),(.slice none 0 0),(.slice none 0 0)] 79 S fun v1 S=>
 bR 12 v0 S fun v2 S=>
 x.call uI [v2] S fun v3 S=>
 SP .not v3 fun v4=>
 aI x.most (aH false v4 (fun k=>k a1 S) S fun v5 S=>aI x.most (aH false v4 (fun k=>bP v5 fun v6=>k v6 S) S fun v7 S=>aI x.most (aH false v4 (fun k=>bR 12 v0 S fun v8 S=>k v8 S) S fun v9 S=>aI x.most (aH false v4 (fun k=>x.call yD [v9] S fun v10 S=>k v10 S) S fun v11 S=>aI x.most (aH false v4 (fun k=>aJ PP .neq 3 v7 v11 fun v12=>k v12 S) S fun qE S=>aI x.most (fK v4 (.bool true) qE fun qU=>aI x.most (aH false qU (fun k=>k a2 S) S fun wI S=>aI x.most (aH false qU (fun k=>aJ PP .lss 3 wI (.int .i64 (.ofNat 1)) fun wJ=>k wJ S) S fun wH S=>aI x.most (fK qU (.bool true) wH fun vC=>aI x.most (aH false vC (fun k=>k a2 S) S fun yI S=>aI x.most (aH false vC (fun k=>aJ PP .gtr 3 yI (.int .i64 (.ofNat 7)) fun v20=>k v20 S) S fun v21 S=>aI x.most (fK vC (.bool true) v21 fun JC=>iR JC (cS [(.slice none 0 0),(.slice none 0 0),(.slice none 0 0)] [] fun GC=>nI 3 v1 GC S fun S=>bR 3 v1 S fun v24 _=>bF (.tuple [v24,(.int .i64 (.ofNat 1))]) S K) (bP a1 fun OD=>vE x x.most a2 a3 v0 v1 .nil .nil a1 OD (.int .i64 (.ofNat 0)) S K)))))))))))))
theorem aBS (x:VE) (a0 a1 a2 a3:V) (S:Hp) (K:KV):jX PP bK rU x [a0,a1,a2,a3] S K=Ji x a0 a1 a2 a3 S K:=by kernel_rfl
def AG (x:VE) (m0:Nat) (t2 t3 t4 t8 t10 t11 t38 t39 t40:V) (S:Hp) (K:KV):Prop:=
 cR S fun S=>
 aJ PP .lss 3 t40 t39 fun v0=>
 iR v0 (cV 2 t38 t40 fun v1=>bR 2 v1 S fun v2 S=>dQ [(.int .u64 (.ofNat 0)),(.int .u64 (.ofNat 0))] 145 S fun v3 S=>nI 2 v3 v2 S fun S=>bR 12 t4 S fun v4 S=>aV 0 v3 fun v5=>aW v5 S fun v6 S=>x.call FX [v4,v6,(.func dF [t3] [])] S fun v7 S=>aS 33 1 [(.slice none 0 0)] [(0,1,v7)] S fun v8 S=>jW 33 1 24 t10 v8 S fun v9 S=>bR 12 t4 S fun v10 S=>aV 1 v3 fun v11=>aW v11 S fun v12 S=>x.call FX [v10,v12,(.func dF [t3] [])] S fun qE S=>aS 33 1 [(.slice none 0 0)] [(0,1,qE)] S fun qU S=>jW 33 1 24 t11 qU S fun wI S=>aJ PP .add 3 t40 (.int .i64 (.ofNat 1)) fun wJ=>vE x m0 t2 t3 t4 t8 v9 wI t38 t39 wJ S K) (bR 12 t4 S fun wH S=>x.call bN [wH,t10,t11] S fun vC S=>cS [(.slice none 0 0),(.slice none 0 0),(.slice none 0 0)] [(0,1,vC)] fun yI=>dQ [(.slice none 0 0),(.slice none 0 0),(.slice none 0 0)] 79 S fun v20 S=>nI 3 v20 yI S fun S=>gG x x.most t2 t4 t8 t10 t11 v20 (.int .u64 (.ofNat 1)) S K)
theorem IZ (x:VE) (m0:Nat) (t2 t3 t4 t8 t10 t11 t38 t39 t40:V) (S:Hp) (K:KV):vE x (m0+1) t2 t3 t4 t8 t10 t11 t38 t39 t40 S K=AG x m0 t2 t3 t4 t8 t10 t11 t38 t39 t40 S K:=by kernel_rfl
def wT (x:VE) (m:Nat) (t2 t4 t8 t10 t11 t14 t15:V) (S:Hp) (K:KV):Prop:=Zh PP bK rU x [.r,.r,.r,.r,.r,.l,.r,.d] m [] [t2,t4,t8,t10,t11,t14,t15] S K
theorem RV (x:VE) (m:Nat) (t2 t4 t8 t10 t11 t14 t15:V) (S:Hp) (K:KV):gG x m t2 t4 t8 t10 t11 t14 t15 S K=wT x m t2 t4 t8 t10 t11 t14 t15 S K:=by kernel_rfl
def gH (x:VE) (m:Nat) (m0:Nat) (t2 t4 t8 t10 t11 t14 t15 t16 t17 t75 t76:V) (S:Hp) (K:KV):Prop:=Zh PP bK rU x [.r,.r,.r,.r,.r,.l,.r,.d,.d,.r,.l,.d,.r,.l,.r,.d] m [m0] [t2,t4,t8,t10,t11,t14,t15,t16,t17,t75,t76] S K
theorem tW (x:VE) (m:Nat) (m0:Nat) (t2 t4 t8 t10 t11 t14 t15 t16 t17 t75 t76:V) (S:Hp) (K:KV):cL x m m0 t2 t4 t8 t10 t11 t14 t15 t16 t17 t75 t76 S K=gH x m m0 t2 t4 t8 t10 t11 t14 t15 t16 t17 t75 t76 S K:=by kernel_rfl
def wO (x:VE) (m0:Nat) (t2 t4 t8 t10 t11 t14 t15:V) (S:Hp) (K:KV):Prop:=
 cR S fun S=>
 LE .u64 t2 fun v0=>
 aJ PP .leq 22 t15 v0 fun v1=>
 iR v1 (bP t10 fun v2=>cL x x.most m0 t2 t4 t8 t10 t11 t14 t15 .nil .nil v2 (.int .i64 (.ofNat 0)) S K) (bR 3 t14 S fun v3 S=>nI 3 t8 v3 S fun S=>bR 3 t8 S fun v4 _=>bF (.tuple [v4,(.int .i64 (.ofNat 0))]) S K)
def RW (lp:VE->Nat->Nat->V->V->V->V->V->V->V->V->V->V->V->Hp->KV->Prop) (x:VE) (m0:Nat) (t2 t4 t8 t10 t11 t14 t15:V) (S:Hp) (K:KV):Prop:=
 cR S fun S=>
 LE .u64 t2 fun v0=>
 aJ PP .leq 22 t15 v0 fun v1=>
 iR v1 (bP t10 fun v2=>lp x x.most m0 t2 t4 t8 t10 t11 t14 t15 .nil .nil v2 (.int .i64 (.ofNat 0)) S K) (bR 3 t14 S fun v3 S=>nI 3 t8 v3 S fun S=>bR 3 t8 S fun v4 _=>bF (.tuple [v4,(.int .i64 (.ofNat 0))]) S K)
theorem EY (x:VE) (m0:Nat) (t2 t4 t8 t10 t11 t14 t15:V) (S:Hp) (K:KV):gG x (m0+1) t2 t4 t8 t10 t11 t14 t15 S K=wO x m0 t2 t4 t8 t10 t11 t14 t15 S K:=by
 have h1:gG x (m0+1) t2 t4 t8 t10 t11 t14 t15 S K=RW gH x m0 t2 t4 t8 t10 t11 t14 t15 S K:=by kernel_rfl
 have h2:cL=gH:=by funext x m m0 t2 t4 t8 t10 t11 t14 t15 t16 t17 t75 t76 S K;exact tW ..
 rw [h1,<-h2];rfl
def nU (x:VE) (m1:Nat) (m0:Nat) (t2 t4 t8 t10 t11 t14 t15 t16 t17 t75 t76:V) (S:Hp) (K:KV):Prop:=
 cR S fun S=>
 aJ PP .lss 3 t76 t75 fun v0=>
 iR v0 (cV 1 t10 t76 fun v1=>aW v1 S fun v2 S=>aV 1 t4 fun v3=>aW v3 S fun v4 S=>cV 1 t11 t76 fun v5=>aW v5 S fun v6 S=>aV 1 t4 fun v7=>aW v7 S fun v8 S=>x.call cI [v2,t15,v4] S fun v9 S=>aW v7 S fun v10 _=>aU v10 v8 (aW v5 S fun v11 _=>aU v11 v6 (x.call cI [v6,t15,v8] S fun v12 S=>x.call pA [v9,v12] S fun qE S=>(aS 82 1 [(.slice none 0 0)] [(0,1,qE)] S fun qU S=>True)/\(aS 82 1 [(.slice none 0 0)] [(0,1,qE)] S fun wI S=>jW 82 1 24 t16 wI S fun wJ S=>cV 1 t10 t76 fun wH=>aW wH S fun vC S=>aV 1 t4 fun yI=>aW yI S fun v20 S=>cV 1 t11 t76 fun v21=>aW v21 S fun JC S=>aV 1 t4 fun GC=>aW GC S fun v24 S=>x.call lU [vC,t15,v20] S fun OD S=>aW GC S fun SZ _=>aU SZ v24 (aW v21 S fun ZE _=>aU ZE JC (x.call lU [JC,t15,v24] S fun v28 S=>x.call pA [OD,v28] S fun v29 S=>(aS 82 1 [(.slice none 0 0)] [(0,1,v29)] S fun v30 S=>True)/\(aS 82 1 [(.slice none 0 0)] [(0,1,v29)] S fun v31 S=>jW 82 1 24 t17 v31 S fun Sr S=>aJ PP .add 3 t76 (.int .i64 (.ofNat 1)) fun Lr=>cL x m1 m0 t2 t4 t8 t10 t11 t14 t15 wJ Sr t75 Lr S K))))))) (aV 1 t14 fun Fd=>aW Fd S fun Qk S=>aV 2 t14 fun Cb=>aW Cb S fun v37 S=>aW Cb S fun Bt _=>aU Bt v37 (aW Fd S fun Jj _=>aU Jj Qk ((aS 31 1 [(.slice none 0 0)] [(0,1,t16)] S fun v40 S=>True)/\((aS 31 1 [(.slice none 0 0)] [(0,1,t17)] S fun XY S=>True)/\(aS 31 1 [(.slice none 0 0)] [(0,1,t16)] S fun Rb S=>jW 31 1 24 Qk Rb S fun Uz S=>aW Cb S fun v44 _=>aU v44 v37 (aV 1 t14 fun v49=>aW Cb S fun Ql _=>aU Ql v37 ((aS 31 1 [(.slice none 0 0)] [(0,1,t17)] S fun v46 S=>True)/\(aS 31 1 [(.slice none 0 0)] [(0,1,t17)] S fun v47 S=>jW 31 1 24 v37 v47 S fun v48 S=>nI 1 v49 Uz S fun S=>aV 2 t14 fun v50=>nI 1 v50 v48 S fun S=>aJ PP .add 22 t15 (.int .u64 (.ofNat 1)) fun v51=>gG x m0 t2 t4 t8 t10 t11 t14 v51 S K))))))))
def GE (lo:VE->Nat->V->V->V->V->V->V->V->Hp->KV->Prop) (li:VE->Nat->Nat->V->V->V->V->V->V->V->V->V->V->V->Hp->KV->Prop) (x:VE) (m1:Nat) (m0:Nat) (t2 t4 t8 t10 t11 t14 t15 t16 t17 t75 t76:V) (S:Hp) (K:KV):Prop:=
 cR S fun S=>
 aJ PP .lss 3 t76 t75 fun v0=>
 iR v0 (cV 1 t10 t76 fun v1=>aW v1 S fun v2 S=>aV 1 t4 fun v3=>aW v3 S fun v4 S=>cV 1 t11 t76 fun v5=>aW v5 S fun v6 S=>aV 1 t4 fun v7=>aW v7 S fun v8 S=>x.call cI [v2,t15,v4] S fun v9 S=>aW v7 S fun v10 _=>aU v10 v8 (aW v5 S fun v11 _=>aU v11 v6 (x.call cI [v6,t15,v8] S fun v12 S=>x.call pA [v9,v12] S fun qE S=>(aS 82 1 [(.slice none 0 0)] [(0,1,qE)] S fun qU S=>True)/\(aS 82 1 [(.slice none 0 0)] [(0,1,qE)] S fun wI S=>jW 82 1 24 t16 wI S fun wJ S=>cV 1 t10 t76 fun wH=>aW wH S fun vC S=>aV 1 t4 fun yI=>aW yI S fun v20 S=>cV 1 t11 t76 fun v21=>aW v21 S fun JC S=>aV 1 t4 fun GC=>aW GC S fun v24 S=>x.call lU [vC,t15,v20] S fun OD S=>aW GC S fun SZ _=>aU SZ v24 (aW v21 S fun ZE _=>aU ZE JC (x.call lU [JC,t15,v24] S fun v28 S=>x.call pA [OD,v28] S fun v29 S=>(aS 82 1 [(.slice none 0 0)] [(0,1,v29)] S fun v30 S=>True)/\(aS 82 1 [(.slice none 0 0)] [(0,1,v29)] S fun v31 S=>jW 82 1 24 t17 v31 S fun Sr S=>aJ PP .add 3 t76 (.int .i64 (.ofNat 1)) fun Lr=>li x m1 m0 t2 t4 t8 t10 t11 t14 t15 wJ Sr t75 Lr S K))))))) (aV 1 t14 fun Fd=>aW Fd S fun Qk S=>aV 2 t14 fun Cb=>aW Cb S fun v37 S=>aW Cb S fun Bt _=>aU Bt v37 (aW Fd S fun Jj _=>aU Jj Qk ((aS 31 1 [(.slice none 0 0)] [(0,1,t16)] S fun v40 S=>True)/\((aS 31 1 [(.slice none 0 0)] [(0,1,t17)] S fun XY S=>True)/\(aS 31 1 [(.slice none 0 0)] [(0,1,t16)] S fun Rb S=>jW 31 1 24 Qk Rb S fun Uz S=>aW Cb S fun v44 _=>aU v44 v37 (aV 1 t14 fun v49=>aW Cb S fun Ql _=>aU Ql v37 ((aS 31 1 [(.slice none 0 0)] [(0,1,t17)] S fun v46 S=>True)/\(aS 31 1 [(.slice none 0 0)] [(0,1,t17)] S fun v47 S=>jW 31 1 24 v37 v47 S fun v48 S=>nI 1 v49 Uz S fun S=>aV 2 t14 fun v50=>nI 1 v50 v48 S fun S=>aJ PP .add 22 t15 (.int .u64 (.ofNat 1)) fun v51=>lo x m0 t2 t4 t8 t10 t11 t14 v51 S K))))))))
theorem uL (x:VE) (m1:Nat) (m0:Nat) (t2 t4 t8 t10 t11 t14 t15 t16 t17 t75 t76:V) (S:Hp) (K:KV):cL x (m1+1) m0 t2 t4 t8 t10 t11 t14 t15 t16 t17 t75 t76 S K=nU x m1 m0 t2 t4 t8 t10 t11 t14 t15 t16 t17 t75 t76 S K:=by
 have h1:cL x (m1+1) m0 t2 t4 t8 t10 t11 t14 t15 t16 t17 t75 t76 S K=GE wT gH x m1 m0 t2 t4 t8 t10 t11 t14 t15 t16 t17 t75 t76 S K:=by kernel_rfl
 have h2:cL=gH:=by funext x m m0 t2 t4 t8 t10 t11 t14 t15 t16 t17 t75 t76 S K;exact tW ..
 have h3:gG=wT:=by funext x m t2 t4 t8 t10 t11 t14 t15 S K;exact RV ..
 rw [h1,<-h2,<-h3];rfl
end Go.Am
set_option maxRecDepth 4000
namespace Go.Am
open Go.Proofs.OG
def fM (n Q:Nat):List (Nat×Nat)->List Nat->List (List (List Nat))
 | [],_=>[]
 | p::l,D=>AQ n (p.1%11::D.take Q)::fM n Q l (D.drop (Q+Q))
def bM (n Q:Nat):List (Nat×Nat)->List Nat->List (List (List Nat))
 | [],_=>[]
 | p::l,D=>AQ n (p.2%11::(D.drop Q).take Q)::bM n Q l (D.drop (Q+Q))
theorem aEM{n Q:Nat}{p:Nat×Nat}{l:List (Nat×Nat)}{D:List Nat}:fM n Q (p::l) D=AQ n (p.1%11::D.take Q)::fM n Q l (D.drop (Q+Q)):=rfl
theorem aEN{n Q:Nat}{p:Nat×Nat}{l:List (Nat×Nat)}{D:List Nat}:bM n Q (p::l) D=AQ n (p.2%11::(D.drop Q).take Q)::bM n Q l (D.drop (Q+Q)):=rfl
theorem aIU (n Q:Nat):∀(l:List (Nat×Nat)) (D:List Nat),(fM n Q l D).length=l.length:=by
 intro l;induction l with
 | nil=>intro D;rfl
 | cons p l ih=>intro D;show(fM n Q l _).length+1=_;rw [ih];rfl
theorem aIV (n Q:Nat):∀(l:List (Nat×Nat)) (D:List Nat),(bM n Q l D).length=l.length:=by
 intro l;induction l with
 | nil=>intro D;rfl
 | cons p l ih=>intro D;show(bM n Q l _).length+1=_;rw [ih];rfl
section
variable{M n:Nat}{x:VE}{S S0:Hp}{K:KV}{two:Bool}{t d:Nat}{s:BitVec 64}{ah:List Nat}
theorem aOY:gM rU=none:=rfl
end
set_option maxRecDepth 4000
theorem yW{w:V}{el:TypeId}{S:Hp}{K:KV} (h1:gB w=true) (hk:∀j,S j=none->K (.own j 0 1 1) (aL S j (.row [w] el))):aS el 1 [(.slice none 0 0)] [(0,1,w)] S K:=by
 have hc:∀{p:List V->Prop},wM w p=p [w]:=fun {p}=>by cases w<;>first | rfl | cases h1
 have hz:LB [(.slice none 0 0)]=some [.nil]:=rfl;unfold aS rR;rw [hz];show iF [(0,1,w)] [.nil] _;unfold iF;rw [hc];refine⟨rfl,by simp,?_⟩;unfold iF;exact hk
inductive GG (S0 S:Hp):V->List (List Dt)->Prop
 | nil:GG S0 S .nil []
 | acc {i:Nat} {vs:List V} {YE:List (List Dt)} (h0:S0 i=none) (h:S i=some (.gD vs 31 YE.length)) (hl:vs.length=YE.length) (hv:∀(j:Nat) (ds:List Dt),YE[j]? =some ds->∃w,vs[j]? =some w/\GL 82 S0 S w ds):GG S0 S (.acc i YE.length) YE
section
variable{S0 S S':Hp}{v:V}{YE:List (List Dt)}
theorem GG.one (h:GG S0 S v YE):gB v=true:=by cases h<;>rfl
theorem GG.same (h:GG S0 S v YE):DU v=true:=by cases h<;>rfl
theorem GG.up (h:GG S0 S v YE) (hle:bU S S'):GG S0 S' v YE:=by
 cases h with
 | nil=>exact .nil
 | acc h0 h hl hv=>exact .acc h0 (hle _ _ h) hl fun j ds e=>by obtain⟨w,a,b⟩:=hv j ds e;exact⟨w,a,b.up hle⟩
theorem GG.there (h:GG S0 S v YE){j m:Nat} (e:v= .acc j m):∃vs n,S j=some (.gD vs 31 n):=by
 cases h with
 | nil=>cases e
 | acc h0 h hl hv=>injection e with e1 e2;subst e1;exact⟨_,_,h⟩
theorem GG.mF{w:V}{es:List (List Dt)} (h:GG S0 S w es) (hp:∀j o,S j=some o->(∀m,v≠ .acc j m)->S' j=some o) (hv0:∀j m,v= .acc j m->∃vs n,S j=some (.gD vs 31 n)) (ha:∀j m m',w= .acc j m->v≠ .acc j m'):GG S0 S' w es:=by
 cases h with
 | nil=>exact .nil
 | acc h0 h hl hv=>
  refine .acc h0 (hp _ _ h fun m=>ha _ _ m rfl) hl fun j ds e=>?_;obtain⟨u,a,b⟩:=hv j ds e;refine⟨u,a,b.but fun j vs m e=>hp _ _ e fun m' c=>?_⟩;obtain⟨vs',n',e'⟩:=hv0 _ _ c;rw [e]at e';injection e' with e';cases e'
theorem GG.set (h:GG S0 S v YE){i:Nat}{o p:Ob} (hi:S i=some p) (h1:∀vs e m,p≠ .gD vs e m):GG S0 (aL S i o) v YE:=by
 cases h with
 | nil=>exact .nil
 | acc h0 h hl hv=>exact .acc h0 (by rw [aC (fun c=>by rw [c,hi]at h;injection h with h;exact h1 _ _ _ h)];exact h) hl fun j ds e=>by obtain⟨w,a,b⟩:=hv j ds e;exact⟨w,a,b.set hi fun vs m=>h1 vs 82 m⟩
theorem GG.app (h:GG S0 S v YE) (hs:bU S0 S) (hl:YE.length<=1000000){w:V}{ds:List Dt} (hw:GL 82 S0 S w ds){K:KV}
 (hk:∀u S',bU S0 S'->(∀j o,S j=some o->(∀m,v≠ .acc j m)->S' j=some o)->(∀j m,u= .acc j m->(∃m',v= .acc j m')\/S j=none)->GG S0 S' u (YE++[ds])->K u S'):aS 31 1 [(.slice none 0 0)] [(0,1,w)] S fun v2 S=>jW 31 1 24 v v2 S K:=by
 refine yW hw.one fun j hj=>?_;have xK:bU S (aL S j (.row [w] 31)):= .aK hj;refine LA (m:=1) aB rfl ?_;refine⟨by simp [hw.one],?_⟩;cases h with
 | nil=>
  refine⟨by decide,fun i hi=>?_⟩;have uA:bU (aL S j (.row [w] 31)) (aL (aL S j (.row [w] 31)) i (.gD [w] 31 1)):= .aK hi;refine hk _ _ ((hs.trans xK).trans uA) (fun q o e _=>uA _ _ (xK _ _ e)) (fun q m e=> .inr (by injection e with e;subst e;exact xK.none hi)) (.acc (YE:=[ds]) ((hs.trans xK).none hi) aB rfl fun q l' e=>?_)
  match q,e with
  | 0,e=>injection e with e;subst e;exact⟨w,rfl,hw.up (xK.trans uA)⟩
  | q+1,e=>cases e
 | @acc i vs _ h0 h FN hv=>
  have oM:j≠i:=fun e=>by rw [e,h]at hj;cases hj
  have h':aL S j (.row [w] 31) i=some (.gD vs 31 YE.length):=by rw [aC (aP oM)];exact h
  simp only [h'];refine⟨trivial,trivial,by omega,by omega,?_⟩;have el':YE.length+(0+1)=(YE++[ds]).length:=by simp
  rw [el'];have uA:∀q o,q≠i->S q=some o->aL (aL S j (.row [w] 31)) i (.gD (vs++[w]) 31 (YE++[ds]).length) q=some o:=fun q o hq e=>by rw [aC hq];exact xK _ _ e
  have kp:∀{u:V} {es:List Dt},GL 82 S0 S u es->GL 82 S0 (aL (aL S j (.row [w] 31)) i (.gD (vs++[w]) 31 (YE++[ds]).length)) u es:=fun {u es} g=>g.but fun q ws m e=>uA _ _ (fun c=>by rw [c,h]at e;injection e with e;cases e) e;refine hk _ _ (fun q o e=>uA q o (fun c=>by rw [c,h0]at e;cases e) (hs _ _ e)) (fun q o e xL=>uA q o (fun c=>xL YE.length (by rw [c])) e) (fun q m e=> .inl (by injection e with e;subst e;exact⟨_,rfl⟩)) (.acc h0 aB (by simp [FN]) fun q l' e=>?_);rcases BI q YE.length with hq | hq
  ·rw [gO hq]at e
   obtain⟨u,a,b⟩:=hv q l' e;exact⟨u,by rw [gO (by omega)];exact a,kp b⟩
  ·have hq':q=YE.length:=by
    have:=(List.getElem?_eq_some_iff.1 e).1;simp at this;omega
   subst hq';simp at e;subst e;exact⟨w,by rw [kH (by omega),FN];simp,kp hw⟩
end
def Yb (k:Nat) (m:List (List Nat)):Prop:=m.length=k/\∀q∈m,q.length=k/\∀c∈q,c<11
theorem Yb.wide{k:Nat}{m:List (List Nat)} (h:Yb k m) (hk:0<k):Oq m=k:=aLR m 0 (fun q hq=>(h.2 q hq).1) (zT _) (by rw [h.1];exact hk)
theorem Yb.l64{k:Nat}{m:List (List Nat)} (h:Yb k m):∀q∈m,LC q:=fun q hq c hc=>Nat.lt_trans ((h.2 q hq).2 c hc) (by decide)
def aOZ (k X:Nat) (f b:List (List Nat)):Dt:= .list (pds (List.zip (Sg f X) (Sg b X))) k
def aO0 (k X:Nat) (f b:List (List Nat)):Dt:= .list (pds (List.zip (Hi f X) (Hi b X))) k
def WI (k X:Nat) (fs bs:List (List (List Nat))):List Dt:=List.zipWith (aOZ k X) fs bs
def WJ (k X:Nat) (fs bs:List (List (List Nat))):List Dt:=List.zipWith (aO0 k X) fs bs
theorem aBk{α β γ:Type}{f:α->β->γ}{a:List α}{b:List β}{i:Nat} (h1:i<a.length) (h2:i<b.length):(List.zipWith f a b).take (i+1)=(List.zipWith f a b).take i++[f a[i] b[i]]:=by
 have hl:i<(List.zipWith f a b).length:=by rw [uO];omega
 rw [KA,aT hl,Lv];rfl
theorem aRp{a b:Nat}{t:TypeId}{k:V->Prop} (h:a+b<18446744073709551616):aJ PP .add t (nu a) (nu b) k=k (nu (a+b)):=by
 rw [JW];have:(Int.ofNat a+Int.ofNat b)=Int.ofNat (a+b):=by simp
 rw [this,wrap64,UE h]
section
variable{M n:Nat}{x:VE}{S S0:Hp}{K:KV}{two:Bool}
theorem aBl (hx:Deep PP bK gM M (n+1) x) (hM:1000000<M){O1 O2z:Tag}{a b:List Nat}{k:Nat} (ha:a.length=k) (hb:b.length=k) (hl:k<1000) (hK:∀t,K (.list t (pds (List.zip a b)) k) S):x.call pA [.list O1 (kK a) k,.list O2z (kK b) k] S K:=by
 subst ha;exact aIT hx hM hb hl hK
theorem aIW (hM:1000000<M) (hx:Deep PP bK gM M (n+9) x){bp X k N:Nat}{SF SS:Hp}{v w vD t8:V}{fs bs:List (List (List Nat))} (hX:EQ X) (hk:0<k) (vO:k<1000) (hlen:bs.length=fs.length) (QL:fs.length<1000) (hf:∀m∈fs,Yb k m) (hb:∀m∈bs,Yb k m) (gv:GL 33 SF SS v (mD fs)) (gw:GL 33 SF SS w (mD bs)) (rp:SS bp=some (.row (pv two) 29)){m0:Nat}:
 ∀(r i m:Nat) (S:Hp) (u1 u2:V),i+r=fs.length->r<m->bU SS S->GL 82 SS S u1 ((WI k X fs bs).take i)->GL 82 SS S u2 ((WJ k X fs bs).take i)->(∀j m m',u1= .acc j m->u2≠ .acc j m')->
  (∀m S u1 u2,bU SS S->GL 82 SS S u1 (WI k X fs bs)->GL 82 SS S u2 (WJ k X fs bs)->(∀j m m',u1= .acc j m->u2≠ .acc j m')->cL x (m+1) m0 (ni N) (.ptr bp 0) t8 v w vD (nu X) u1 u2 (ni fs.length) (ni fs.length) S K)->
  cL x m m0 (ni N) (.ptr bp 0) t8 v w vD (nu X) u1 u2 (ni fs.length) (ni i) S K:=by
 have e1:(pv two)[1]? =some (nu 11):=rfl;intro r;induction r with
 | zero=>
  intro i m S u1 u2 hi hm le g1 g2 ap Rp;obtain⟨m,rfl⟩:=bH (show m≠0 by omega);have hrl:(WI k X fs bs).length=fs.length:=by unfold WI;rw [uO];omega
  have Bx:(WJ k X fs bs).length=fs.length:=by unfold WJ;rw [uO];omega
  rw [mC (by omega)]at g1 g2;have ei:i=fs.length:=by omega
  subst ei;exact Rp m S u1 u2 le g1 g2 ap
 | succ r ih=>
  intro i m S u1 u2 hi hm le g1 g2 ap Rp;obtain⟨m,rfl⟩:=bH (show m≠0 by omega);rw [uL];unfold nU;refine aF ?_;have IQ:i<fs.length:=by omega
  have hi2:i<bs.length:=by omega
  have sf:=hf _ (cO IQ);have sb:=hb _ (cO hi2);obtain⟨p1,t1,ix1,lx1⟩:=(gv.up le).at (aBg (aT IQ));obtain⟨p2,t2,ix2,lx2⟩:=(gw.up le).at (aBg (aT hi2));have rp':=le _ _ rp;have rl:∀{m:List (List Nat)},Yb k m->(Sg m X).length=k:=fun {m} h=>by unfold Sg;rw [mE,List.length_range,h.wide hk]
  have cl:∀{m:List (List Nat)},Yb k m->(Hi m X).length=k:=fun {m} h=>by unfold Hi;rw [mE,h.1]
  have br:∀{m:List (List Nat)} {O:Tag} {K:KV},Yb k m->(∀t,K (.list t (kK (Sg m X)) k) S)->x.call cI [.list O (eL m) m.length,nu X,nu 11] S K:=fun {m O K} h hK=>
   aOX (n:=n+1) hM hx hX h.l64 (by rw [h.1];omega) (h.wide hk) hk vO (fun i hi=>by rw [(h.2 _ (cO hi)).1];exact bQ _) hK
  have bc:∀{m:List (List Nat)} {O:Tag} {K:KV},Yb k m->(∀t,K (.list t (kK (Hi m X)) k) S)->∀{S2:Hp},S2=S->x.call lU [.list O (eL m) m.length,nu X,nu 11] S2 K:=fun {m O K} h hK {S2} e=>by
   subst e;exact aIS (n:=n+5) hM hx hX h.l64 (by rw [h.1];omega) (fun q hq=>by rw [(h.2 q hq).1];omega) (by rw [h.1];exact hK)
  have ls:∀{t:Tag} {c:List Dt} {n:Nat} {q:Prop},aU (.list t c n) (.list t c n) q=q:=fun {t c n q}=>cN rfl;rw [aQ,zJ IQ,bW,ix1,lx1 _ (.refl _),aY,cT rp' e1,ix2,lx2 _ (.refl _),aY,cT rp' e1];show x.call cI [.list t1 (eL fs[i]) fs[i].length,nu X,nu 11] S _;refine br sf fun t3=>?_;rw [cT rp' e1,cE,lx2 _ (.refl _)];show aU (.list t2 (eL bs[i]) bs[i].length) (.list t2 (eL bs[i]) bs[i].length) _;rw [ls];show x.call cI [.list t2 (eL bs[i]) bs[i].length,nu X,nu 11] S _;refine br sb fun t4=>?_;refine aBl (n:=n+8) hx hM (rl sf) (rl sb) vO fun t5=>?_;refine⟨yW rfl fun _ _=>trivial,?_⟩;have hr1:(WI k X fs bs).length=fs.length:=by unfold WI;rw [uO];omega
  have hc1:(WJ k X fs bs).length=fs.length:=by unfold WJ;rw [uO];omega
  refine g1.app (t:=t5) (d:=aOZ k X fs[i] bs[i]) (z:= .slice none 0 0) (zv:= .nil) le (by rw [mU];omega) rfl (by decide) fun u3 S3 pR p3 o3 g3=>?_;have er:(WI k X fs bs).take i++[aOZ k X fs[i] bs[i]]=(WI k X fs bs).take (i+1):=(aBk IQ hi2).symm;have ec:(WJ k X fs bs).take i++[aO0 k X fs[i] bs[i]]=(WJ k X fs bs).take (i+1):=(aBk IQ hi2).symm;rw [er]at g3;have g2':=g2.mF p3 fun j m m' e c=>ap j m' m c e
  have ap3:∀j m m',u3= .acc j m->u2≠ .acc j m':=fun j m m' e c=>by
   rcases o3 j m e with ⟨m2,e2⟩ | e2
   ·exact ap j m2 m' e2 c
   ·obtain⟨vs,n,e4⟩:=g2.there c
    rw [e2]at e4;cases e4
  clear br bc;obtain⟨p1,t1,ix1,lx1⟩:=(gv.up pR).at (aBg (aT IQ));obtain⟨p2,t2,ix2,lx2⟩:=(gw.up pR).at (aBg (aT hi2));have Ju:=pR _ _ rp
  have bc:∀{m:List (List Nat)} {O:Tag} {K:KV},Yb k m->(∀t,K (.list t (kK (Hi m X)) k) S3)->x.call lU [.list O (eL m) m.length,nu X,nu 11] S3 K:=fun {m O K} h hK=>
   aIS (n:=n+5) hM hx hX h.l64 (by rw [h.1];omega) (fun q hq=>by rw [(h.2 q hq).1];omega) (by rw [h.1];exact hK)
  rw [ix1,lx1 _ (.refl _),aY,cT Ju e1,ix2,lx2 _ (.refl _),aY,cT Ju e1];show x.call lU [.list t1 (eL fs[i]) fs[i].length,nu X,nu 11] S3 _;refine bc sf fun t6=>?_;rw [cT Ju e1,cE,lx2 _ (.refl _)];show aU (.list t2 (eL bs[i]) bs[i].length) (.list t2 (eL bs[i]) bs[i].length) _;rw [ls];show x.call lU [.list t2 (eL bs[i]) bs[i].length,nu X,nu 11] S3 _;refine bc sb fun t7=>?_;refine aBl (n:=n+8) hx hM (cl sf) (cl sb) vO fun t8=>?_;refine⟨yW rfl fun _ _=>trivial,?_⟩;refine g2'.app (t:=t8) (d:=aO0 k X fs[i] bs[i]) (z:= .slice none 0 0) (zv:= .nil) pR (by rw [mU];omega) rfl (by decide) fun u4 S4 IS p4 o4 g4=>?_;rw [ec]at g4;have g3':=g3.mF p4 fun j m m' e c=>ap3 j m m' e c
  have ap4:∀j m m',u3= .acc j m->u4≠ .acc j m':=fun j m m' e c=>by
   rcases o4 j m' c with ⟨m2,e2⟩ | e2
   ·exact ap3 j m m2 e e2
   ·obtain⟨vs,n,e4⟩:=g3.there e
    rw [e2]at e4;cases e4
  rw [bG (by omega)];exact ih (i+1) m S4 u3 u4 (by omega) (by omega) IS g3' g4 ap4 Rp
end
set_option maxRecDepth 4000
def RS (k N:Nat) (fs bs:List (List (List Nat))):List (List Dt):=(List.range N).map fun i=>WI k (i+1) fs bs
def CS (k N:Nat) (fs bs:List (List (List Nat))):List (List Dt):=(List.range N).map fun i=>WJ k (i+1) fs bs
theorem aLW (k N:Nat) (fs bs:List (List (List Nat))):RS k (N+1) fs bs=RS k N fs bs++[WI k (N+1) fs bs]:=by unfold RS;rw [List.range_succ,QE];rfl
theorem aLX (k N:Nat) (fs bs:List (List (List Nat))):CS k (N+1) fs bs=CS k N fs bs++[WJ k (N+1) fs bs]:=by unfold CS;rw [List.range_succ,QE];rfl
section
variable{M n:Nat}{x:VE}{S S0:Hp}{K:KV}{two:Bool}{t d:Nat}{s:BitVec 64}{ah:List Nat}
theorem aIX (hM:1000000<M) (hx:Deep PP bK gM M (n+9) x){bp bd bS k N:Nat}{SF SB:Hp}{v w vm:V}{fs bs:List (List (List Nat))} (hk:0<k) (vO:k<1000) (hN:N<1000) (hlen:bs.length=fs.length) (QL:fs.length<1000) (hf:∀m∈fs,Yb k m) (hb:∀m∈bs,Yb k m) (CX:gB vm=true) (nS:SB bS=none) (nd:SB bd=none) (oM:bd≠bS)
 (hK:∀S' vr vc,bU SB S'->GG SB S' vr (RS k N fs bs)->GG SB S' vc (CS k N fs bs)->K (.tuple [.agg [vm,vr,vc],ni 0]) S'):
 ∀(r i m:Nat) (S:Hp) (vr vc:V),i+r=N->r<m->bU SB S->S bp=some (.row (pv two) 29)->S bd=some (.row [.nil,.nil,.nil] 79)->S bS=some (.row [vm,vr,vc] 79)->GL 33 SF S v (mD fs)->GL 33 SF S w (mD bs)->GG SB S vr (RS k i fs bs)->GG SB S vc (CS k i fs bs)->(∀j m m',vr= .acc j m->vc≠ .acc j m')->
  gG x m (ni N) (.ptr bp 0) (.ptr bd 0) v w (.ptr bS 0) (nu (i+1)) S K:=by
 intro r;induction r with
 | zero=>
  intro i m S vr vc hi hm le rp rd rS gv gw gr gc ap;obtain⟨m,rfl⟩:=bH (show m≠0 by omega);rw [EY];unfold wO;refine aF ?_;have ei:i=N:=by omega
  subst ei;rw [Hb (by omega),aEE,bO (by omega),bE,tE rS,dR (by simp)];show nI 3 (.ptr bd 0) (.agg [vm,vr,vc]) S _;refine iH (n:=3) rd (by simp [CX,gr.one,gc.one]) rfl rfl ?_;rw [tE (aB),dR (by simp)];refine aM (hK _ vr vc (fun j o e=>by rw [aC (fun c=>by rw [c,nd]at e;cases e)];exact le _ _ e) (gr.set rd fun vs e m c=>by cases c) (gc.set rd fun vs e m c=>by cases c))
 | succ r ih=>
  intro i m S vr vc hi hm le rp rd rS gv gw gr gc ap;obtain⟨m,rfl⟩:=bH (show m≠0 by omega);rw [EY];unfold wO;refine aF ?_;rw [Hb (by omega),aEE,bI (by omega),bW,gv.len,RG,hx.most];refine aIW (two:=two) (SF:=SF) (SS:=S) hM hx (show EQ (i+1)from Nat.lt_of_le_of_lt (show i+1<=1000 by omega) (by decide)) hk vO hlen QL hf hb gv gw rp fs.length 0 M S .nil .nil (by omega) (by omega) (.refl _) (by rw [List.take_zero];exact .nil) (by rw [List.take_zero];exact .nil) (fun j m m' e=>by cases e) fun m2 S2 u1 u2 fO g1 g2 ap2=>?_;rw [uL];unfold nU;refine aF ?_;have rS2:=fO _ _ rS;have sr:∀{q:Prop},aU vr vr q=q:=fun {q}=>cN gr.same;have sc:∀{q:Prop},aU vc vc q=q:=fun {q}=>cN gc.same;have a1:[vm,vr,vc][1]? =some vr:=rfl;have a2:[vm,vr,vc][2]? =some vc:=rfl;rw [aQ,bO (by omega),bE,aY,cT rS2 a1,aY,cT rS2 a2,cT rS2 a2,sc,cT rS2 a1,sr];refine⟨yW g1.one fun _ _=>trivial,yW g2.one fun _ _=>trivial,?_⟩;have leB:=le.trans fO;have gr2:=gr.up fO;have gc2:=gc.up fO;have g1B:=g1.base le;have g2B:=g2.base le;have hiR:(RS k i fs bs).length<=1000000:=by unfold RS;simp;omega
  have hiC:(CS k i fs bs).length<=1000000:=by unfold CS;simp;omega
  refine gr2.app leB hiR g1B fun vr3 S3 pR p3 o3 gr3=>?_
  have q3:∀{j:Nat} {o:Ob},S2 j=some o->(∀vs m,o≠ .gD vs 31 m)->S3 j=some o:=fun {j o} e xL=>p3 _ _ e fun m c=>by
   obtain⟨vs,n,e2⟩:=gr2.there c;rw [e]at e2;injection e2 with e2;exact xL _ _ e2
  have rS3:=q3 rS2 (fun vs m e=>by cases e);have gc3:GG SB S3 vc (CS k i fs bs):=gc2.mF p3 (fun j m e=>gr2.there e) fun j m m' e c=>ap j m' m c e;have g23:GL 82 SB S3 u2 (WJ k (i+1) fs bs):=g2B.but fun j vs m e=>q3 e fun vs' m' c=>by injection c with _ c;cases c
  have ap3:∀j m m',vr3= .acc j m->vc≠ .acc j m':=fun j m m' e c=>by
   rcases o3 j m e with ⟨m2,e2⟩ | e2
   ·exact ap j m2 m' e2 c
   ·obtain⟨vs,n,e4⟩:=gc2.there c
    rw [e2]at e4;cases e4
  have gl3:∀{u:V} {ds:List Dt},GL 33 SF S u ds->GL 33 SF S3 u ds:=fun {u ds} g=>(g.up fO).but fun j vs m e=>q3 e fun vs' m' c=>by injection c with _ c;cases c
  rw [cT rS3 a2,sc,aY,cT rS3 a2,sc];refine⟨yW g2.one fun _ _=>trivial,?_⟩;refine gc3.app pR hiC g23 fun vc4 S4 IS p4 o4 gc4=>?_
  have q4:∀{j:Nat} {o:Ob},S3 j=some o->(∀vs m,o≠ .gD vs 31 m)->S4 j=some o:=fun {j o} e xL=>p4 _ _ e fun m c=>by
   obtain⟨vs,n,e2⟩:=gc3.there c;rw [e]at e2;injection e2 with e2;exact xL _ _ e2
  have rS4:=q4 rS3 (fun vs m e=>by cases e);have gr4:GG SB S4 vr3 (RS k i fs bs++[WI k (i+1) fs bs]):=gr3.mF p4 (fun j m e=>gc3.there e) fun j m m' e c=>ap3 j m m' e c
  have ap4:∀j m m',vr3= .acc j m->vc4≠ .acc j m':=fun j m m' e c=>by
   rcases o4 j m' c with ⟨m2,e2⟩ | e2
   ·exact ap3 j m m2 e e2
   ·obtain⟨vs,n,e4⟩:=gr3.there e
    rw [e2]at e4;cases e4
  have gl4:∀{u:V} {ds:List Dt},GL 33 SF S u ds->GL 33 SF S4 u ds:=fun {u ds} g=>(gl3 g).but fun j vs m e=>q4 e fun vs' m' c=>by injection c with _ c;cases c
  rw [DV rS4 (by simp) gr3.one,aY];have rS5:aL S4 bS (.row ([vm,vr,vc].set 1 vr3) 79) bS=some (.row [vm,vr3,vc] 79):=aB;rw [DV rS5 (by simp) gc4.one,fD,aRp (by omega)];rw [<-aLW]at gr4;rw [<-aLX]at gc4;have low:∀{j:Nat} {o:Ob},S j=some o->(∀vs m,o≠ .gD vs 31 m)->S4 j=some o:=fun {j o} e xL=>q4 (q3 (fO _ _ e) xL) xL;have hpS:bp≠bS:=fun c=>by rw [c,rS]at rp;injection rp with rp;injection rp with _ rp;cases rp
  refine ih (i+1) m (aL S4 bS (.row ([vm,vr3,vc].set 2 vc4) 79)) vr3 vc4 (by omega) (by omega) (fun j o e=>by rw [aC (fun c=>by rw [c,nS]at e;cases e)];exact IS _ _ e) ?_ ?_ aB ((gl4 gv).set rS4 fun vs m c=>by cases c) ((gl4 gw).set rS4 fun vs m c=>by cases c) (gr4.set rS4 fun vs e m c=>by cases c) (gc4.set rS4 fun vs e m c=>by cases c) ap4
  ·rw [aC hpS];exact low rp fun vs m c=>by cases c
  ·rw [aC oM];exact low rd fun vs m c=>by cases c
theorem Uk{n:Nat}{l:List Nat} (h:l.length=n*n) (hl:∀c∈l,c<11):Yb n (AQ n l):=by
 refine⟨Hg _ _,fun q hq=>?_⟩;unfold AQ at hq;obtain⟨i,hi,rfl⟩:=List.mem_map.1 hq;have hi:=List.mem_range.1 hi;refine⟨?_,fun c hc=>hl c (Fw (Fv hc))⟩;rw [mU,IA,h];have:(i+1)*n<=n*n:=QD _ hi;rw [Ai]at this;omega
theorem aIY{n Q:Nat} (hQ:Q+1=n*n):∀(l:List (Nat×Nat)) (D:List Nat),(Q+Q)*l.length<=D.length->(∀c∈D,c<11)->(∀m∈fM n Q l D,Yb n m)/\∀m∈bM n Q l D,Yb n m:=by
 intro l;induction l with
 | nil=>
  intro D _ _;constructor
  ·intro m h;cases h
  ·intro m h;cases h
 | cons p l ih=>
  intro D hD hc;rw [oX,Aj]at hD;obtain⟨h1,h2⟩:=ih (D.drop (Q+Q)) (by rw [IA];omega) (fun c h=>hc c (Fw h));refine⟨fun m hm=>?_,fun m hm=>?_⟩
  ·rw [aEM]at hm
   rcases List.mem_cons.1 hm with rfl | hm
   ·refine Uk (by rw [oX,mU];omega) fun c h=>?_
    rcases List.mem_cons.1 h with rfl | h
    ·exact jD _ (by decide)
    ·exact hc c (Fv h)
   ·exact h1 m hm
  ·rw [aEN]at hm
   rcases List.mem_cons.1 hm with rfl | hm
   ·refine Uk (by rw [oX,mU,IA];omega) fun c h=>?_
    rcases List.mem_cons.1 h with rfl | h
    ·exact jD _ (by decide)
    ·exact hc c (Fw (Fv h))
   ·exact h2 m hm
theorem Yb.sq{k:Nat} (hk:k<1000){f b:List (List Nat)} (h1:Yb k f) (h2:Yb k b):Sq f b:=
 ⟨h1.l64,h2.l64,fun q hq=>by rw [(h1.2 q hq).1];omega,by rw [h1.1];omega,by rw [h1.1,h2.1],fun i a b=>by rw [(h1.2 _ (cO a)).1,(h2.2 _ (cO b)).1]⟩
def fT (two:Bool) (L:List (Nat×Nat)) (D:List Nat):List (List (List Nat)):=fM (tT two+1) (tQ two) L D
def bT (two:Bool) (L:List (Nat×Nat)) (D:List Nat):List (List (List Nat)):=bM (tT two+1) (tQ two) L D
end
set_option maxRecDepth 4000
def AD (ls:List (List Nat)) (i:Nat):List Nat:=ls.map fun l=>atG l i
section
variable{M n:Nat}{x:VE}{S S0:Hp}{K:KV}{two:Bool}
theorem aKd:gM mY=none:=rfl
theorem aPE:gM qC=none:=rfl
theorem aGK (hM:1000000<M) (hx:Deep PP bK gM M (n+4) x){O:Tag}{ls:List (List Nat)}{b i0:Nat} (hi0:EQ i0) (TV:∀c∈ls,LC c/\c.length<1000000) (hl:ls.length<1000000){SB:Hp} (hB:bU S SB) (rb:SB b=some (.row (pv two) 29))
 (hK:∀O,K (.list O (kK (AD ls i0)) (AD ls i0).length) S):
 ∀(r i m:Nat) (u:V) (acc:List Nat) (S1:Hp),bU SB S1->MN SB S1 u acc->i+r=ls.length->r<m->acc++AD (ls.drop i) i0=AD ls i0->lK x m (nu i0) (.ptr b 0) u (.list O (eL ls) ls.length) (ni ls.length) (ni i) S1 K:=by
 intro r;induction r with
 | zero=>
  intro i m u acc S1 hs CX hi hm he;obtain⟨m,rfl⟩:=bH (show m≠0 by omega);rw [CN];unfold tR;refine aF ?_;rw [aQ,jM (by omega),bE];rw [oW (by omega)]at he;have he:acc=AD ls i0:=by simpa [AD]using he
  subst he;exact gP (hB.trans hs) (CX.base hB).Bd hK
 | succ r ih=>
  intro i m u acc S1 hs CX hi hm he;obtain⟨m,rfl⟩:=bH (show m≠0 by omega);rw [CN];unfold tR;refine aF ?_;have hlt:i<ls.length:=by omega
  have hv:RL S1 S1 (.list O (eL ls) ls.length) ls:= .val;obtain⟨q,w,hq,PZ,hw⟩:=hv.at (i:=i) (aT hlt);rw [aQ,zJ hlt,bW,hq,PZ S1 (.refl S1),lA (hs _ _ rb)];have KQ:=TV _ (cO hlt);refine aTD (two:=two) hM hx hi0 hw.nv KQ.1 KQ.2 ?_
  have ha:acc.length<=ls.length:=by
   have:=jY List.length he;simp [AD]at this;omega
  refine CX.app hs (by omega) fun u2 S2 uA _ XL=>?_;rw [bG (by omega)];refine ih (i+1) m u2 _ S2 uA XL (by omega) (by omega) ?_;rw [mB hlt]at he;rw [<-he,BH];rfl
theorem aBU (hM:1000000<M) (hx:Deep PP bK gM M (n+5) x){O:Tag}{ls:List (List Nat)}{i0:Nat} (hi0:EQ i0) (TV:∀c∈ls,LC c/\c.length<1000000) (hl:ls.length<1000000)
 (hK:∀O,K (.list O (kK (AD ls i0)) (AD ls i0).length) S):x.call mY [.agg (pv two),.list O (eL ls) ls.length,nu i0] S K:=by
 refine hx.call aKd fun y hy=>?_;rw [Ht];unfold PS;refine cC jN fun b hb=>?_;show lK y y.most (nu i0) (.ptr b 0) .nil (.list O (eL ls) ls.length) (ni ls.length) (ni 0) _ K;rw [hy.most];exact aGK (two:=two) hM hy hi0 TV hl (.aK hb) aB hK ls.length 0 M .nil [] _ (.refl _) .nil (by omega) (by omega) (by simp)
theorem NL.base{S0 S1 S:Hp}{w:V}{l:List Nat} (h:NL S1 S w l) (hle:bU S0 S1):NL S0 S w l:=by
 cases h with
 | val=>exact .val
 | made h=>exact .made (h.base hle)
def JQ (ms:List (List (List Nat))) (i:Nat):List (List Nat):=ms.map fun ls=>AD ls i
theorem aMx (hM:1000000<M) (hx:Deep PP bK gM M (n+5) x){O:Tag}{ms:List (List (List Nat))}{b i0:Nat} (hi0:EQ i0) (TV:∀ls∈ms,(∀c∈ls,LC c/\c.length<1000000)/\ls.length<1000000) (hl:ms.length<1000000){SB:Hp} (hB:bU S SB) (rb:SB b=some (.row (pv two) 29))
 (hK:∀O,K (.list O (eL (JQ ms i0)) (JQ ms i0).length) S):
 ∀(r i m:Nat) (u:V) (acc:List (List Nat)) (S1:Hp),bU SB S1->ML SB S1 u acc->i+r=ms.length->r<m->acc++JQ (ms.drop i) i0=JQ ms i0->jZ x m (nu i0) (.ptr b 0) u (.list O (mD ms) ms.length) (ni ms.length) (ni i) S1 K:=by
 intro r;induction r with
 | zero=>
  intro i m u acc S1 hs CX hi hm he;obtain⟨m,rfl⟩:=bH (show m≠0 by omega);rw [zN];unfold rD;refine aF ?_;rw [aQ,jM (by omega),bE];rw [oW (by omega)]at he;have he:acc=JQ ms i0:=by simpa [JQ]using he
  subst he;exact gP (hB.trans hs) (CX.base hB).Bd hK
 | succ r ih=>
  intro i m u acc S1 hs CX hi hm he;obtain⟨m,rfl⟩:=bH (show m≠0 by omega);rw [zN];unfold rD;refine aF ?_;have hlt:i<ms.length:=by omega
  have QA:(mD ms)[i*1]? =some (.list (eL ms[i]) ms[i].length):=by rw [kX];unfold mD;rw [eH,aT hlt];rfl
  rw [aQ,zJ hlt,bW,jL hlt,yA,cX QA,lA (hs _ _ rb)];have KQ:=TV _ (cO hlt);refine aBU (two:=two) hM hx hi0 KQ.1 KQ.2 fun t2=>?_
  have ha:acc.length<=ms.length:=by
   have:=jY List.length he;simp [JQ]at this;omega
  refine CX.app hs (by omega) (.val (l:=AD ms[i] i0)) fun u2 S2 uA vO XL _=>?_;rw [bG (by omega)];refine ih (i+1) m u2 _ S2 uA XL (by omega) (by omega) ?_;rw [mB hlt]at he;rw [<-he,BH];rfl
theorem aPh (hM:1000000<M) (hx:Deep PP bK gM M (n+6) x){O:Tag}{ms:List (List (List Nat))}{i0:Nat} (hi0:EQ i0) (TV:∀ls∈ms,(∀c∈ls,LC c/\c.length<1000000)/\ls.length<1000000) (hl:ms.length<1000000)
 (hK:∀O,K (.list O (eL (JQ ms i0)) (JQ ms i0).length) S):x.call qC [.agg (pv two),.list O (mD ms) ms.length,nu i0] S K:=by
 refine hx.call aPE fun y hy=>?_;rw [Br];unfold LW;refine cC jN fun b hb=>?_;show jZ y y.most (nu i0) (.ptr b 0) .nil (.list O (mD ms) ms.length) (ni ms.length) (ni 0) _ K;rw [hy.most];exact aMx (two:=two) hM hy hi0 TV hl (.aK hb) aB hK ms.length 0 M .nil [] _ (.refl _) .nil (by omega) (by omega) (by simp)
end
end Go.Am
set_option maxRecDepth 100000
namespace Go.Am
def pW (x:VE) (m:Nat) (t2 t3 t10 t11:V) (S:Hp) (K:KV):Prop:=dW PP bK HK x [.r,.r,.r,.l,.r,.d] m [] [t2,t3,t10,t11] S K
def Ja (x:VE) (a0:V) (S:Hp) (K:KV):Prop:=
 iG 29 a0 S fun v0 S=>
 dQ [(.int .i64 (.ofNat 0)),(.slice none 0 0),(.slice none 0 0),(.slice none 0 0),(.slice none 0 0)] 36 S fun v1 S=>
 bR 12 v0 S fun v2 S=>
 x.call uI [v2] S fun v3 S=>
 SP .not v3 fun v4=>
 iR v4 (cS [(.int .i64 (.ofNat 0)),(.slice none 0 0),(.slice none 0 0),(.slice none 0 0),(.slice none 0 0)] [] fun v5=>nI 5 v1 v5 S fun S=>bR 5 v1 S fun v6 _=>bF v6 S K) (dQ [(.int .i64 (.ofNat 0)),(.slice none 0 0),(.slice none 0 0),(.slice none 0 0),(.slice none 0 0)] 36 S fun v7 S=>aV 5 v0 fun v8=>aW v8 S fun v9 S=>pW x x.most v1 v7 v9 (.int .i64 (.ofNat 0)) S K)
theorem aBn (x:VE) (a0:V) (S:Hp) (K:KV):jX PP bK HK x [a0] S K=Ja x a0 S K:=by kernel_rfl
def AC (x:VE) (m0:Nat) (t2 t3 t10 t11:V) (S:Hp) (K:KV):Prop:=
 cR S fun S=>
 aJ PP .lss 3 t11 t10 fun v0=>
 iR v0 (aV 1 t3 fun v1=>aW v1 S fun v2 S=>aJ PP .add 3 t11 (.int .i64 (.ofNat 1)) fun v3=>aS 3 1 [(.int .i64 (.ofNat 0))] [(0,1,v3)] S fun v4 S=>jW 3 1 8 v2 v4 S fun v5 S=>aV 1 t3 fun v6=>nI 1 v6 v5 S fun S=>aJ PP .add 3 t11 (.int .i64 (.ofNat 1)) fun v7=>pW x m0 t2 t3 t10 v7 S K) (bR 5 t3 S fun v8 S=>nI 5 t2 v8 S fun S=>bR 5 t2 S fun v9 _=>bF v9 S K)
theorem IW (x:VE) (m0:Nat) (t2 t3 t10 t11:V) (S:Hp) (K:KV):pW x (m0+1) t2 t3 t10 t11 S K=AC x m0 t2 t3 t10 t11 S K:=by kernel_rfl
def NG (x:VE) (a0 a1:V) (S:Hp) (K:KV):Prop:=
 iG 29 a0 S fun v0 S=>
 x.call dE [a1] S fun v1 S=>
 x.call lI [v1] S fun v2 S=>
 bP a1 fun v3=>
 aV 5 v0 fun v4=>
 aW v4 S fun v5 S=>
 aJ PP .eql 3 v3 v5 fun v6=>
 aI x.most (aH true v6 (fun k=>k v1 S) S fun v7 S=>aI x.most (aH true v6 (fun k=>aV 5 v0 fun v8=>k v8 S) S fun v9 S=>aI x.most (aH true v6 (fun k=>aW v9 S fun v10 S=>k v10 S) S fun v11 S=>aI x.most (aH true v6 (fun k=>x.call cW [v7] S fun v12 S=>k v12 S) S fun qE S=>aI x.most (fW true v6 v11 (fun k=>aW v9 S fun qU _=>aU qU v11 k) (aW v4 S fun wI _=>aU wI v5 (aI x.most (aH true v6 (fun k=>bP qE fun wJ=>k wJ S) S fun wH S=>aI x.most (aH true v6 (fun k=>aJ PP .eql 3 wH v11 fun vC=>k vC S) S fun yI S=>aI x.most (fK v6 yI (.bool false) fun v20=>aI x.most (aH true v20 (fun k=>k a1 S) S fun v21 S=>aI x.most (aH true v20 (fun k=>k (.func sY [] [v0]) S) S fun JC S=>aI x.most (aH true v20 (fun k=>x.call eQ [v21,JC] S fun GC S=>k GC S) S fun v24 S=>aI x.most (fW true v6 v11 (fun k=>aW v9 S fun OD _=>aU OD v11 k) (aW v4 S fun SZ _=>aU SZ v5 (aI x.most (aH true v20 (fun k=>SP .not v24 fun ZE=>k ZE S) S fun v28 S=>aI x.most (fK v20 v28 (.bool false) fun v29=>bF v29 S K))))))))))))))))))
theorem Fa (x:VE) (a0 a1:V) (S:Hp) (K:KV):jX PP bK oI x [a0,a1] S K=NG x a0 a1 S K:=by kernel_rfl
def JA (x:VE) (a0 a1:V) (S:Hp) (K:KV):Prop:=
 aJ PP .lss 3 a0 (.int .i64 (.ofNat 1)) fun v0=>
 aI x.most (aH false v0 (fun k=>k a0 S) S fun v1 S=>aI x.most (aH false v0 (fun k=>aV 4 a1 fun v2=>k v2 S) S fun v3 S=>aI x.most (aH false v0 (fun k=>aW v3 S fun v4 S=>k v4 S) S fun v5 S=>aI x.most (aH false v0 (fun k=>aJ PP .gtr 3 v1 v5 fun v6=>k v6 S) S fun v7 S=>aI x.most (fK v0 (.bool true) v7 fun v8=>bF v8 S K)))))
theorem YL (x:VE) (a0 a1:V) (S:Hp) (K:KV):jX PP bK sY x [a0,a1] S K=JA x a0 a1 S K:=by kernel_rfl
def qI (x:VE) (m:Nat) (t1 t2 t3 t7 t8 t9:V) (S:Hp) (K:KV):Prop:=dW PP bK EH x [.r,.r,.l,.r,.d] m [] [t1,t2,t3,t7,t8,t9] S K
def Fe (x:VE) (a0:V) (S:Hp) (K:KV):Prop:=
 iG 36 a0 S fun v0 S=>
 dQ [(.int .i64 (.ofNat 0)),(.slice none 0 0),(.slice none 0 0),(.slice none 0 0),(.slice none 0 0)] 36 S fun v1 S=>
 aV 2 v0 fun v2=>
 aW v2 S fun v3 S=>
 bP v3 fun v4=>
 qI x x.most v0 v1 .nil v3 v4 (.int .i64 (.ofNat 0)) S K
theorem Zi (x:VE) (a0:V) (S:Hp) (K:KV):jX PP bK EH x [a0] S K=Fe x a0 S K:=by kernel_rfl
def AI (x:VE) (m0:Nat) (t1 t2 t3 t7 t8 t9:V) (S:Hp) (K:KV):Prop:=
 cR S fun S=>
 aJ PP .lss 3 t9 t8 fun v0=>
 iR v0 (cV 1 t7 t9 fun v1=>aW v1 S fun v2 S=>x.call cD [v2] S fun v3 S=>aS 51 1 [(.slice none 0 0)] [(0,1,v3)] S fun v4 S=>jW 51 1 24 t3 v4 S fun v5 S=>aJ PP .add 3 t9 (.int .i64 (.ofNat 1)) fun v6=>qI x m0 t1 t2 v5 t7 t8 v6 S K) (aV 0 t1 fun v7=>aW v7 S fun v8 S=>aV 1 t1 fun v9=>aW v9 S fun v10 S=>aV 3 t1 fun v11=>aW v11 S fun v12 S=>aV 4 t1 fun qE=>aW qE S fun qU S=>x.call dE [v10] S fun wI S=>aW qE S fun wJ _=>aU wJ qU (aW v11 S fun wH _=>aU wH v12 (aW v7 S fun vC _=>aU vC v8 (x.call dE [v12] S fun yI S=>aW qE S fun v20 _=>aU v20 qU (aW v7 S fun v21 _=>aU v21 v8 (x.call zC [qU] S fun JC S=>aW v7 S fun GC _=>aU GC v8 (cS [(.int .i64 (.ofNat 0)),(.slice none 0 0),(.slice none 0 0),(.slice none 0 0),(.slice none 0 0)] [(0,1,v8),(1,1,wI),(2,1,t3),(3,1,yI),(4,1,JC)] fun v24=>nI 5 t2 v24 S fun S=>bR 5 t2 S fun OD _=>bF OD S K)))))))
theorem JD (x:VE) (m0:Nat) (t1 t2 t3 t7 t8 t9:V) (S:Hp) (K:KV):qI x (m0+1) t1 t2 t3 t7 t8 t9 S K=AI x m0 t1 t2 t3 t7 t8 t9 S K:=by kernel_rfl
def ZO (x:VE) (a0:V) (S:Hp) (K:KV):Prop:=
 Eo S fun v0 S=>
 cS [.nilFunc,(.int .i64 (.ofNat 0))] [(0,1,(.func vU [] [])),(1,1,(.int .i64 (.ofNat 7)))] fun v1=>
 cS [.nilFunc,(.int .i64 (.ofNat 0))] [(0,1,(.func vV [] [])),(1,1,(.int .i64 (.ofNat 4)))] fun v2=>
 aS 92 2 [.nilFunc,(.int .i64 (.ofNat 0))] [(0,2,v1),(2,2,v2)] S fun v3 S=>
 AE (.one (.int .u8)) v0 (.int .u8 (.ofNat 1)) v3 S fun S=>
 cS [.nilFunc,(.int .i64 (.ofNat 0))] [(0,1,(.func oK [] [])),(1,1,(.int .i64 (.ofNat 7)))] fun v4=>
 aS 92 1 [.nilFunc,(.int .i64 (.ofNat 0))] [(0,2,v4)] S fun v5 S=>
 AE (.one (.int .u8)) v0 (.int .u8 (.ofNat 2)) v5 S fun S=>
 cS [.nilFunc,(.int .i64 (.ofNat 0))] [(0,1,(.func oK [] [])),(1,1,(.int .i64 (.ofNat 7)))] fun v6=>
 cS [.nilFunc,(.int .i64 (.ofNat 0))] [(0,1,(.func vW [] [])),(1,1,(.int .i64 (.ofNat 7)))] fun v7=>
 cS [.nilFunc,(.int .i64 (.ofNat 0))] [(0,1,(.func vX [] [])),(1,1,(.int .i64 (.ofNat 4)))] fun v8=>
 aS 92 3 [.nilFunc,(.int .i64 (.ofNat 0))] [(0,2,v6),(2,2,v7),(4,2,v8)] S fun v9 S=>
 AE (.one (.int .u8)) v0 (.int .u8 (.ofNat 3)) v9 S fun S=>
 cS [.nilFunc,(.int .i64 (.ofNat 0))] [(0,1,(.func vY [] [])),(1,1,(.int .i64 (.ofNat 7)))] fun v10=>
 cS [.nilFunc,(.int .i64 (.ofNat 0))] [(0,1,(.func kR [] [])),(1,1,(.int .i64 (.ofNat 4)))] fun v11=>
 cS [.nilFunc,(.int .i64 (.ofNat 0))] [(0,1,(.func fP [] [])),(1,1,(.int .i64 (.ofNat 21)))] fun v12=>
 aS 92 3 [.nilFunc,(.int .i64 (.ofNat 0))] [(0,2,v10),(2,2,v11),(4,2,v12)] S fun qE S=>
 AE (.one (.int .u8)) v0 (.int .u8 (.ofNat 4)) qE S fun S=>
 Pj (.one (.int .u8)) .nil false v0 a0 S fun qU S=>
 bF qU S K
theorem Sn (x:VE) (a0:V) (S:Hp) (K:KV):jX PP bK GU x [a0] S K=ZO x a0 S K:=by kernel_rfl
def TA (x:VE) (a0:V) (S:Hp) (K:KV):Prop:=
 iG 86 a0 S fun v0 S=>
 aV 12 v0 fun v1=>
 aV 0 v1 fun v2=>
 aW v2 S fun v3 S=>
 aJ PP .eql 3 v3 (.int .i64 (.ofNat 0)) fun v4=>
 bF v4 S K
theorem Kd (x:VE) (a0:V) (S:Hp) (K:KV):jX PP bK vU x [a0] S K=TA x a0 S K:=by kernel_rfl
def TB (x:VE) (a0:V) (S:Hp) (K:KV):Prop:=
 iG 86 a0 S fun v0 S=>
 aV 12 v0 fun v1=>
 aV 0 v1 fun v2=>
 aW v2 S fun v3 S=>
 aJ PP .gtr 3 v3 (.int .i64 (.ofNat 0)) fun v4=>
 bF v4 S K
theorem Ke (x:VE) (a0:V) (S:Hp) (K:KV):jX PP bK oK x [a0] S K=TB x a0 S K:=by kernel_rfl
def TC (x:VE) (a0:V) (S:Hp) (K:KV):Prop:=
 iG 86 a0 S fun v0 S=>
 aV 12 v0 fun v1=>
 aV 3 v1 fun v2=>
 aW v2 S fun v3 S=>
 bP v3 fun v4=>
 aJ PP .eql 3 v4 (.int .i64 (.ofNat 0)) fun v5=>
 aI x.most (aH true v5 (fun k=>aV 17 v0 fun v6=>k v6 S) S fun v7 S=>aI x.most (aH true v5 (fun k=>aV 2 v7 fun v8=>k v8 S) S fun v9 S=>aI x.most (aH true v5 (fun k=>aW v9 S fun v10 S=>k v10 S) S fun v11 S=>aI x.most (aH true v5 (fun k=>aV 12 v0 fun v12=>k v12 S) S fun qE S=>aI x.most (aH true v5 (fun k=>aV 0 qE fun qU=>k qU S) S fun wI S=>aI x.most (aH true v5 (fun k=>aW wI S fun wJ S=>k wJ S) S fun wH S=>aI x.most (aH true v5 (fun k=>aJ PP .eql 3 v11 wH fun vC=>k vC S) S fun yI S=>aI x.most (fK v5 yI (.bool false) fun v20=>bF v20 S K))))))))
theorem Kf (x:VE) (a0:V) (S:Hp) (K:KV):jX PP bK vW x [a0] S K=TC x a0 S K:=by kernel_rfl
def TD (x:VE) (a0:V) (S:Hp) (K:KV):Prop:=
 iG 86 a0 S fun v0 S=>
 aV 12 v0 fun v1=>
 aV 3 v1 fun v2=>
 aW v2 S fun v3 S=>
 bP v3 fun v4=>
 aJ PP .gtr 3 v4 (.int .i64 (.ofNat 0)) fun v5=>
 aI x.most (aH true v5 (fun k=>aV 17 v0 fun v6=>k v6 S) S fun v7 S=>aI x.most (aH true v5 (fun k=>aV 2 v7 fun v8=>k v8 S) S fun v9 S=>aI x.most (aH true v5 (fun k=>aW v9 S fun v10 S=>k v10 S) S fun v11 S=>aI x.most (aH true v5 (fun k=>aV 12 v0 fun v12=>k v12 S) S fun qE S=>aI x.most (aH true v5 (fun k=>aV 0 qE fun qU=>k qU S) S fun wI S=>aI x.most (aH true v5 (fun k=>aW wI S fun wJ S=>k wJ S) S fun wH S=>aI x.most (aH true v5 (fun k=>aJ PP .eql 3 v11 wH fun vC=>k vC S) S fun yI S=>aI x.most (fK v5 yI (.bool false) fun v20=>bF v20 S K))))))))
theorem Kg (x:VE) (a0:V) (S:Hp) (K:KV):jX PP bK vY x [a0] S K=TD x a0 S K:=by kernel_rfl
def TE (x:VE) (a0:V) (S:Hp) (K:KV):Prop:=
 iG 86 a0 S fun v0 S=>
 aV 0 v0 fun v1=>
 bR 12 v1 S fun v2 S=>
 aV 17 v0 fun v3=>
 aV 4 v3 fun v4=>
 aW v4 S fun v5 S=>
 x.call oH [v2,v5] S fun v6 S=>
 bF v6 S K
theorem Kh (x:VE) (a0:V) (S:Hp) (K:KV):jX PP bK vV x [a0] S K=TE x a0 S K:=by kernel_rfl
def TG (x:VE) (a0:V) (S:Hp) (K:KV):Prop:=
 iG 86 a0 S fun v0 S=>
 aV 0 v0 fun v1=>
 bR 12 v1 S fun v2 S=>
 aV 17 v0 fun v3=>
 aV 5 v3 fun v4=>
 aW v4 S fun v5 S=>
 x.call oI [v2,v5] S fun v6 S=>
 bF v6 S K
theorem Kj (x:VE) (a0:V) (S:Hp) (K:KV):jX PP bK vX x [a0] S K=TG x a0 S K:=by kernel_rfl
def iX (x:VE) (m:Nat) (t1 t3 t8 t9 t10:V) (S:Hp) (K:KV):Prop:=dW PP bK kR x [.r,.r,.l,.r,.d] m [] [t1,t3,t8,t9,t10] S K
def HT (x:VE) (a0:V) (S:Hp) (K:KV):Prop:=
 iG 86 a0 S fun v0 S=>
 aV 17 v0 fun v1=>
 aV 6 v1 fun v2=>
 aW v2 S fun v3 S=>
 bP v3 fun v4=>
 iX x x.most v0 (.int .i64 (.ofNat 0)) v3 v4 (.int .i64 (.ofNat 0)) S K
theorem WY (x:VE) (a0:V) (S:Hp) (K:KV):jX PP bK kR x [a0] S K=HT x a0 S K:=by kernel_rfl
def pC (x:VE) (m0:Nat) (t1 t3 t8 t9 t10:V) (S:Hp) (K:KV):Prop:=
 cR S fun S=>
 aJ PP .lss 3 t10 t9 fun v0=>
 iR v0 (cV 2 t8 t10 fun v1=>bR 2 v1 S fun v2 S=>dQ [(.int .i64 (.ofNat 0)),(.slice none 0 0)] 68 S fun v3 S=>nI 2 v3 v2 S fun S=>aV 0 v3 fun v4=>aW v4 S fun v5 S=>aJ PP .leq 3 v5 t3 fun v6=>aI x.most (aH false v6 (fun k=>aV 0 v3 fun v7=>k v7 S) S fun v8 S=>aI x.most (aH false v6 (fun k=>aW v8 S fun v9 S=>k v9 S) S fun v10 S=>aI x.most (aH false v6 (fun k=>aV 0 t1 fun v11=>k v11 S) S fun v12 S=>aI x.most (aH false v6 (fun k=>aV 5 v12 fun qE=>k qE S) S fun qU S=>aI x.most (aH false v6 (fun k=>aW qU S fun wI S=>k wI S) S fun wJ S=>aI x.most (aH false v6 (fun k=>aJ PP .gtr 3 v10 wJ fun wH=>k wH S) S fun vC S=>aI x.most (fK v6 (.bool true) vC fun yI=>aI x.most (aH false yI (fun k=>aV 0 t1 fun v20=>k v20 S) S fun v21 S=>aI x.most (aH false yI (fun k=>bR 12 v21 S fun JC S=>k JC S) S fun GC S=>aI x.most (aH false yI (fun k=>aV 1 v3 fun v24=>k v24 S) S fun OD S=>aI x.most (aH false yI (fun k=>aW OD S fun SZ S=>k SZ S) S fun ZE S=>aI x.most (aH false yI (fun k=>x.call oH [GC,ZE] S fun v28 S=>k v28 S) S fun v29 S=>aI x.most (aH false yI (fun k=>SP .not v29 fun v30=>k v30 S) S fun v31 S=>aI x.most (fK yI (.bool true) v31 fun Sr=>iR Sr (bF (.bool false) S K) (aV 0 v3 fun Lr=>aW Lr S fun Fd S=>aJ PP .add 3 t10 (.int .i64 (.ofNat 1)) fun Qk=>iX x m0 t1 Fd t8 t9 Qk S K)))))))))))))))) (aV 17 t1 fun Cb=>aV 6 Cb fun v37=>aW v37 S fun Bt S=>bP Bt fun Jj=>aV 0 t1 fun v40=>aV 6 v40 fun XY=>aW XY S fun Rb S=>aJ PP .add 3 Rb (.int .i64 (.ofNat 1)) fun Uz=>aJ PP .eql 3 Jj Uz fun v44=>bF v44 S K)
theorem xG (x:VE) (m0:Nat) (t1 t3 t8 t9 t10:V) (S:Hp) (K:KV):iX x (m0+1) t1 t3 t8 t9 t10 S K=pC x m0 t1 t3 t8 t9 t10 S K:=by kernel_rfl
def eE (x:VE) (m:Nat) (t1 t10 t11 t12:V) (S:Hp) (K:KV):Prop:=dW PP bK fP x [.r,.l,.r,.d] m [] [t1,t10,t11,t12] S K
def bZ (x:VE) (m:Nat) (m0:Nat) (t1 t4 t5 t10 t11 t12 t17 TY t19:V) (S:Hp) (K:KV):Prop:=dW PP bK fP x [.r,.l,.r,.d,.d,.r,.r,.l,.d,.r,.r,.l,.r,.d] m [m0] [t1,t4,t5,t10,t11,t12,t17,TY,t19] S K
def JH (x:VE) (a0:V) (S:Hp) (K:KV):Prop:=
 iG 86 a0 S fun v0 S=>
 aV 17 v0 fun v1=>
 aV 6 v1 fun v2=>
 aW v2 S fun v3 S=>
 bP v3 fun v4=>
 eE x x.most v0 v3 v4 (.int .i64 (.ofNat 0)) S K
theorem YO (x:VE) (a0:V) (S:Hp) (K:KV):jX PP bK fP x [a0] S K=JH x a0 S K:=by kernel_rfl
def rI (x:VE) (m:Nat) (t1 t10 t11 t12:V) (S:Hp) (K:KV):Prop:=Zh PP bK fP x [.r,.l,.r,.d] m [] [t1,t10,t11,t12] S K
theorem MB (x:VE) (m:Nat) (t1 t10 t11 t12:V) (S:Hp) (K:KV):eE x m t1 t10 t11 t12 S K=rI x m t1 t10 t11 t12 S K:=by kernel_rfl
def eG (x:VE) (m:Nat) (m0:Nat) (t1 t4 t5 t10 t11 t12 t17 TY t19:V) (S:Hp) (K:KV):Prop:=Zh PP bK fP x [.r,.l,.r,.d,.d,.r,.r,.l,.d,.r,.r,.l,.r,.d] m [m0] [t1,t4,t5,t10,t11,t12,t17,TY,t19] S K
theorem oV (x:VE) (m:Nat) (m0:Nat) (t1 t4 t5 t10 t11 t12 t17 TY t19:V) (S:Hp) (K:KV):bZ x m m0 t1 t4 t5 t10 t11 t12 t17 TY t19 S K=eG x m m0 t1 t4 t5 t10 t11 t12 t17 TY t19 S K:=by kernel_rfl
def rJ (x:VE) (m0:Nat) (t1 t10 t11 t12:V) (S:Hp) (K:KV):Prop:=
 cR S fun S=>
 aJ PP .lss 3 t12 t11 fun v0=>
 iR v0 (cV 2 t10 t12 fun v1=>bR 2 v1 S fun v2 S=>dQ [(.int .i64 (.ofNat 0)),(.slice none 0 0)] 68 S fun v3 S=>nI 2 v3 v2 S fun S=>aV 1 v3 fun v4=>aW v4 S fun v5 S=>bP v5 fun v6=>bZ x x.most m0 t1 v3 .nil t10 t11 t12 v5 v6 (.int .i64 (.ofNat 0)) S K) (bF (.bool true) S K)
def MC (lp:VE->Nat->Nat->V->V->V->V->V->V->V->V->V->Hp->KV->Prop) (x:VE) (m0:Nat) (t1 t10 t11 t12:V) (S:Hp) (K:KV):Prop:=
 cR S fun S=>
 aJ PP .lss 3 t12 t11 fun v0=>
 iR v0 (cV 2 t10 t12 fun v1=>bR 2 v1 S fun v2 S=>dQ [(.int .i64 (.ofNat 0)),(.slice none 0 0)] 68 S fun v3 S=>nI 2 v3 v2 S fun S=>aV 1 v3 fun v4=>aW v4 S fun v5 S=>bP v5 fun v6=>lp x x.most m0 t1 v3 .nil t10 t11 t12 v5 v6 (.int .i64 (.ofNat 0)) S K) (bF (.bool true) S K)
theorem zQ (x:VE) (m0:Nat) (t1 t10 t11 t12:V) (S:Hp) (K:KV):eE x (m0+1) t1 t10 t11 t12 S K=rJ x m0 t1 t10 t11 t12 S K:=by
 have h1:eE x (m0+1) t1 t10 t11 t12 S K=MC eG x m0 t1 t10 t11 t12 S K:=by kernel_rfl
 have h2:bZ=eG:=by funext x m m0 t1 t4 t5 t10 t11 t12 t17 TY t19 S K;exact oV ..
 rw [h1,<-h2];rfl
def kD (x:VE) (m1:Nat) (m0:Nat) (t1 t4 t5 t10 t11 t12 t17 TY t19:V) (S:Hp) (K:KV):Prop:=
 cR S fun S=>
 aJ PP .lss 3 t19 TY fun v0=>
 iR v0 (cV 1 t17 t19 fun v1=>aW v1 S fun v2 S=>cV 1 v2 (.int .i64 (.ofNat 0)) fun v3=>aW v3 S fun v4 S=>aS 22 1 [(.int .u64 (.ofNat 0))] [(0,1,v4)] S fun v5 S=>jW 22 1 8 t5 v5 S fun v6 S=>aJ PP .add 3 t19 (.int .i64 (.ofNat 1)) fun v7=>bZ x m1 m0 t1 t4 v6 t10 t11 t12 t17 TY v7 S K) (aV 0 t1 fun v8=>bR 12 v8 S fun v9 S=>aV 12 t1 fun v10=>aV 2 v10 fun v11=>aW v11 S fun v12 S=>aV 0 t4 fun qE=>aW qE S fun qU S=>LE .u64 qU fun wI=>x.call mY [v9,v12,wI] S fun wJ S=>x.call dM [t5,wJ] S fun wH S=>SP .not wH fun vC=>iR vC (bF (.bool false) S K) (aJ PP .add 3 t12 (.int .i64 (.ofNat 1)) fun yI=>eE x m0 t1 t10 t11 yI S K))
def AM (lo:VE->Nat->V->V->V->V->Hp->KV->Prop) (li:VE->Nat->Nat->V->V->V->V->V->V->V->V->V->Hp->KV->Prop) (x:VE) (m1:Nat) (m0:Nat) (t1 t4 t5 t10 t11 t12 t17 TY t19:V) (S:Hp) (K:KV):Prop:=
 cR S fun S=>
 aJ PP .lss 3 t19 TY fun v0=>
 iR v0 (cV 1 t17 t19 fun v1=>aW v1 S fun v2 S=>cV 1 v2 (.int .i64 (.ofNat 0)) fun v3=>aW v3 S fun v4 S=>aS 22 1 [(.int .u64 (.ofNat 0))] [(0,1,v4)] S fun v5 S=>jW 22 1 8 t5 v5 S fun v6 S=>aJ PP .add 3 t19 (.int .i64 (.ofNat 1)) fun v7=>li x m1 m0 t1 t4 v6 t10 t11 t12 t17 TY v7 S K) (aV 0 t1 fun v8=>bR 12 v8 S fun v9 S=>aV 12 t1 fun v10=>aV 2 v10 fun v11=>aW v11 S fun v12 S=>aV 0 t4 fun qE=>aW qE S fun qU S=>LE .u64 qU fun wI=>x.call mY [v9,v12,wI] S fun wJ S=>x.call dM [t5,wJ] S fun wH S=>SP .not wH fun vC=>iR vC (bF (.bool false) S K) (aJ PP .add 3 t12 (.int .i64 (.ofNat 1)) fun yI=>lo x m0 t1 t10 t11 yI S K))
theorem pI (x:VE) (m1:Nat) (m0:Nat) (t1 t4 t5 t10 t11 t12 t17 TY t19:V) (S:Hp) (K:KV):bZ x (m1+1) m0 t1 t4 t5 t10 t11 t12 t17 TY t19 S K=kD x m1 m0 t1 t4 t5 t10 t11 t12 t17 TY t19 S K:=by
 have h1:bZ x (m1+1) m0 t1 t4 t5 t10 t11 t12 t17 TY t19 S K=AM rI eG x m1 m0 t1 t4 t5 t10 t11 t12 t17 TY t19 S K:=by kernel_rfl
 have h2:bZ=eG:=by funext x m m0 t1 t4 t5 t10 t11 t12 t17 TY t19 S K;exact oV ..
 have h3:eE=rI:=by funext x m t1 t10 t11 t12 S K;exact MB ..
 rw [h1,<-h2,<-h3];rfl
end Go.Am
set_option maxRecDepth 4000
namespace Go.Am
open Go.Proofs.OG
abbrev fq (f:FuncId):V:= .func f [] []
def qV:Nat->List V
 | 1=>[fq vU,ni 7,fq vV,ni 4]
 | 2=>[fq oK,ni 7]
 | 3=>[fq oK,ni 7,fq vW,ni 7,fq vX,ni 4]
 | _=>[fq vY,ni 7,fq kR,ni 4,fq fP,ni 21]
def qN:Nat->Nat
 | 1=>2
 | 2=>1
 | _=>3
abbrev n8 (k:Nat):V:= .int .u8 (.ofNat k)
section
variable{M n:Nat}{x:VE}{S:Hp}{K:KV}
theorem aMy:gM GU=none:=rfl
theorem EE{f:FuncId}{e:Nat}{k:V->Prop} (hk:k (.agg [fq f,ni e])):cS [.nilFunc,(.int .i64 (.ofNat 0))] [(0,1,(.func f [] [])),(1,1,ni e)] k:=by
 refine⟨rfl,by simp,?_⟩;exact⟨rfl,by simp [bA],hk⟩
theorem vB1{a b:V} (ha:gB a=true) (hb:gB b=true) (hk:∀j,S j=none->K (.own j 0 1 1) (aL S j (.row [a,b] 92))):aS 92 1 [.nilFunc,(.int .i64 (.ofNat 0))] [(0,2,.agg [a,b])] S K:=by
 refine⟨by simp [ha,hb],rfl,by simp,?_⟩;exact fun j hj=>hk j hj
theorem vB2{a b c d:V} (ha:gB a=true) (hb:gB b=true) (hc:gB c=true) (hd:gB d=true) (hk:∀j,S j=none->K (.own j 0 2 2) (aL S j (.row [a,b,c,d] 92))):aS 92 2 [.nilFunc,(.int .i64 (.ofNat 0))] [(0,2,.agg [a,b]),(2,2,.agg [c,d])] S K:=by
 refine⟨by simp [ha,hb],rfl,by simp,⟨by simp [hc,hd],rfl,by simp [bA],?_⟩⟩;exact fun j hj=>hk j hj
theorem vB3{a b c d e f:V} (ha:gB a=true) (hb:gB b=true) (hc:gB c=true) (hd:gB d=true) (he:gB e=true) (hf:gB f=true) (hk:∀j,S j=none->K (.own j 0 3 3) (aL S j (.row [a,b,c,d,e,f] 92))):aS 92 3 [.nilFunc,(.int .i64 (.ofNat 0))] [(0,2,.agg [a,b]),(2,2,.agg [c,d]),(4,2,.agg [e,f])] S K:=by
 refine⟨by simp [ha,hb],rfl,by simp,⟨by simp [hc,hd],rfl,by simp [bA],⟨by simp [he,hf],rfl,by simp [bA],?_⟩⟩⟩;exact fun j hj=>hk j hj
theorem aKe{m:Nat}{es es2:List (V×V)}{a v:V} (hm:S m=some (.map es)) (ha:RK (.one (.int .u8)) a) (ho:∀e∈es,RK (.one (.int .u8)) e.1) (he:OB es a v=es2){k:Hp->Prop} (hk:k (aL S m (.map es2))):AE (.one (.int .u8)) (.yZ m) a v S k:=by
 unfold AE;simp only [hm];exact⟨ha,ho,by rw [he];exact hk⟩
theorem aE8{m j:Nat}{es es2:List (V×V)}{vs:List V}{k:V}{n:Nat}{f:Hp->Prop} (hm:S m=some (.map es)) (hj:S j=none) (ho:∀e∈es,RK (.one (.int .u8)) e.1) (ha:RK (.one (.int .u8)) k) (he:OB es k (.own j 0 n n)=es2)
 (hk:∀S',S' m=some (.map es2)->S' j=some (.row vs 92)->(∀i o,i≠m->S i=some o->S' i=some o)->f S'):AE (.one (.int .u8)) (.yZ m) k (.own j 0 n n) (aL S j (.row vs 92)) f:=by
 have d:m≠j:=fun e=>by rw [<-e,hm]at hj;cases hj
 refine aKe (es:=es) (es2:=es2) (by rw [aC d];exact hm) ha ho he (hk _ aB ?_ fun i o hi e=>?_)
 ·rw [aC (aP d)];exact aB
 ·rw [aC hi,aC (fun c=>by rw [c,hj]at e;cases e)];exact e
theorem aMz (hx:Deep PP bK gM M (n+1) x){k:Nat} (h1:1<=k) (h4:k<=4) (hK:∀j S',bU S S'->S' j=some (.row (qV k) 92)->K (.own j 0 (qN k) (qN k)) S'):x.call GU [n8 k] S K:=by
 refine hx.call aMy fun y hy=>?_;rw [Sn];unfold ZO;intro m hm;have CX:aL S m (.map []) m=some (.map []):=aB;have dL:bU S (aL S m (.map [])):= .aK hm;generalize aL S m (.map [])=S1 at CX dL;refine EE (EE (vB2 rfl rfl rfl rfl fun j1 g1=>?_));refine aE8 (es2:=[(n8 1,.own j1 0 2 2)]) CX g1 (fun e he=>by cases he) rfl rfl fun S2 XL q1 f2=>?_;refine EE (vB1 rfl rfl fun j2 g2=>?_);refine aE8 (es2:=[(n8 1,.own j1 0 2 2),(n8 2,.own j2 0 1 1)]) XL g2 (fun e he=>by simp at he;subst he;rfl) rfl (by simp [OB]) fun S3 hm3 q2 f3=>?_;refine EE (EE (EE (vB3 rfl rfl rfl rfl rfl rfl fun j3 g3=>?_)));refine aE8 (es2:=[(n8 1,.own j1 0 2 2),(n8 2,.own j2 0 1 1),(n8 3,.own j3 0 3 3)]) hm3 g3 (fun e he=>by simp at he;rcases he with rfl | rfl<;>rfl) rfl (by simp [OB]) fun S4 Kc q3 f4=>?_;refine EE (EE (EE (vB3 rfl rfl rfl rfl rfl rfl fun j4 g4=>?_)));refine aE8 (es2:=[(n8 1,.own j1 0 2 2),(n8 2,.own j2 0 1 1),(n8 3,.own j3 0 3 3),(n8 4,.own j4 0 3 3)]) Kc g4 (fun e he=>by simp at he;rcases he with rfl | rfl | rfl<;>rfl) rfl (by simp [OB]) fun S5 hm5 q4 f5=>?_;have nm:∀{j:Nat} {O:Hp} {r:Ob},O j=some r->(∀es,r≠ .map es)->∀{es},O m=some (.map es)->j≠m:=fun hj hr es hm c=>by rw [c,hm]at hj;injection hj with hj;exact hr _ hj.symm
 have p1:S5 j1=some (.row (qV 1) 92):=by
  have d:=nm q1 (fun es c=>by cases c) XL;exact f5 _ _ d (f4 _ _ d (f3 _ _ d q1))
 have p2:S5 j2=some (.row (qV 2) 92):=by
  have d:=nm q2 (fun es c=>by cases c) hm3;exact f5 _ _ d (f4 _ _ d q2)
 have p3:S5 j3=some (.row (qV 3) 92):=by
  have d:=nm q3 (fun es c=>by cases c) Kc;exact f5 _ _ d q3
 have le:bU S S5:=fun i o e=>by
  have d:i≠m:=fun c=>by rw [c,hm]at e;cases e
  exact f5 _ _ d (f4 _ _ d (f3 _ _ d (f2 _ _ d (dL _ _ e))))
 have hk5:k=1\/k=2\/k=3\/k=4:=by omega
 refine Pm hm5 rfl (fun e he=>by simp at he;rcases he with rfl | rfl | rfl | rfl<;>rfl) (fun v hv=>?_) (fun hv=>?_)
 ·rcases hk5 with rfl | rfl | rfl | rfl
  ·have:v= .own j1 0 2 2:=by simpa [WO]using hv.symm
   subst this;exact aM (hK j1 S5 le p1)
  ·have:v= .own j2 0 1 1:=by simpa [WO]using hv.symm
   subst this;exact aM (hK j2 S5 le p2)
  ·have:v= .own j3 0 3 3:=by simpa [WO]using hv.symm
   subst this;exact aM (hK j3 S5 le p3)
  ·have:v= .own j4 0 3 3:=by simpa [WO]using hv.symm
   subst this;exact aM (hK j4 S5 le q4)
 ·exfalso
  rcases hk5 with rfl | rfl | rfl | rfl<;>simp [WO]at hv
end
set_option maxRecDepth 4000
section
variable{M n:Nat}{x:VE}{S:Hp}{K:KV}{cs:List V}{ep:Nat}
theorem aPF:gM vU=none:=rfl
theorem aPG:gM oK=none:=rfl
theorem aPH (hx:Deep PP bK gM M (n+1) x) (ho:cs.all gB=true) (h12:cs[12]? =some (ni ep)) (hK:K (.bool (decide (ep=0))) S):x.call vU [.agg cs] S K:=by
 refine hx.call aPF fun y hy=>?_;rw [Kd];unfold TA;refine cC ho fun b hb=>?_;rw [aY,aZ,cT (o:=12) aB h12,IK];exact bL (.aK hb) hK
theorem aKf (hx:Deep PP bK gM M (n+1) x) (ho:cs.all gB=true) (h12:cs[12]? =some (ni ep)) (hK:K (.bool (decide (0<ep))) S):x.call oK [.agg cs] S K:=by
 refine hx.call aPG fun y hy=>?_;rw [Ke];unfold TB;refine cC ho fun b hb=>?_;rw [aY,aZ,cT (o:=12) aB h12,uX];exact bL (.aK hb) hK
theorem aPI:gM vW=none:=rfl
theorem aPJ:gM vY=none:=rfl
theorem aKg{t:TypeId}{a b:Int}{k:V->Prop}:aJ PP .eql t (.int .i64 a) (.int .i64 b) k=k (.bool (decide (a=b))):=by rw [JV]
theorem aPK (hx:Deep PP bK gM M (n+1) x) (ho:cs.all gB=true) (h12:cs[12]? =some (ni ep)){nx:V}{len:Nat} (h15:cs[15]? =some nx) (hl:∀k:V->Prop,bP nx k=k (ni len)){z:Int} (h19:cs[19]? =some (.int .i64 z))
 (hK:K (.bool (decide (len=0)&&decide (z=ep))) S):x.call vW [.agg cs] S K:=by
 refine hx.call aPI fun y hy=>?_;rw [Kf];unfold TC;refine cC ho fun b hb=>?_;have rb:aL S b (.row cs 86) b=some (.row cs 86):=aB;have le:bU S (aL S b (.row cs 86)):= .aK hb;generalize aL S b (.row cs 86)=S1 at rb le;rw [aY,aZ,cT (o:=15) rb h15,hl,IK];by_cases e:len=0
 ·rw [bI e]at hK ⊢
  simp only [aE,aN,aZ,cT (o:=17+2) rb h19,cT (o:=12+0) rb h12];rw [show(ni ep:V)= .int .i64 (ep:Int)from rfl,aKg,dI];refine bL le ?_;rw [Gc]at hK;exact hK
 ·rw [bO e]at hK ⊢
  simp only [aE,iS];exact bL le hK
theorem aPL (hx:Deep PP bK gM M (n+1) x) (ho:cs.all gB=true) (h12:cs[12]? =some (ni ep)){nx:V}{len:Nat} (h15:cs[15]? =some nx) (hl:∀k:V->Prop,bP nx k=k (ni len)){z:Int} (h19:cs[19]? =some (.int .i64 z))
 (hK:K (.bool (decide (0<len)&&decide (z=ep))) S):x.call vY [.agg cs] S K:=by
 refine hx.call aPJ fun y hy=>?_;rw [Kg];unfold TD;refine cC ho fun b hb=>?_;have rb:aL S b (.row cs 86) b=some (.row cs 86):=aB;have le:bU S (aL S b (.row cs 86)):= .aK hb;generalize aL S b (.row cs 86)=S1 at rb le;rw [aY,aZ,cT (o:=15) rb h15,hl,uX];by_cases e:0<len
 ·rw [bI e]at hK ⊢
  simp only [aE,aN,aZ,cT (o:=17+2) rb h19,cT (o:=12+0) rb h12];rw [show(ni ep:V)= .int .i64 (ep:Int)from rfl,aKg,dI];refine bL le ?_;rw [Gc]at hK;exact hK
 ·rw [bO e]at hK ⊢
  simp only [aE,iS];exact bL le hK
theorem aPM:gM vV=none:=rfl
theorem aE9{b:Nat}{t:TypeId}{two:Bool} (rb:S b=some (.row cs t)) (hp:cs.take 12=pv two){K:KV}:bR 12 (.ptr b 0) S K=K (.agg (pv two)) S:=by
 have hl:12<=cs.length:=by
  have:=jY List.length hp;rw [mU,BR]at this;omega
 rw [tE rb,dR (by omega),xO,hp]
theorem aPN{two:Bool}{S0:Hp} (hM:1000000<M) (hx:Deep PP bK gM M (n+12) x) (ho:cs.all gB=true) (hp:cs.take 12=pv two){v:V} (h21:cs[21]? =some v){l:List (List Nat)} (h:RL S0 S v l) (TV:∀c∈l,LC c)
 (hK:K (.bool (AV l)) S):x.call vV [.agg cs] S K:=by
 refine hx.call aPM fun y hy=>?_;rw [Kh];unfold TE;refine cC ho fun b hb=>?_;have rb:aL S b (.row cs 86) b=some (.row cs 86):=aB;have le:bU S (aL S b (.row cs 86)):= .aK hb;generalize aL S b (.row cs 86)=S1 at rb le;rw [aY,aE9 rb hp,aY,aZ,cT (o:=17+4) rb h21];refine Pf (two:=two) hM hy (h.up le) TV ?_;exact bL le hK
end
end Go.Am
set_option maxRecDepth 4000
namespace Go.Am
def kW (l:List Int):List Dt:=l.map (Dt.int .i64)
def zvs (l:List Int):List V:=l.map (V.int .i64)
theorem EB (l:List Int):(kW l).length=l.length:=mE _
theorem aFa (l:List Int):(zvs l).length=l.length:=mE _
theorem Zf (l:List Int):(zvs l).all gB=true:=by rw [HZ];intro v hv;obtain⟨n,_,rfl⟩:=List.mem_map.1 hv;rfl
theorem aDD (O:Tag) (l:List Int):∀o,Tl O o (kW l)=zvs l:=by
 induction l with
 | nil=>intro o;rfl
 | cons a l ih=>intro o;show T (.sub O o) (.int .i64 a)::Tl O (o+1) (kW l)=_;rw [ih];rfl
inductive ZC (S S':Hp):V->List Int->Prop
 | nil:ZC S S' .nil []
 | own {j:Nat}:ZC S S' (.own j 0 0 0) []
 | acc {i:Nat} {l:List Int} (h0:S i=none) (hl:0<l.length) (h:S' i=some (.gD (zvs l) 3 l.length)):ZC S S' (.acc i l.length) l
section
variable{M n:Nat}{x:VE}{S:Hp}{K:KV}
theorem aBV:gM dE=none:=rfl
theorem XW:Dx PP 32=some .slice:=by kernel_rfl
theorem aKh (hx:Deep PP bK gM M (n+1) x){O:Tag}{l:List Int} (hl:l.length<1000000) (hK:∀w S',bU S S'->ZC S S' w l->K w S'):x.call dE [.list O (kW l) l.length] S K:=by
 refine hx.call aBV fun y hy=>?_;rw [xE];unfold pB
 have rest:(aS 3 0 [(.int .i64 (.ofNat 0))] [] S fun v1 S=>jW 3 1 8 v1 (.list O (kW l) l.length) S fun v2 S=>bF v2 S K):=by
  intro j hj;have hle:bU S (aL S j (.row [] 3)):= .aK hj;show jW 3 1 8 (.own j 0 0 0) (.list O (kW l) l.length) (aL S j (.row [] 3)) _;refine⟨by rw [EB];omega,?_⟩;rw [mC (by rw [EB];omega),aDD];cases hl0:l.length with
  | zero=>
   have e0:l=[]:=sB hl0;subst e0;exact⟨bQ _,aM (hK _ _ hle .own)⟩
  | succ q=>
   refine⟨Zf l,?_⟩;simp only [aB];refine⟨by omega,by simp,fun c=>bC c (by omega),fun _ i hi=>?_⟩;have e2:(List.take (0*1) (List.drop 0 ([]:List V)))++zvs l=zvs l:=by simp
   rw [e2,show 0+(q+1)=l.length by omega];exact aM (hK _ _ (hle.trans (.aK hi)) (.acc (hle.none hi) (by omega) aB))
 cases l with
 | nil=>exact⟨XW,aM (hK _ _ (.refl S) .nil),rest⟩
 | cons a l=>exact⟨rfl,XW,.inr rfl,(fun e=>by cases e),rest⟩
end
set_option maxRecDepth 4000
section
variable{M n:Nat}{x:VE}{S S0:Hp}{K:KV}{w:V}{l:List Int}
theorem aMA (hx:Deep PP bK gM M (n+1) x) (h:ZC S0 S w l) (hs:bU S0 S) (hl:l.length<1000000) (hK:∀S',bU S0 S'->ZC S0 S' w (FT l)->(∀j,(∀m,w≠ .acc j m)->S' j=S j)->K (.tuple []) S'):x.call lI [w] S K:=by
 have e0:FT []=[]:=by unfold FT;simp
 cases h with
 | nil=>exact hx.IL (g:=Ha) rfl (.inl ⟨rfl,hK S hs (by rw [e0];exact .nil) fun _ _=>rfl⟩)
 | @own j=>exact hx.IL (g:=Ha) rfl (.inr (.inl ⟨j,0,0,rfl,hK S hs (by rw [e0];exact .own) fun _ _=>rfl⟩))
 | @acc i _ h0 hp h=>
  refine hx.IL (g:=Ha) rfl (.inr (.inr ⟨i,l,rfl,hp,h,hl,hK _ (fun q o e=>?_) ?_ fun q hq=>aC fun c=>by subst c;exact hq _ rfl⟩))
  ·rw [aC (fun c=>by rw [c,h0]at e;cases e)];exact hs q o e
  ·have el:(FT l).length=l.length:=OX l
   have:=ZC.acc (l:=FT l) h0 (by omega) (S':=aL S i (.gD (zvs (FT l)) 3 l.length)) (by rw [el];exact aB);rw [el]at this;exact this
end
set_option maxRecDepth 4000
section
variable{M n:Nat}{x:VE}{S:Hp}{K:KV}{two:Bool}
theorem aFb:gM eQ=none:=rfl
theorem aKi:gM iO=none:=rfl
theorem aMB{O:Tag}{l:List Int} (hl:l.length<1000000){f:V}{p:Int->Bool}
 (hf:∀a∈l,∀K:KV,K (.bool (p a)) S->mH x f [.int .i64 a] S K) (hT:l.any p=true->∀j:Nat,K (ni j) S) (hF:l.any p=false->K (.int .i64 (.negSucc 0)) S):
 ∀(r i m:Nat),i+r=l.length->r<m->(l.drop i).any p=l.any p->fQ x m (.list O (kW l) l.length) f (ni l.length) (ni i) S K:=by
 intro r;induction r with
 | zero=>
  intro i m hi hm he;obtain⟨m,rfl⟩:=bH (show m≠0 by omega);rw [dS];unfold cU;refine aF ?_;rw [aQ,jM (by omega),bE];rw [oW (by omega)]at he;exact aM (hF he.symm)
 | succ r ih=>
  intro i m hi hm he;obtain⟨m,rfl⟩:=bH (show m≠0 by omega);rw [dS];unfold cU;refine aF ?_;have hlt:i<l.length:=by omega
  have QA:(kW l)[i*1]? =some (.int .i64 l[i]):=by rw [kX];unfold kW;rw [eH,aT hlt];rfl
  rw [aQ,zJ hlt,bW,jL hlt,yA,cX QA];refine hf l[i] (cO hlt) _ ?_;rw [mB hlt,List.any_cons]at he;cases hp:p l[i]with
  | true=>
   rw [hp,Bool.true_or]at he;rw [bW];exact aM (hT he.symm i)
  | false=>
   rw [hp,Ad]at he;rw [bE,bG (by omega)];exact ih (i+1) m (by omega) (by omega) he
theorem aMC (hM:1000000<M) (hx:Deep PP bK gM M (n+2) x){O:Tag}{l:List Int} (hl:l.length<1000000){c:FuncId}{cs:List V}{p:Int->Bool}
 (hf:∀y,Deep PP bK gM M n y->∀a∈l,∀K:KV,K (.bool (p a)) S->y.call c (.int .i64 a::cs) S K) (hK:K (.bool (l.any p)) S):x.call eQ [.list O (kW l) l.length,.func c [] cs] S K:=by
 refine hx.call aFb fun y hy=>?_;rw [qD];unfold kN;refine hy.call aKi fun u hu=>?_;rw [sR];unfold mJ;rw [show ∀k:V->Prop,bP (.list O (kW l) l.length) k=k (ni l.length)from fun _=>rfl,hu.most];refine aMB (x:=u) (f:= .func c [] cs) hl (p:=p) (fun a ha K hk=>hf u hu a ha K hk) (fun e j=>?_) (fun e=>?_) l.length 0 M (by omega) (by omega) rfl
 ·rw [e]at hK
  rw [zX];exact aM (by rw [bI (zT j)];exact hK)
 ·rw [e]at hK
  rw [CH];exact aM hK
end
set_option maxRecDepth 4000
section
variable{M n:Nat}{x:VE}{S:Hp}{K:KV}{two:Bool}
theorem aMG:gM sY=none:=rfl
theorem aDE{t:TypeId}{a b:Int}{k:V->Prop}:aJ PP .lss t (.int .i64 a) (.int .i64 b) k=k (.bool (decide (a<b))):=by rw [rK]
theorem Zg{t:TypeId}{a b:Int}{k:V->Prop}:aJ PP .gtr t (.int .i64 a) (.int .i64 b) k=k (.bool (decide (b<a))):=by rw [OY]
theorem aMH (hx:Deep PP bK gM M (n+1) x){z:Int}{b:Nat} (rb:S b=some (.row (pv two) 29)) (hK:K (.bool (decide (z<1) || decide (5<z))) S):x.call sY [.int .i64 z,.ptr b 0] S K:=by
 refine hx.call aMG fun y hy=>?_;rw [YL];unfold JA;rw [aDE];by_cases e:z<1
 ·rw [show decide (z<Int.ofNat 1)=true from bI e]
  rw [bI e]at hK;simp only [aE,sH];exact aM hK
 ·rw [show decide (z<Int.ofNat 1)=false from bO e]
  rw [bO e,Ad]at hK;simp only [aE,aN,aY,cT (o:=4) rb rfl];rw [show(ni (tM two):V)= .int .i64 5 from rfl,Zg,dJ];exact aM hK
end
set_option maxRecDepth 4000
def ints (l:List Int):List V:=l.map (V.int .i64)
def PT (l:List Int):List Dt:=l.map (Dt.int .i64)
theorem LX (l:List Int):(ints l).length=l.length:=by simp [ints]
theorem XX (l:List Int):(PT l).length=l.length:=by simp [PT]
theorem Qg{l:List Int}{p:Nat} (h:p<l.length):l.getD p 0=l[p]:=by rw [BG,aT h];rfl
theorem PU{l:List Int}{p:Nat} (h:p<l.length):(ints l)[p]? =some (.int .i64 (l.getD p 0)):=by
 unfold ints;rw [eH,aT h,Qg h];rfl
theorem ints_set (l:List Int) (p:Nat) (z:Int):(ints l).set p (.int .i64 z)=ints (l.set p z):=by
 unfold ints;rw [List.map_set]
def kp (zs:List Int) (j:Nat):Bool:=decide (j=0) || !decide (zs.getD j 0=zs.getD (j-1) 0)
def dq (zs:List Int):Nat->List Int
 | 0=>[]
 | j+1=>if kp zs j then dq zs j++[zs.getD j 0]else dq zs j
def dd (zs:List Int):List Int:=dq zs zs.length
theorem aFc{zs:List Int}{j:Nat} (h0:0<j) (h:zs.getD j 0=zs.getD (j-1) 0):dq zs (j+1)=dq zs j:=by
 conv=>lhs;unfold dq
 rw [show kp zs j=false by unfold kp;rw [bO (by omega),bI h];rfl];rfl
theorem aKj{zs:List Int}{j:Nat} (h:¬zs.getD j 0=zs.getD (j-1) 0):dq zs (j+1)=dq zs j++[zs.getD j 0]:=by
 conv=>lhs;unfold dq
 rw [show kp zs j=true by unfold kp;rw [bO h];simp];rfl
theorem aPP (zs:List Int):∀j,(dq zs j).length<=j:=by
 intro j;induction j with
 | zero=>exact bQ _
 | succ j ih=>
  unfold dq;split
  ·rw [kI];simp;exact ih
  ·omega
theorem aKk{i:Nat} (h:0<i) (h2:i<4611686018427387904):sM .i64 (Int.ofNat i-Int.ofNat 1)=Int.ofNat (i-1):=by
 rw [wrap_small]<;>simp<;>omega
theorem aKl{S S':Hp}{i:Nat}{o:Ob} (h:bU S' S) (e:S' i=none):bU S' (aL S i o):=fun j q hq=>by
 by_cases hj:j=i
 ·subst hj;rw [e]at hq;cases hq
 ·rw [aC hj];exact h j q hq
section
variable{x:VE}{K:KV}{zs:List Int}{i n:Nat}{S':Hp}
theorem aR0 (hn:zs.length=n) (hM:n<x.most) (hb:n<1000000000) (hs:S' i=none) (hk:∀O,K (.list O (PT (dd zs)) (dd zs).length) S') (m0:Nat){k:Nat} (k1:1<=k):
 ∀(m k2 kk:Nat) (S:Hp) (cur:List Int),bU S' S->S i=some (.gD (ints cur) 3 n)->cur.length=n->1<=k2->k+k2<=n->n<=k+k2+m->kk=(dq zs (k+k2)).length->kk<k+k2->cur.take kk=dq zs (k+k2)->cur.drop (k+k2-1)=zs.drop (k+k2-1)->
  dP x (m+1) m0 (.acc i n) (.int .i64 (.ofNat kk)) (.HW i n (k*1) (n-k) (n-k)) (.int .i64 (.ofNat k2)) S K:=by
 have fin:∀(k2 kk:Nat) (S:Hp) (cur:List Int),bU S' S->S i=some (.gD (ints cur) 3 n)->cur.length=n->k+k2=n->kk=(dq zs (k+k2)).length->kk<k+k2->cur.take kk=dq zs (k+k2)->
  (LG 3 1 (.acc i n) (some (.int .i64 (.ofNat kk))) none none S fun v12=>Bj [(.int .i64 (.ofNat 0))] v12 S fun S=>LG 3 1 (.acc i n) none (some (.int .i64 (.ofNat kk))) none S fun qE=>bF qE S K):=by
  intro k2 kk S cur hle hi hc vO e1 e2 e3;refine Xv hi (by omega) ?_;refine aDd hi rfl (by omega) (by simp [LX];omega) ?_;refine aMb aB (by omega) (by omega) ?_;have e4:dq zs (k+k2)=dd zs:=by rw [vO,<-hn];rfl
  rw [e4]at e1 e3;have e5:(dd zs).length=kk:=e1.symm;refine⟨S',fun O=> .list (O 0) (PT (dd zs)) kk,aKl hle hs,fun O=> .one (.ZG (.HW (cs:=PT (dd zs)) aB hs (by omega) ?_ ?_)),fun O=>by rw [<-e5];exact hk _⟩
  ·rw [XX,e5];unfold bA;simp [LX];omega
  ·intro j v d h1 h2
   have hj:j<kk:=by have:=(List.getElem?_eq_some_iff.1 h2).1;rw [XX]at this;omega
   have h3:(ints cur)[j]? =some v:=by
    unfold bA at h1;rw [eJ,BH,gO (by rw [mU,LX];omega),sC,aO (by omega)]at h1;exact h1
   rw [PU (by omega)]at h3;injection h3 with h3;subst h3;unfold PT at h2;rw [eH,<-e3,sC,aO hj,aT (by omega)]at h2;injection h2 with h2;subst h2;rw [Qg (by omega)];exact .int
 intro m;induction m with
 | zero=>
  intro k2 kk S cur hle hi hc h2 Ze hm e1 e2 e3 e4;rw [kA];unfold fH;refine aF ?_;rw [Ut,rK,Pl,aG (by simp;omega)];exact fin k2 kk S cur hle hi hc (by omega) e1 e2 e3
 | succ m ih=>
  intro k2 kk S cur hle hi hc h2 Ze hm e1 e2 e3 e4;rw [kA];unfold fH;refine aF ?_;rw [Ut,rK,Pl];by_cases hlt:k2<n-k
  ·have cell:∀p,k+k2-1<=p->p<n->cur.getD p 0=zs.getD p 0:=by
    intro p h1 h3;have:=jY (fun l:List Int=>l.getD (p-(k+k2-1)) 0) e4;simp only [BG,qY]at this;rw [show k+k2-1+(p-(k+k2-1))=p by omega]at this;simpa [BG]using this
   rw [aO (by simp;omega),Pn hlt];refine aBu hi (PU (by omega)) ?_;rw [Hc,aKk (by omega) (by omega),Pn (by omega)];refine aBu hi (PU (by omega)) ?_;rw [OZ,Pl];have c1:cur.getD (k*1+k2*1) 0=zs.getD (k+k2) 0:=by rw [show k*1+k2*1=k+k2 by omega];exact cell _ (by omega) (by omega)
   have c2:cur.getD (k*1+(k2-1)*1) 0=zs.getD (k+k2-1) 0:=by rw [show k*1+(k2-1)*1=k+k2-1 by omega];exact cell _ (by omega) (by omega)
   rw [c1,c2]
   have next:∀(S2:Hp) (aGL:List Int) (kk2:Nat),bU S' S2->S2 i=some (.gD (ints aGL) 3 n)->aGL.length=n->kk2=(dq zs (k+(k2+1))).length->kk2<k+(k2+1)->aGL.take kk2=dq zs (k+(k2+1))->aGL.drop (k+k2)=zs.drop (k+k2)->dA x m0 (m+1) (.acc i n) (.int .i64 (.ofNat kk2)) (.HW i n (k*1) (n-k) (n-k)) (.int .i64 (.ofNat k2)) S2 K:=by
    intro S2 aGL kk2 q1 q2 q3 q4 q5 q6 q7;rw [qS x (by omega)];unfold eW;refine aF ?_;rw [JW,aDc (by omega)];exact ih (k2+1) kk2 S2 aGL q1 q2 q3 (by omega) (by omega) (by omega) q4 q5 q6 (by rw [show k+(k2+1)-1=k+k2 by omega];exact q7)
   have hd1:cur.drop (k+k2)=zs.drop (k+k2):=by
    have:=jY (List.drop 1) e4
    rwa [Ac,Ac,show k+k2-1+1=k+k2 by omega]at this
   have hz:¬k+k2=0:=by omega
   by_cases hd:zs.getD (k+k2) 0=zs.getD (k+k2-1) 0
   ·rw [aG (by simp only [hd];simp)]
    have e5:dq zs (k+(k2+1))=dq zs (k+k2):=aFc (show 0<k+k2 by omega) hd;exact next S cur kk hle hi hc (by rw [e5];exact e1) (by omega) (by rw [e5];exact e3) hd1
   ·rw [aO (by rw [bO hd];rfl),Pn hlt]
    refine aBu hi (PU (by omega)) ?_;rw [c1,KZ (by omega),kX];refine aRA hi rfl (by rw [LX];omega) ?_;rw [FU (by rw [LX];omega),ints_set,JW,aDc (show kk<4611686018427387904 by have:=aPP zs (k+k2);omega)];have e5:dq zs (k+(k2+1))=dq zs (k+k2)++[zs.getD (k+k2) 0]:=aKj hd;refine next _ _ (kk+1) (aKl hle hs) aB (by simp;omega) (by rw [e5,kI,<-e1];rfl) (by omega) ?_ ?_
    ·rw [e5,<-e3]
     apply xM;intro p;rw [sC];by_cases h1:p<kk
     ·rw [aO (by omega),HX (by omega),gO (by rw [mU];omega),sC,aO h1]
     ·by_cases h3:p=kk
      ·subst h3
       rw [aO (by omega),UB (by omega),kH (by rw [mU];omega),mU];rw [show p-min p cur.length=0 by omega];rfl
      ·rw [aG (by omega),FC (by simp;omega)]
    ·rw [List.drop_set_of_lt (by omega)];exact hd1
  ·rw [aG (by simp;omega)]
   exact fin k2 kk S cur hle hi hc (by omega) e1 e2 e3
theorem aR1 (hn:zs.length=n) (hM:n<x.most) (hb:n<1000000000) (hs:S' i=none) (hk:∀O,K (.list O (PT (dd zs)) (dd zs).length) S'){S:Hp} (hle:bU S' S) (hi:S i=some (.gD (ints zs) 3 n)):
 ∀(m k:Nat),1<=k->k<=n->n<=k+m->dq zs k=zs.take k->fY x (m+1) (.acc i n) (.int .i64 (.ofNat k)) S K:=by
 have fin:∀k,n=k->dq zs k=zs.take k->bF (.acc i n) S K:=by
  intro k h1 h2;subst h1;have e4:dd zs=zs:=by unfold dd;rw [hn,h2,<-hn,List.take_length]
  refine⟨S',fun O=> .list (O 0) (PT zs) n,hle,fun O=> .one (.ZG (.acc hi hs (by rw [LX,XX]) ?_)),fun O=>by have:=hk (O 0);rwa [e4,hn]at this⟩;intro j v d h3 h4;unfold ints at h3;unfold PT at h4;rw [eH]at h3 h4;cases hq:zs[j]? with
  | none=>rw [hq]at h3;cases h3
  | some z=>rw [hq]at h3 h4;injection h3 with h3;injection h4 with h4;subst h3 h4;exact .int
 intro m;induction m with
 | zero=>
  intro k h1 h2 h3 h4;rw [oT];unfold jP;refine aF ?_;rw [Hm,rK,Pl,aG (by simp;omega)];exact fin k (by omega) h4
 | succ m ih=>
  intro k h1 h2 h3 h4;rw [oT];unfold jP;refine aF ?_;rw [Hm,rK,Pl];by_cases hlt:k<n
  ·rw [aO (by simp;omega),KZ hlt]
   refine aBu hi (PU (by omega)) ?_;rw [Hc,aKk (by omega) (by omega),KZ (by omega)];refine aBu hi (PU (by omega)) ?_;rw [JV,Pl,kX,kX];have hz:¬k=0:=by omega
   by_cases hd:zs.getD k 0=zs.getD (k-1) 0
   ·rw [aO (by simp only [hd];simp)]
    refine Xv hi hlt ?_;obtain⟨p,hp⟩:=bH (show x.most≠0 by omega);rw [hp];have e5:dq zs (k+1)=zs.take k:=(aFc (by omega) hd).trans h4;have e6:(dq zs (k+1)).length=k:=by rw [e5,mU];omega
    exact aR0 hn hM hb hs hk (m+1) h1 p 1 k S zs hle hi hn (bQ _) (by omega) (by omega) e6.symm (by omega) e5.symm rfl
   ·rw [aG (by rw [bO hd];simp),JW,aDc (by omega)]
    refine ih (k+1) (by omega) (by omega) (by omega) ?_;rw [aKj hd,KA,aT (by omega),h4,Qg (by omega)];rfl
  ·rw [aG (by simp;omega)]
   exact fin k (by omega) h4
end
section
variable{ov:OvV}{M d i n:Nat}{x:VE}{S S':Hp}{K:KV}{zs:List Int}
theorem aGM (hf:ov cW=none) (hx:Deep PP bK ov M (d+1) x) (hn:zs.length=n) (hM:n<M) (hb:n<1000000000) (hs:S' i=none) (hle:bU S' S) (h1:1<=n) (hi:S i=some (.gD (ints zs) 3 n)) (hk:∀O,K (.list O (PT (dd zs)) (dd zs).length) S'):x.call cW [.acc i n] S K:=by
 refine hx.call hf fun y hy=>?_;rw [HN];unfold uM;have hm:y.most=M:=hy.most;rw [Hm,rK,Pl]
 have one:dq zs 1=zs.take 1:=by
  cases zs with
  | nil=>simp at hn;omega
  | cons a l=>rfl
 by_cases h2:n<2
 ·rw [aO (by simp;omega)]
  have e:n=1:=by omega
  subst e;have e4:dd zs=zs:=by unfold dd;rw [hn,one,<-hn,List.take_length]
  refine⟨S',fun O=> .list (O 0) (PT zs) 1,hle,fun O=> .one (.ZG (.acc hi hs (by rw [LX,XX]) ?_)),fun O=>by have:=hk (O 0);rwa [e4,hn]at this⟩;intro j v d h3 h4;unfold ints at h3;unfold PT at h4;rw [eH]at h3 h4;cases hq:zs[j]? with
  | none=>rw [hq]at h3;cases h3
  | some z=>rw [hq]at h3 h4;injection h3 with h3;injection h4 with h4;subst h3 h4;exact .int
 ·rw [aG (by simp;omega)]
  obtain⟨p,hp⟩:=bH (show y.most≠0 by omega);rw [hp];exact aR1 hn (by omega) hb hs hk hle hi p 1 (bQ _) h1 (by omega) one
end
set_option maxRecDepth 4000
def LL (l:List Int):Bool:=decide (l.length=4)&&(decide ((dd (FT l)).length=4)&& !(l.any fun z=>decide (z<1) || decide (5<z)))
section
variable{M n:Nat}{x:VE}{S:Hp}{K:KV}{two:Bool}
theorem aPQ:gM oI=none:=rfl
theorem aC7 (hM:1000000<M) (hx:Deep PP bK gM M (n+4) x){O:Tag}{l:List Int} (hl:l.length<1000000) (hK:K (.bool (LL l)) S):x.call oI [.agg (pv two),.list O (kW l) l.length] S K:=by
 refine hx.call aPQ fun y hy=>?_;rw [Fa];unfold NG;refine cC jN fun b hb=>?_;have dL:bU S (aL S b (.row (pv two) 29)):= .aK hb;have rb:aL S b (.row (pv two) 29) b=some (.row (pv two) 29):=aB;generalize aL S b (.row (pv two) 29)=S1 at dL rb;refine aKh hy hl fun w S2 fO hw=>?_;refine aMA hy hw fO hl fun S3 pR hw3 _=>?_;have Fs:=pR _ _ rb;have l5:∀{K:KV},aW (.ptr b 5) S3 K=K (ni 4) S3:=cT Fs rfl;rw [show ∀k:V->Prop,bP (.list O (kW l) l.length) k=k (ni l.length)from fun _=>rfl,aY,l5,IK];by_cases e:l.length=4
 ·rw [bI e]
  simp only [aE,aN,aY,l5];have es:(FT l).length=4:=by rw [OX];exact e
  have ec:LL l=(decide ((dd (FT l)).length=4)&& !(l.any fun z=>decide (z<1) || decide (5<z))):=by unfold LL;rw [bI e];rfl
  rw [ec]at hK;clear ec;generalize FT l=zs at hw3 es hK;cases hw3 with
  | nil=>simp at es
  | own=>simp at es
  | @acc i _ h0 hp h=>
   refine aGM (zs:=zs) (n:=zs.length) (S':=S1) rfl hy rfl (by omega) (by omega) h0 pR hp h fun t2=>?_;have l5':∀{K:KV},aW (.ptr b 5) S1 K=K (ni 4) S1:=cT rb rfl;simp only [iL,l5',cE];rw [show ∀k:V->Prop,bP (.list t2 (PT (dd zs)) (dd zs).length) k=k (ni (dd zs).length)from fun _=>rfl,IK,dI];by_cases e2:(dd zs).length=4
   ·rw [bI e2]at hK ⊢
    simp only [aN];refine aMC (n:=n+1) hM hy hl (p:=fun z=>decide (z<1) || decide (5<z)) (fun u hu a ha K hk=>aMH (two:=two) hu rb hk) ?_;simp only [l5',cE];refine bL dL ?_;rw [Gc]at hK;exact hK
   ·rw [bO e2]at hK ⊢
    simp only [iS,l5',cE,dJ];exact bL dL hK
 ·have ec:LL l=false:=by unfold LL;rw [bO e];rfl
  rw [ec]at hK;rw [bO e];simp only [aE,iS,dJ,kM,cE,l5];refine bL (dL.trans pR) hK
end
set_option maxRecDepth 100000
def kT (x:VE) (m:Nat) (t2 t6 t7 t32 t33 t34:V) (S:Hp) (K:KV):Prop:=dW PP bK vH x [.r,.r,.r,.r,.l,.r,.d] m [] [t2,t6,t7,t32,t33,t34] S K
def iI (x:VE) (m:Nat) (t2 t7 t11 t13 t14 t15 t78 t79:V) (S:Hp) (K:KV):Prop:=dW PP bK vH x [.r,.r,.r,.r,.r,.r,.r,.r,.r,.r,.r,.l,.r,.d] m [] [t2,t7,t11,t13,t14,t15,t78,t79] S K
def fJ (x:VE) (m:Nat) (m0:Nat) (t2 t7 t11 t13 t14 t15 t16 t17 t78 t79 t84 t85:V) (S:Hp) (K:KV):Prop:=dW PP bK vH x [.r,.r,.r,.r,.r,.r,.r,.r,.r,.r,.r,.l,.r,.d,.d,.r,.r,.l,.d,.r,.r,.l,.r,.d] m [m0] [t2,t7,t11,t13,t14,t15,t16,t17,t78,t79,t84,t85] S K
def Fk (x:VE) (a0 a1:V) (S:Hp) (K:KV):Prop:=
 iG 29 a0 S fun v0 S=>
 bR 12 v0 S fun v1 S=>
 x.call GV [v1] S fun v2 S=>
 SP .not v2 fun v3=>
 aI x.most (aH false v3 (fun k=>aV 6 v0 fun v4=>k v4 S) S fun v5 S=>aI x.most (aH false v3 (fun k=>aW v5 S fun v6 S=>k v6 S) S fun v7 S=>aI x.most (aH false v3 (fun k=>aJ PP .lss 3 v7 (.int .i64 (.ofNat 0)) fun v8=>k v8 S) S fun v9 S=>aI x.most (fK v3 (.bool true) v9 fun v10=>aI x.most (aH false v10 (fun k=>aV 6 v0 fun v11=>k v11 S) S fun v12 S=>aI x.most (aH false v10 (fun k=>aW v12 S fun qE S=>k qE S) S fun qU S=>aI x.most (aH false v10 (fun k=>aJ PP .gtr 3 qU (.int .i64 (.ofNat 2)) fun wI=>k wI S) S fun wJ S=>aI x.most (fK v10 (.bool true) wJ fun wH=>iR wH (bF (.tuple [.nil,(.int .i64 (.ofNat 1))]) S K) (bP a1 fun vC=>kT x x.most v0 .nil .nil a1 vC (.int .i64 (.ofNat 0)) S K)))))))))
theorem Zm (x:VE) (a0 a1:V) (S:Hp) (K:KV):jX PP bK vH x [a0,a1] S K=Fk x a0 a1 S K:=by kernel_rfl
def wW (x:VE) (m0:Nat) (t2 t6 t7 t32 t33 t34:V) (S:Hp) (K:KV):Prop:=
 cR S fun S=>
 aJ PP .lss 3 t34 t33 fun v0=>
 iR v0 (cV 2 t32 t34 fun v1=>bR 2 v1 S fun v2 S=>dQ [(.int .i64 (.ofNat 0)),(.slice none 0 0)] 68 S fun v3 S=>nI 2 v3 v2 S fun S=>aV 1 v3 fun v4=>aW v4 S fun v5 S=>bP v5 fun v6=>bR 12 t2 S fun v7 S=>x.call vZ [v7] S fun v8 S=>aW v4 S fun v9 _=>aU v9 v5 (aJ PP .neq 3 v6 v8 fun v10=>aI x.most (aH false v10 (fun k=>aV 1 v3 fun v11=>k v11 S) S fun v12 S=>aI x.most (aH false v10 (fun k=>aW v12 S fun qE S=>k qE S) S fun qU S=>aI x.most (aH false v10 (fun k=>k (.func EG [] [t2]) S) S fun wI S=>aI x.most (aH false v10 (fun k=>x.call cH [qU,wI] S fun wJ S=>k wJ S) S fun wH S=>aW v4 S fun vC _=>aU vC v5 (aI x.most (fK v10 (.bool true) wH fun yI=>iR yI (bF (.tuple [.nil,(.int .i64 (.ofNat 1))]) S K) (aV 0 v3 fun v20=>aW v20 S fun v21 S=>aV 1 v3 fun JC=>aW JC S fun GC S=>aW JC S fun v24 _=>aU v24 GC (aW v20 S fun OD _=>aU OD v21 ((aS 3 1 [(.int .i64 (.ofNat 0))] [(0,1,v21)] S fun SZ S=>True)/\((aS 33 1 [(.slice none 0 0)] [(0,1,GC)] S fun ZE S=>True)/\(aS 3 1 [(.int .i64 (.ofNat 0))] [(0,1,v21)] S fun v28 S=>jW 3 1 8 t6 v28 S fun v29 S=>aW JC S fun v30 _=>aU v30 GC (aW JC S fun v31 _=>aU v31 GC ((aS 33 1 [(.slice none 0 0)] [(0,1,GC)] S fun Sr S=>True)/\(aS 33 1 [(.slice none 0 0)] [(0,1,GC)] S fun Lr S=>jW 33 1 24 t7 Lr S fun Fd S=>aJ PP .add 3 t34 (.int .i64 (.ofNat 1)) fun Qk=>kT x m0 t2 v29 Fd t32 t33 Qk S K)))))))))))))))) (x.call BF [t6] S fun Cb S=>SP .not Cb fun v37=>iR v37 (bF (.tuple [.nil,(.int .i64 (.ofNat 1))]) S K) (aV 1 t2 fun Bt=>aW Bt S fun Jj S=>x.call wA [t6,Jj] S fun v40 S=>vB 0 v40 fun XY=>vB 1 v40 fun Rb=>aJ PP .neq 46 Rb (.int .i64 (.ofNat 0)) fun Uz=>iR Uz (bF (.tuple [.nil,Rb]) S K) (bR 12 t2 S fun v44 S=>x.call vZ [v44] S fun Ql S=>iI x x.most t2 t7 XY (.func iU [] [t2]) (.func iV [] [t2]) .nil Ql (.int .i64 (.ofNat 0)) S K)))
theorem FB (x:VE) (m0:Nat) (t2 t6 t7 t32 t33 t34:V) (S:Hp) (K:KV):kT x (m0+1) t2 t6 t7 t32 t33 t34 S K=wW x m0 t2 t6 t7 t32 t33 t34 S K:=by kernel_rfl
def oL (x:VE) (m0:Nat) (t2 t7 t11 t13 t14 t15 t78 t79:V) (S:Hp) (K:KV):Prop:=
 cR S fun S=>
 aJ PP .lss 3 t79 t78 fun v0=>
 iR v0 (aV 6 t2 fun v1=>aW v1 S fun v2 S=>aJ PP .add 3 v2 (.int .i64 (.ofNat 1)) fun v3=>fJ x x.most m0 t2 t7 t11 t13 t14 t15 t79 .nil t78 t79 v3 (.int .i64 (.ofNat 0)) S K) (bF (.tuple [t15,(.int .i64 (.ofNat 0))]) S K)
theorem wE (x:VE) (m0:Nat) (t2 t7 t11 t13 t14 t15 t78 t79:V) (S:Hp) (K:KV):iI x (m0+1) t2 t7 t11 t13 t14 t15 t78 t79 S K=oL x m0 t2 t7 t11 t13 t14 t15 t78 t79 S K:=by kernel_rfl
def fG (x:VE) (m1:Nat) (m0:Nat) (t2 t7 t11 t13 t14 t15 t16 t17 t78 t79 t84 t85:V) (S:Hp) (K:KV):Prop:=
 cR S fun S=>
 aJ PP .lss 3 t85 t84 fun v0=>
 iR v0 (bR 12 t2 S fun v1 S=>x.call iM [t7,t16] S fun v2 S=>bR 12 t2 S fun v3 _=>aU v3 v1 (x.call mZ [v2,t85] S fun v4 S=>bR 12 t2 S fun v5 _=>aU v5 v1 (x.call lG [v1,.nil] S fun v6 S=>x.call lP [v4,t11,v6,t13,t14] S fun v7 S=>(aS 22 1 [(.int .u64 (.ofNat 0))] [(0,1,v7)] S fun v8 S=>True)/\(aS 22 1 [(.int .u64 (.ofNat 0))] [(0,1,v7)] S fun v9 S=>jW 22 1 8 t17 v9 S fun v10 S=>aJ PP .add 3 t85 (.int .i64 (.ofNat 1)) fun v11=>fJ x m1 m0 t2 t7 t11 t13 t14 t15 t16 v10 t78 t79 t84 v11 S K)))) (aS 51 1 [(.slice none 0 0)] [(0,1,t17)] S fun v12 S=>jW 51 1 24 t15 v12 S fun qE S=>aJ PP .add 3 t79 (.int .i64 (.ofNat 1)) fun qU=>iI x m0 t2 t7 t11 t13 t14 qE t78 qU S K)
theorem iY (x:VE) (m1:Nat) (m0:Nat) (t2 t7 t11 t13 t14 t15 t16 t17 t78 t79 t84 t85:V) (S:Hp) (K:KV):fJ x (m1+1) m0 t2 t7 t11 t13 t14 t15 t16 t17 t78 t79 t84 t85 S K=fG x m1 m0 t2 t7 t11 t13 t14 t15 t16 t17 t78 t79 t84 t85 S K:=by kernel_rfl
def WV (x:VE) (a0 a1:V) (S:Hp) (K:KV):Prop:=
 bP a0 fun v0=>
 aV 6 a1 fun v1=>
 aW v1 S fun v2 S=>
 aJ PP .add 3 v2 (.int .i64 (.ofNat 1)) fun v3=>
 aJ PP .neq 3 v0 v3 fun v4=>
 bF v4 S K
theorem Qh (x:VE) (a0 a1:V) (S:Hp) (K:KV):jX PP bK EG x [a0,a1] S K=WV x a0 a1 S K:=by kernel_rfl
def WW (x:VE) (a0 a1 a2:V) (S:Hp) (K:KV):Prop:=
 bR 12 a2 S fun v0 S=>
 x.call pF [v0,a0,a1] S fun v1 S=>
 bF v1 S K
theorem Qi (x:VE) (a0 a1 a2:V) (S:Hp) (K:KV):jX PP bK iU x [a0,a1,a2] S K=WW x a0 a1 a2 S K:=by kernel_rfl
def WX (x:VE) (a0 a1 a2:V) (S:Hp) (K:KV):Prop:=
 bR 12 a2 S fun v0 S=>
 aS 22 2 [(.int .u64 (.ofNat 0))] [(0,1,a0),(1,1,a1)] S fun v1 S=>
 x.call lG [v0,v1] S fun v2 S=>
 bF v2 S K
theorem Qj (x:VE) (a0 a1 a2:V) (S:Hp) (K:KV):jX PP bK iV x [a0,a1,a2] S K=WX x a0 a1 a2 S K:=by kernel_rfl
def TF (x:VE) (a0:V) (S:Hp) (K:KV):Prop:=
 iG 29 a0 S fun v0 S=>
 aV 7 v0 fun v1=>
 aW v1 S fun v2 S=>
 aV 8 v0 fun v3=>
 aW v3 S fun v4 S=>
 aJ PP .add 3 v4 (.int .i64 (.ofNat 1)) fun v5=>
 aJ PP .mul 3 v2 v5 fun v6=>
 bF v6 S K
theorem Ki (x:VE) (a0:V) (S:Hp) (K:KV):jX PP bK vZ x [a0] S K=TF x a0 S K:=by kernel_rfl
def ZP (x:VE) (a0:V) (S:Hp) (K:KV):Prop:=
 iG 29 a0 S fun v0 S=>
 aV 7 v0 fun v1=>
 aW v1 S fun v2 S=>
 aV 8 v0 fun v3=>
 aW v3 S fun v4 S=>
 Bg false v2 v4 fun v5=>
 aJ PP .geq 3 v5 (.int .i64 (.ofNat 0)) fun v6=>
 aI x.most (aH true v6 (fun k=>aV 7 v0 fun v7=>k v7 S) S fun v8 S=>aI x.most (aH true v6 (fun k=>aW v8 S fun v9 S=>k v9 S) S fun v10 S=>aI x.most (aH true v6 (fun k=>aJ PP .leq 3 v10 (.int .i64 (.ofNat 2)) fun v11=>k v11 S) S fun v12 S=>aI x.most (fK v6 v12 (.bool false) fun qE=>aI x.most (aH true qE (fun k=>aV 8 v0 fun qU=>k qU S) S fun wI S=>aI x.most (aH true qE (fun k=>aW wI S fun wJ S=>k wJ S) S fun wH S=>aI x.most (aH true qE (fun k=>aJ PP .leq 3 wH (.int .i64 (.ofNat 4)) fun vC=>k vC S) S fun yI S=>aI x.most (fK qE yI (.bool false) fun v20=>bF v20 S K))))))))
theorem So (x:VE) (a0:V) (S:Hp) (K:KV):jX PP bK GV x [a0] S K=ZP x a0 S K:=by kernel_rfl
def TN (x:VE) (a0:V) (S:Hp) (K:KV):Prop:=
 bP a0 fun v0=>
 aJ PP .gtr 3 v0 (.int .i64 (.ofNat 0)) fun v1=>
 aI x.most (aH true v1 (fun k=>k a0 S) S fun v2 S=>aI x.most (aH true v1 (fun k=>x.call eQ [v2,(.func xF [] [])] S fun v3 S=>k v3 S) S fun v4 S=>aI x.most (aH true v1 (fun k=>SP .not v4 fun v5=>k v5 S) S fun v6 S=>aI x.most (fK v1 v6 (.bool false) fun v7=>bF v7 S K))))
theorem Kr (x:VE) (a0:V) (S:Hp) (K:KV):jX PP bK BF x [a0] S K=TN x a0 S K:=by kernel_rfl
def NN (x:VE) (a0:V) (S:Hp) (K:KV):Prop:=
 aJ PP .lss 3 a0 (.int .i64 (.ofNat 1)) fun v0=>
 aI x.most (aH false v0 (fun k=>k a0 S) S fun v1 S=>aI x.most (aH false v0 (fun k=>aJ PP .gtr 3 v1 (.int .i64 (.ofNat 7)) fun v2=>k v2 S) S fun v3 S=>aI x.most (fK v0 (.bool true) v3 fun v4=>bF v4 S K)))
theorem Fl (x:VE) (a0:V) (S:Hp) (K:KV):jX PP bK xF x [a0] S K=NN x a0 S K:=by kernel_rfl
def qM (x:VE) (m:Nat) (t1 t6 t9 t10 t11:V) (S:Hp) (K:KV):Prop:=dW PP bK wA x [.r,.r,.l,.r,.d] m [] [t1,t6,t9,t10,t11] S K
def TO (x:VE) (a0 a1:V) (S:Hp) (K:KV):Prop:=
 bP a0 fun v0=>
 qM x x.most a1 .nil a0 v0 (.int .i64 (.ofNat 0)) S K
theorem Ks (x:VE) (a0 a1:V) (S:Hp) (K:KV):jX PP bK wA x [a0,a1] S K=TO x a0 a1 S K:=by kernel_rfl
def pD (x:VE) (m0:Nat) (t1 t6 t9 t10 t11:V) (S:Hp) (K:KV):Prop:=
 cR S fun S=>
 aJ PP .lss 3 t11 t10 fun v0=>
 iR v0 (cV 1 t9 t11 fun v1=>aW v1 S fun v2 S=>LE .u64 v2 fun v3=>aS 22 1 [(.int .u64 (.ofNat 0))] [(0,1,v3)] S fun v4 S=>jW 22 1 8 t6 v4 S fun v5 S=>aJ PP .add 3 t11 (.int .i64 (.ofNat 1)) fun v6=>qM x m0 t1 v5 t9 t10 v6 S K) (x.call yK [t6,(.int .u64 (.ofNat 0)),t1] S fun v7 S=>vB 0 v7 fun v8=>vB 1 v7 fun v9=>bF (.tuple [v8,v9]) S K)
theorem vK (x:VE) (m0:Nat) (t1 t6 t9 t10 t11:V) (S:Hp) (K:KV):qM x (m0+1) t1 t6 t9 t10 t11 S K=pD x m0 t1 t6 t9 t10 t11 S K:=by kernel_rfl
def nJ (x:VE) (m:Nat) (t1 t2 t3 t4 t13 t14 t15:V) (S:Hp) (K:KV):Prop:=dW PP bK lP x [.r,.l,.r,.d] m [] [t1,t2,t3,t4,t13,t14,t15] S K
def JB (x:VE) (a0 a1 a2 a3 a4:V) (S:Hp) (K:KV):Prop:=
 bP a0 fun v0=>
 nJ x x.most a1 a2 a3 a4 a0 v0 (.int .i64 (.ofNat 0)) S K
theorem YM (x:VE) (a0 a1 a2 a3 a4:V) (S:Hp) (K:KV):jX PP bK lP x [a0,a1,a2,a3,a4] S K=JB x a0 a1 a2 a3 a4 S K:=by kernel_rfl
def rE (x:VE) (m0:Nat) (t1 t2 t3 t4 t13 t14 t15:V) (S:Hp) (K:KV):Prop:=
 cR S fun S=>
 aJ PP .lss 3 t15 t14 fun v0=>
 iR v0 (cV 1 t13 t15 fun v1=>aW v1 S fun v2 S=>cV 1 t1 t15 fun v3=>aW v3 S fun v4 S=>mH x t3 [v2,v4] S fun v5 S=>mH x t4 [t2,v5] S fun v6 S=>aJ PP .add 3 t15 (.int .i64 (.ofNat 1)) fun v7=>nJ x m0 t1 v6 t3 t4 t13 t14 v7 S K) (bF t2 S K)
theorem zO (x:VE) (m0:Nat) (t1 t2 t3 t4 t13 t14 t15:V) (S:Hp) (K:KV):nJ x (m0+1) t1 t2 t3 t4 t13 t14 t15 S K=rE x m0 t1 t2 t3 t4 t13 t14 t15 S K:=by kernel_rfl
def kB (x:VE) (m:Nat) (t1 t5 t8 t9 t10:V) (S:Hp) (K:KV):Prop:=dW PP bK mZ x [.r,.r,.l,.r,.d] m [] [t1,t5,t8,t9,t10] S K
def LY (x:VE) (a0 a1:V) (S:Hp) (K:KV):Prop:=
 bP a0 fun v0=>
 kB x x.most a1 .nil a0 v0 (.int .i64 (.ofNat 0)) S K
theorem Bs (x:VE) (a0 a1:V) (S:Hp) (K:KV):jX PP bK mZ x [a0,a1] S K=LY x a0 a1 S K:=by kernel_rfl
def rF (x:VE) (m0:Nat) (t1 t5 t8 t9 t10:V) (S:Hp) (K:KV):Prop:=
 cR S fun S=>
 aJ PP .lss 3 t10 t9 fun v0=>
 iR v0 (cV 1 t8 t10 fun v1=>aW v1 S fun v2 S=>cV 1 v2 t1 fun v3=>aW v3 S fun v4 S=>aS 22 1 [(.int .u64 (.ofNat 0))] [(0,1,v4)] S fun v5 S=>jW 22 1 8 t5 v5 S fun v6 S=>aJ PP .add 3 t10 (.int .i64 (.ofNat 1)) fun v7=>kB x m0 t1 v6 t8 t9 v7 S K) (bF t5 S K)
theorem zP (x:VE) (m0:Nat) (t1 t5 t8 t9 t10:V) (S:Hp) (K:KV):kB x (m0+1) t1 t5 t8 t9 t10 S K=rF x m0 t1 t5 t8 t9 t10 S K:=by kernel_rfl
def jU (x:VE) (m:Nat) (t1 t5 t8 t9 t10:V) (S:Hp) (K:KV):Prop:=dW PP bK iM x [.r,.r,.l,.r,.d] m [] [t1,t5,t8,t9,t10] S K
def CO (x:VE) (a0 a1:V) (S:Hp) (K:KV):Prop:=
 bP a0 fun v0=>
 jU x x.most a1 .nil a0 v0 (.int .i64 (.ofNat 0)) S K
theorem PV (x:VE) (a0 a1:V) (S:Hp) (K:KV):jX PP bK iM x [a0,a1] S K=CO x a0 a1 S K:=by kernel_rfl
def nA (x:VE) (m0:Nat) (t1 t5 t8 t9 t10:V) (S:Hp) (K:KV):Prop:=
 cR S fun S=>
 aJ PP .lss 3 t10 t9 fun v0=>
 iR v0 (cV 1 t8 t10 fun v1=>aW v1 S fun v2 S=>cV 1 v2 t1 fun v3=>aW v3 S fun v4 S=>aS 51 1 [(.slice none 0 0)] [(0,1,v4)] S fun v5 S=>jW 51 1 24 t5 v5 S fun v6 S=>aJ PP .add 3 t10 (.int .i64 (.ofNat 1)) fun v7=>jU x m0 t1 v6 t8 t9 v7 S K) (bF t5 S K)
theorem tS (x:VE) (m0:Nat) (t1 t5 t8 t9 t10:V) (S:Hp) (K:KV):jU x (m0+1) t1 t5 t8 t9 t10 S K=nA x m0 t1 t5 t8 t9 t10 S K:=by kernel_rfl
def qO (x:VE) (m:Nat) (t0 t1 t2 t9 t21 t22:V) (S:Hp) (K:KV):Prop:=dW PP bK yK x [.r,.r,.r,.l,.r,.d] m [] [t0,t1,t2,t9,t21,t22] S K
def XA (x:VE) (a0 a1 a2:V) (S:Hp) (K:KV):Prop:=
 x.call AY [a0,a2] S fun v0 S=>
 aJ PP .neq 46 v0 (.int .i64 (.ofNat 0)) fun v1=>
 iR v1 (bF (.tuple [.nil,v0]) S K) (bP a0 fun v2=>qO x x.most a0 a1 a2 .nil v2 (.int .i64 (.ofNat 0)) S K)
theorem Qo (x:VE) (a0 a1 a2:V) (S:Hp) (K:KV):jX PP bK yK x [a0,a1,a2] S K=XA x a0 a1 a2 S K:=by kernel_rfl
def pE (x:VE) (m0:Nat) (t0 t1 t2 t9 t21 t22:V) (S:Hp) (K:KV):Prop:=
 cR S fun S=>
 aJ PP .lss 3 t22 t21 fun v0=>
 iR v0 (x.call dU [t0,t22,t1,t2] S fun v1 S=>vB 0 v1 fun v2=>vB 1 v1 fun v3=>vB 2 v1 fun v4=>aJ PP .neq 46 v4 (.int .i64 (.ofNat 0)) fun v5=>iR v5 (bF (.tuple [.nil,v4]) S K) (x.call oC [v2,v3,t2] S fun v6 S=>aS 22 1 [(.int .u64 (.ofNat 0))] [(0,1,v6)] S fun v7 S=>jW 22 1 8 t9 v7 S fun v8 S=>aJ PP .add 3 t22 (.int .i64 (.ofNat 1)) fun v9=>qO x m0 t0 t1 t2 v8 t21 v9 S K)) (bF (.tuple [t9,(.int .i64 (.ofNat 0))]) S K)
theorem vL (x:VE) (m0:Nat) (t0 t1 t2 t9 t21 t22:V) (S:Hp) (K:KV):qO x (m0+1) t0 t1 t2 t9 t21 t22 S K=pE x m0 t0 t1 t2 t9 t21 t22 S K:=by kernel_rfl
def sA (x:VE) (m:Nat) (t0 t1 t5 t19 t20 t21:V) (S:Hp) (K:KV):Prop:=dW PP bK AY x [.r,.r,.r,.l,.r,.d] m [] [t0,t1,t5,t19,t20,t21] S K
def ZS (x:VE) (a0 a1:V) (S:Hp) (K:KV):Prop:=
 x.call RD [a1] S fun v0 S=>
 SP .not v0 fun v1=>
 iR v1 (bF (.int .i64 (.ofNat 1)) S K) (bP a0 fun v2=>aJ PP .gtr 3 v2 (.int .i64 (.ofNat 1024)) fun v3=>iR v3 (bF (.int .i64 (.ofNat 40)) S K) (bP a0 fun v4=>Ep v4 S fun v5 S=>bP a0 fun v6=>sA x x.most a0 a1 v5 a0 v6 (.int .i64 (.ofNat 0)) S K))
theorem Sv (x:VE) (a0 a1:V) (S:Hp) (K:KV):jX PP bK AY x [a0,a1] S K=ZS x a0 a1 S K:=by kernel_rfl
def qR (x:VE) (m0:Nat) (t0 t1 t5 t19 t20 t21:V) (S:Hp) (K:KV):Prop:=
 cR S fun S=>
 aJ PP .lss 3 t21 t20 fun v0=>
 iR v0 (cV 1 t19 t21 fun v1=>aW v1 S fun v2 S=>aJ PP .rem 22 v2 t1 fun v3=>Pj (.one (.int .u64)) (.int .i64 (.ofNat 0)) false t5 v3 S fun v4 S=>aJ PP .add 3 v4 (.int .i64 (.ofNat 1)) fun v5=>AE (.one (.int .u64)) t5 v3 v5 S fun S=>aJ PP .add 3 t21 (.int .i64 (.ofNat 1)) fun v6=>sA x m0 t0 t1 t5 t19 t20 v6 S K) (Pk t5 S fun v7 S=>bP t0 fun v8=>aJ PP .lss 3 v7 v8 fun v9=>iR v9 (bF (.int .i64 (.ofNat 6)) S K) (bF (.int .i64 (.ofNat 0)) S K))
theorem wX (x:VE) (m0:Nat) (t0 t1 t5 t19 t20 t21:V) (S:Hp) (K:KV):sA x (m0+1) t0 t1 t5 t19 t20 t21 S K=qR x m0 t0 t1 t5 t19 t20 t21 S K:=by kernel_rfl
def Fm (x:VE) (a0 a1 a2 a3:V) (S:Hp) (K:KV):Prop:=
 iG 22 a3 S fun v0 S=>
 aW v0 S fun v1 S=>
 aJ PP .rem 22 (.int .u64 (.ofNat 1)) v1 fun v2=>
 aW v0 S fun v3 S=>
 aJ PP .rem 22 (.int .u64 (.ofNat 1)) v3 fun v4=>
 aW v0 S fun v5 _=>
 aU v5 v3 (aW v0 S fun v6 _=>aU v6 v1 ((dQ [(.int .u64 (.ofNat 0))] 22 S fun v7 S=>True)/\((dQ [(.int .u64 (.ofNat 0))] 22 S fun v8 S=>True)/\(dQ [(.int .u64 (.ofNat 0))] 22 S fun v9 S=>dQ [(.int .u64 (.ofNat 0))] 22 S fun v10 S=>nI 1 v9 v2 S fun S=>aW v0 S fun v11 _=>aU v11 v3 (nI 1 v10 v4 S fun S=>aW v0 S fun v12 S=>x.call OE [a0,a1,a2,v12] S fun qE S=>OC x qE [7,11,12] [v0,v9,v10] 45 (DY PP dU [.r,.r,.l,.r,.d]) (DZ PP dU [.r,.r,.l,.r,.d]) (yU PP dU [.r,.r,.l,.r,.d]) S fun pe S=>SX pe (aW v9 S fun wI S=>aW v0 S fun wJ S=>x.call yS [wI,wJ] S fun wH S=>vB 0 wH fun vC=>vB 1 wH fun yI=>aW v10 S fun v20 S=>bF (.tuple [vC,v20,yI]) S K) (bF (.tuple [(.int .u64 (.ofNat 0)),(.int .u64 (.ofNat 0)),(.int .i64 (.ofNat 0))]) S K) (fun qU=>ZL qU 0 (aW v9 S fun v21 S=>aW v0 S fun JC S=>x.call yS [v21,JC] S fun GC S=>vB 0 GC fun v24=>vB 1 GC fun OD=>aW v10 S fun SZ S=>bF (.tuple [v24,SZ,OD]) S K) (False)))))))
theorem Zn (x:VE) (a0 a1 a2 a3:V) (S:Hp) (K:KV):jX PP bK dU x [a0,a1,a2,a3] S K=Fm x a0 a1 a2 a3 S K:=by kernel_rfl
def JG (x:VE) (l:Nat) (t7 t11 t12 a0 a1:V) (S:Hp) (K:KV):Prop:=
 ZK l S fun S=>
 aW t11 S fun v0 S=>
 aW t7 S fun v1 S=>
 aW t12 S fun v2 S=>
 aW t7 S fun v3 S=>
 x.call oC [v0,a0,v1] S fun v4 S=>
 aW t7 S fun v5 _=>
 aU v5 v3 (aW t12 S fun v6 _=>aU v6 v2 (x.call oC [v2,a1,v3] S fun v7 S=>nI 1 t11 v4 S fun S=>nI 1 t12 v7 S fun S=>IX l .ready none true S K))
theorem Bv (x:VE) (l:Nat) (t7 t11 t12 a0 a1:V) (S:Hp) (K:KV):WP PP bK x 45 (DY PP dU [.r,.r,.l,.r,.d]) (DZ PP dU [.r,.r,.l,.r,.d]) (yU PP dU [.r,.r,.l,.r,.d]) l [t7,t11,t12] [a0,a1] S K=JG x l t7 t11 t12 a0 a1 S K:=by kernel_rfl
theorem Bw:[7,11,12]=YY bK 45 (yU PP dU [.r,.r,.l,.r,.d]):=by kernel_rfl
def ZT (x:VE) (a0 a1 a2 a3:V) (S:Hp) (K:KV):Prop:=
 iG 51 a0 S fun v0 S=>
 iG 3 a1 S fun v1 S=>
 iG 22 a2 S fun v2 S=>
 iG 22 a3 S fun v3 S=>
 bF (.func wC [] [v0,v1,v3,v2]) S K
theorem Sw (x:VE) (a0 a1 a2 a3:V) (S:Hp) (K:KV):jX PP bK OE x [a0,a1,a2,a3] S K=ZT x a0 a1 a2 a3 S K:=by kernel_rfl
def gL (x:VE) (m:Nat) (t0 t1 t2 t3 t4 t8 t9 t10:V) (S:Hp) (K:KV):Prop:=dW PP bK wC x [.r,.d] m [] [t0,t1,t2,t3,t4,t8,t9,t10] S K
def TP (x:VE) (a0 a1 a2 a3 a4:V) (S:Hp) (K:KV):Prop:=
 aW a1 S fun v0 S=>
 bP v0 fun v1=>
 gL x x.most a0 a1 a2 a3 a4 v0 v1 (.int .i64 (.ofNat 0)) S K
theorem Kt (x:VE) (a0 a1 a2 a3 a4:V) (S:Hp) (K:KV):jX PP bK wC x [a0,a1,a2,a3,a4] S K=TP x a0 a1 a2 a3 a4 S K:=by kernel_rfl
def tA (x:VE) (m0:Nat) (t0 t1 t2 t3 t4 t8 t9 t10:V) (S:Hp) (K:KV):Prop:=
 cR S fun S=>
 aJ PP .lss 3 t10 t9 fun v0=>
 iR v0 (cV 1 t8 t10 fun v1=>aW v1 S fun v2 S=>aW t2 S fun v3 S=>aJ PP .neq 3 t10 v3 fun v4=>aI x.most (aH true v4 (fun k=>k t0 S) S fun v5 S=>aI x.most (aH true v4 (fun k=>aW t1 S fun v6 S=>k v6 S) S fun v7 S=>aI x.most (aH true v4 (fun k=>aW t2 S fun v8 S=>k v8 S) S fun v9 S=>aI x.most (aH true v4 (fun k=>cV 1 v7 v9 fun v10=>k v10 S) S fun v11 S=>aI x.most (aH true v4 (fun k=>aW v11 S fun v12 S=>k v12 S) S fun qE S=>aI x.most (aH true v4 (fun k=>k v2 S) S fun qU S=>aI x.most (aH true v4 (fun k=>aW t3 S fun wI S=>k wI S) S fun wJ S=>aI x.most (aH true v4 (fun k=>aW t4 S fun wH S=>k wH S) S fun vC S=>aI x.most (aH true v4 (fun k=>k v2 S) S fun yI S=>aI x.most (aH true v4 (fun k=>aW t3 S fun v20 S=>k v20 S) S fun v21 S=>aI x.most (aH true v4 (fun k=>x.call yR [qE,qU,wJ] S fun JC S=>k JC S) S fun GC S=>aI x.most (fW true v4 v21 (fun k=>aW t3 S fun v24 _=>aU v24 v21 k) (aI x.most (fW true v4 vC (fun k=>aW t4 S fun OD _=>aU OD vC k) (aI x.most (fW true v4 v9 (fun k=>aW t2 S fun SZ _=>aU SZ v9 k) (aI x.most (fW true v4 v7 (fun k=>aW t1 S fun ZE _=>aU ZE v7 k) (aW t2 S fun v28 _=>aU v28 v3 (aI x.most (aH true v4 (fun k=>x.call yR [vC,yI,v21] S fun v29 S=>k v29 S) S fun v30 S=>aI x.most (fW true v4 v9 (fun k=>aW t2 S fun v31 _=>aU v31 v9 k) (aI x.most (fW true v4 v7 (fun k=>aW t1 S fun Sr _=>aU Sr v7 k) (aW t2 S fun Lr _=>aU Lr v3 (aI x.most (aH true v4 (fun k=>mH x v5 [GC,v30] S fun Fd S=>k Fd S) S fun Qk S=>aI x.most (fW true v4 v9 (fun k=>aW t2 S fun Cb _=>aU Cb v9 k) (aI x.most (fW true v4 v7 (fun k=>aW t1 S fun v37 _=>aU v37 v7 k) (aW t2 S fun Bt _=>aU Bt v3 (aI x.most (aH true v4 (fun k=>SP .not Qk fun Jj=>k Jj S) S fun v40 S=>aI x.most (fK v4 v40 (.bool false) fun XY=>iR XY (bF (.tuple []) S K) (aJ PP .add 3 t10 (.int .i64 (.ofNat 1)) fun Rb=>gL x m0 t0 t1 t2 t3 t4 t8 t9 Rb S K)))))))))))))))))))))))))))))))))))) (bF (.tuple []) S K)
theorem AL (x:VE) (m0:Nat) (t0 t1 t2 t3 t4 t8 t9 t10:V) (S:Hp) (K:KV):gL x (m0+1) t0 t1 t2 t3 t4 t8 t9 t10 S K=tA x m0 t0 t1 t2 t3 t4 t8 t9 t10 S K:=by kernel_rfl
set_option maxRecDepth 4000
section
variable{M n:Nat}{x:VE}{S:Hp}{K:KV}{two:Bool}
theorem aPR:gM vZ=none:=rfl
theorem aR2:gM EG=none:=rfl
theorem aR3:gM iU=none:=rfl
theorem aR4:gM iV=none:=rfl
theorem aKm (hx:Deep PP bK gM M (n+1) x) (hK:K (ni 2) S):x.call vZ [.agg (pv two)] S K:=by
 refine hx.call aPR fun y hy=>?_;rw [Ki];unfold TF;refine cC jN fun b hb=>?_;rw [aY,cT (o:=7) aB rfl,aY,cT (o:=8) aB rfl,bG (by decide),Be (by decide)];exact bL (.aK hb) hK
theorem aR5 (hx:Deep PP bK gM M (n+1) x){S0:Hp}{w:V}{l:List Nat}{b:Nat} (hw:NL S0 S w l) (rb:S b=some (.row (pv two) 29)) (hK:K (.bool (!decide (l.length=2))) S):x.call EG [w,.ptr b 0] S K:=by
 refine hx.call aR2 fun y hy=>?_;rw [Qh];unfold WV;rw [hw.nv.len,aY,cT (o:=6) rb rfl,show(ni (tT two):V)=ni 1 from rfl,bG (by decide),aE7];exact aM hK
theorem aR6 (hx:Deep PP bK gM M (n+3) x){b a e:Nat} (ha:EQ a) (he:EQ e) (rb:S b=some (.row (pv two) 29)) (hK:K (nu (pw a e)) S):x.call iU [nu a,nu e,.ptr b 0] S K:=by
 refine hx.call aR3 fun y hy=>?_;rw [Qi];unfold WW;rw [lA rb];refine Dy (two:=two) hy ha he ?_;exact aM hK
theorem aR7 (hM:1000000<M) (hx:Deep PP bK gM M (n+3) x){b a c:Nat} (ha:EQ a) (hc:EQ c) (rb:S b=some (.row (pv two) 29)) (hK:K (nu (LI [a,c])) S):x.call iV [nu a,nu c,.ptr b 0] S K:=by
 refine hx.call aR4 fun y hy=>?_;rw [Qj];unfold WX;rw [lA rb];refine He fun j hj=>?_;have le:bU S (aL S j (.row (oD [a,c]) 22)):= .aK hj;refine WA (two:=two) hM hy (.own (l:=[a,c]) aB (fun i z h=>by rw [eJ];exact IJ h) (by rw [oE];simp)) (fun z hz=>?_) (by simp) ?_
 ·rcases List.mem_cons.1 hz with rfl | hz
  ·exact ha
  ·rcases List.mem_cons.1 hz with rfl | hz
   ·exact hc
   ·cases hz
 ·exact bL le hK
end
set_option maxRecDepth 4000
def Jf:List (Nat×Nat)->Nat->Nat
 | [],a=>a
 | (y,w)::l,a=>Jf l (LI [a,pw y w])
section
variable{M n:Nat}{x:VE}{S S0:Hp}{K:KV}{two:Bool}
theorem aKn:gM GV=none:=rfl
theorem aMI:gM lP=none:=rfl
theorem aPS:gM mZ=none:=rfl
theorem aKo (hx:Deep PP bK gM M (n+1) x) (hK:K (.bool true) S):x.call GV [.agg (pv two)] S K:=by
 refine hx.call aKn fun y hy=>?_;rw [So];unfold ZP;refine cC jN fun b hb=>?_;have dL:bU S (aL S b (.row (pv two) 29)):= .aK hb;have rb:aL S b (.row (pv two) 29) b=some (.row (pv two) 29):=aB;generalize aL S b (.row (pv two) 29)=S1 at dL rb;have l7:∀{K:KV},aW (.ptr b 7) S1 K=K (ni 1) S1:=cT rb rfl;have l8:∀{K:KV},aW (.ptr b 8) S1 K=K (ni 1) S1:=cT rb rfl;rw [aY,l7,aY,l8];show aJ PP .geq 3 (ni 1) (ni 0) _;rw [zX];simp only [aE,zT,decide_true,aN,aY,l7];show aJ PP .leq 3 (ni 1) (ni 2) _;rw [JX];show fK (.bool true) (.bool true) _ _;rw [dI];simp only [aN,l8];show aJ PP .leq 3 (ni 1) (ni 4) _;rw [JX];exact bL dL hK
theorem aKp (hM:1000000<M) (hx:Deep PP bK gM M (n+4) x){v vw:V}{l w:List Nat}{b:Nat} (hlw:l.length=w.length) (h:NV S v l) (hw:NV S vw w) (TV:LC l) (aKq:LC w) (hl:l.length<1000000) (rb:S b=some (.row (pv two) 29)){R:Nat} (hK:K (nu R) S):
 ∀(r i m:Nat) (a:Nat) (S1:Hp),bU S S1->a<23->i+r=l.length->r<m->Jf ((l.zip w).drop i) a=R->nJ x m vw (nu a) (.func iU [] [.ptr b 0]) (.func iV [] [.ptr b 0]) v (ni l.length) (ni i) S1 K:=by
 intro r;induction r with
 | zero=>
  intro i m a S1 hs ha hi hm he;obtain⟨m,rfl⟩:=bH (show m≠0 by omega);rw [zO];unfold rE;refine tJ S hs ?_;rw [aQ,jM (by omega),bE];rw [oW (by rw [List.length_zip];omega)]at he;have he:a=R:=he;rw [he];exact aM hK
 | succ r ih=>
  intro i m a S1 hs ha hi hm he;obtain⟨m,rfl⟩:=bH (show m≠0 by omega);rw [zO];unfold rE;refine tJ S hs ?_;have hlt:i<l.length:=by omega
  have aHt:i<w.length:=by omega
  obtain⟨p,hp,PZ⟩:=h.at (i:=i) (aT hlt);obtain⟨p2,Iv,aPT⟩:=hw.at (i:=i) (aT aHt);rw [aQ,zJ hlt,bW,hp,PZ S (.refl S),Iv,aPT S (.refl S)];have p3:=aEJ l[i] w[i];show x.call iU [nu l[i],nu w[i],.ptr b 0] S _;refine aR6 (n:=n+1) (two:=two) hx (TV _ (cO hlt)) (aKq _ (cO aHt)) rb ?_;show x.call iV [nu a,nu (pw l[i] w[i]),.ptr b 0] S _;refine aR7 (n:=n+1) (two:=two) hM hx (show a<18446744073709551616 by omega) (show pw l[i] w[i]<18446744073709551616 by omega) rb ?_;rw [bG (by omega)];refine ih (i+1) m _ S (.refl S) (PJ _) (by omega) (by omega) ?_;rw [mB (show i<(l.zip w).length by rw [List.length_zip];omega)]at he;rw [List.getElem_zip]at he;exact he
theorem aMJ (hM:1000000<M) (hx:Deep PP bK gM M (n+5) x){v vw:V}{l w:List Nat}{b a:Nat} (hlw:l.length=w.length) (h:NV S v l) (hw:NV S vw w) (TV:LC l) (aKq:LC w) (hl:l.length<1000000) (rb:S b=some (.row (pv two) 29)) (ha:a<23) (hK:K (nu (Jf (l.zip w) a)) S):
 x.call lP [v,vw,nu a,.func iU [] [.ptr b 0],.func iV [] [.ptr b 0]] S K:=by
 refine hx.call aMI fun y hy=>?_;rw [YM];unfold JB;rw [h.len,hy.most];exact aKp (two:=two) hM hy hlw h hw TV aKq hl rb hK l.length 0 M a S (.refl S) ha (by omega) (by omega) rfl
def PO (ls:List (List Nat)) (j:Nat):List Nat:=ls.map fun l=>l.getD j 0
theorem aMK (hx:Deep PP bK gM M (n+1) x){O:Tag}{ls:List (List Nat)}{j:Nat} (hj:∀l∈ls,j<l.length) (hl:ls.length<1000000) (hK:∀O,K (.list O (kK (PO ls j)) (PO ls j).length) S):
 ∀(r i m:Nat) (u:V) (acc:List Nat) (S1:Hp),bU S S1->MN S S1 u acc->i+r=ls.length->r<m->acc++PO (ls.drop i) j=PO ls j->kB x m (ni j) u (.list O (eL ls) ls.length) (ni ls.length) (ni i) S1 K:=by
 intro r;induction r with
 | zero=>
  intro i m u acc S1 hs CX hi hm he;obtain⟨m,rfl⟩:=bH (show m≠0 by omega);rw [zP];unfold rF;refine aF ?_;rw [aQ,jM (by omega),bE];rw [oW (by omega)]at he;have he:acc=PO ls j:=by simpa [PO]using he
  subst he;exact gP hs CX.Bd hK
 | succ r ih=>
  intro i m u acc S1 hs CX hi hm he;obtain⟨m,rfl⟩:=bH (show m≠0 by omega);rw [zP];unfold rF;refine aF ?_;have hlt:i<ls.length:=by omega
  have hv:RL S1 S1 (.list O (eL ls) ls.length) ls:= .val;obtain⟨q,w,hq,PZ,hw⟩:=hv.at (i:=i) (aT hlt);have hjl:=hj _ (cO hlt);obtain⟨q2,Wj,aPT⟩:=hw.nv.at (i:=j) (aT hjl);rw [aQ,zJ hlt,bW,hq,PZ S1 (.refl S1),Wj,aPT S1 (.refl S1)]
  have ha:acc.length<=ls.length:=by
   have:=jY List.length he;simp [PO]at this;omega
  refine CX.app hs (by omega) fun u2 S2 uA _ XL=>?_;rw [bG (by omega)];refine ih (i+1) m u2 _ S2 uA XL (by omega) (by omega) ?_;rw [mB hlt]at he;rw [<-he,BH];show _=acc++PO (ls[i]::ls.drop (i+1)) j;have:ls[i].getD j 0=ls[i][j]:=by rw [BG,aT hjl];rfl
  show acc++([ls[i][j]]++_)=acc++(ls[i].getD j 0::_);rw [this];rfl
theorem aPU (hM:1000000<M) (hx:Deep PP bK gM M (n+2) x){O:Tag}{ls:List (List Nat)}{j:Nat} (hj:∀l∈ls,j<l.length) (hl:ls.length<1000000) (hK:∀O,K (.list O (kK (PO ls j)) (PO ls j).length) S):x.call mZ [.list O (eL ls) ls.length,ni j] S K:=by
 refine hx.call aPS fun y hy=>?_;rw [Bs];unfold LY;show kB y y.most (ni j) .nil (.list O (eL ls) ls.length) (ni ls.length) (ni 0) S K;rw [hy.most];exact aMK hy hj hl hK ls.length 0 M .nil [] S (.refl S) .nil (by omega) (by omega) (by simp)
end
set_option maxRecDepth 4000
def EZ (ms:List (List (List Nat))) (s:Nat):List (List Nat):=ms.map fun l=>l.getD s []
section
variable{M n:Nat}{x:VE}{S S0:Hp}{K:KV}{two:Bool}
theorem aML:gM iM=none:=rfl
theorem Fb (a b:List (List Nat)):eL (a++b)=eL a++eL b:=QE
theorem GW (a:List (List Nat)):(eL a).length=a.length:=mE _
theorem aKr (hx:Deep PP bK gM M (n+1) x){v:V}{ms:List (List (List Nat))}{s:Nat} (hs0:∀l∈ms,s<l.length) (hl:ms.length<1000000) (h:GL 33 S0 S v (mD ms)) (hK:∀O,K (.list O (eL (EZ ms s)) (EZ ms s).length) S):
 ∀(r i m:Nat) (u:V) (acc:List (List Nat)) (S1:Hp),bU S S1->GL 51 S S1 u (eL acc)->i+r=ms.length->r<m->acc++EZ (ms.drop i) s=EZ ms s->jU x m (ni s) u v (ni ms.length) (ni i) S1 K:=by
 intro r;induction r with
 | zero=>
  intro i m u acc S1 hs CX hi hm he;obtain⟨m,rfl⟩:=bH (show m≠0 by omega);rw [tS];unfold nA;refine aF ?_;rw [aQ,jM (by omega),bE];rw [oW (by omega)]at he;have he:acc=EZ ms s:=by simpa [EZ]using he
  subst he;have hf:=CX.Bd;rw [GW]at hf;exact gP hs hf hK
 | succ r ih=>
  intro i m u acc S1 hs CX hi hm he;obtain⟨m,rfl⟩:=bH (show m≠0 by omega);rw [tS];unfold nA;refine aF ?_;have hlt:i<ms.length:=by omega
  have hd:(mD ms)[i]? =some (.list (eL ms[i]) ms[i].length):=by unfold mD;rw [eH,aT hlt];rfl
  obtain⟨q,t,hq,PZ⟩:=(h.up hs).at hd;have VZ:=hs0 _ (cO hlt);have hd2:(eL ms[i])[s*1]? =some (.list (kK ms[i][s]) ms[i][s].length):=by rw [kX];unfold eL;rw [eH,aT VZ];rfl
  rw [aQ,zJ hlt,bW,hq,PZ S1 (.refl S1)];show cV 1 (.list t (eL ms[i]) ms[i].length) (ni s) _;rw [jL VZ,yA,cX hd2]
  have ha:acc.length<=ms.length:=by
   have:=jY List.length he;simp [EZ]at this;omega
  refine GL.app (d:= .list (kK ms[i][s]) ms[i][s].length) CX hs (by rw [GW];omega) (zv:= .nil) rfl (by decide) fun u2 S2 uA _ _ XL=>?_;rw [bG (by omega)];have e3:eL acc++[.list (kK ms[i][s]) ms[i][s].length]=eL (acc++[ms[i][s]]):=by rw [Fb];rfl
  rw [e3]at XL;refine ih (i+1) m u2 _ S2 uA XL (by omega) (by omega) ?_;rw [mB hlt]at he;rw [<-he,BH];have:ms[i].getD s []=ms[i][s]:=by rw [BG,aT VZ];rfl
  show acc++([ms[i][s]]++_)=acc++(ms[i].getD s []::_);rw [this];rfl
theorem aMM (hM:1000000<M) (hx:Deep PP bK gM M (n+2) x){v:V}{ms:List (List (List Nat))}{s:Nat} (hs0:∀l∈ms,s<l.length) (hl:ms.length<1000000) (h:GL 33 S0 S v (mD ms)) (hK:∀O,K (.list O (eL (EZ ms s)) (EZ ms s).length) S):x.call iM [v,ni s] S K:=by
 refine hx.call aML fun y hy=>?_;rw [PV];unfold CO;have TU:(mD ms).length=ms.length:=mE _;rw [h.len,TU,hy.most];exact aKr hy hs0 hl h hK ms.length 0 M .nil [] S (.refl S) .nil (by omega) (by omega) (by simp)
end
end Go.Am
namespace Go.Am
open Go.Proofs.OG
structure Bh where
 ep:Nat
 mem:List Int
 fC:List (List Nat)
 next:List Int
 asked:List (Int×List Int)
structure En where
 kind:Nat
 id:Int
 ep:Int
 x:List Int
 fC:List (List Nat)
 next:List Int
 gN:List (Int×List (List Nat))
def dlF:List (Int×List (List Nat))->Int->Bool
 | [],_=>true
 | d::l,last=> !(decide (d.1<=last) || (decide (4<d.1) || !AV d.2))&&dlF l d.1
def oR (ds:List (Int×List (List Nat))):Bool:=dlF ds 0&&decide (ds.length=2)
def WT (ls:List (List Nat)):List Nat:=PO ls 0
def GT (fC:List (List Nat)) (ds:List (Int×List (List Nat))):Bool:=ds.all fun d=>decide (WT d.2=AD fC d.1.toNat)
def wt (a b:Nat):Nat:=(CQ (iD a b 11*1%11+1) 11 (iD a b 11%11) 0 (1%11) 11).2*iD 0 b 11%11
def wts (a b:Nat):List Nat:=[wt a b,wt b a]
def aRJ (ds:List (Int×List (List Nat))) (w:List Nat):List (List Nat):=
 [0,1].map fun s=>[0,1].map fun j=>Jf ((PO (EZ (ds.map Prod.snd) s) j).zip w) (LI [])
def PQ (ds:List (Int×List (List Nat))):List (List Nat):=match ds with
 | [d,e]=>aRJ ds (wts d.1.toNat e.1.toNat)
 | _=>[]
def qF (x:List Int):Nat:=if x.length=1 then(if x.any fun n=>decide (n< -1) || decide (1<n)then 20 else 0)else 4
def GB (asked:List (Int×List Int)) (id:Int) (x:List Int):Nat:=
 if qF x=4\/id<1\/1099511627776<id then 4 else if qF x≠0 then qF x else
 if asked.any fun a=>decide (a.1=id)then 6 else if 8<=asked.length then 41 else if asked.any fun a=> !decide (a.2=x)then 22 else 0
open Classical in
def doF (s:Bh) (e:En):Bh×Nat:=
 if e.kind=1 then(if s.ep≠0 then(s,7)else if AV e.fC=false then(s,4)else({s with ep:=1,fC:=e.fC},0))
 else if e.kind=2 then(if s.ep=0 then(s,7)else if GB s.asked e.id e.x=0 then({s with asked:=s.asked++[(e.id,e.x)]},0)else(s,GB s.asked e.id e.x))
 else if e.kind=3 then(if s.ep=0 then(s,7)else if ¬(s.next.length=0/\e.ep=s.ep)then(s,7)else if LL e.next=false then(s,4)else({s with next:=e.next},0))
 else if e.kind=4 then(if ¬(0<s.next.length/\e.ep=s.ep)then(s,7)else if oR e.gN=false then(s,4)else if GT s.fC e.gN=false then(s,21)else
  (⟨s.ep+1,s.next,PQ e.gN,[],s.asked⟩,0))
 else(s,4)
structure Ek (s:Bh):Prop where
 mem:LL s.mem=true
 c0:s.ep=0->s.fC=[]/\s.next=[]
 c1:0<s.ep->AV s.fC=true
 nx:s.next=[]\/LL s.next=true
 ask:∃x:Int,-1<=x/\x<=1/\∀a∈s.asked,a.2=[x]
 few:s.asked.length<=8
theorem Hj{l:List Int} (h:LL l=true):l.length=4:=by
 unfold LL at h;rw [dZ]at h;exact of_decide_eq_true h.1
theorem CL{l:List (List Nat)}:AV l=true↔l.length=2/\∀c∈l,c.length=2/\∀a∈c,Jg a=true:=by
 unfold AV;rw [dZ,decide_eq_true_iff,KB,List.any_eq_false];refine and_congr_right fun _=>forall_congr' fun c=>imp_congr_right fun _=>?_;rw [Bool.not_eq_true,Bool.or_eq_false_iff,Bool.not_eq_false',decide_eq_true_iff,List.any_eq_false];refine and_congr_right fun _=>forall_congr' fun a=>imp_congr_right fun _=>?_;rw [Bool.not_eq_true,Bool.not_eq_false']
theorem Hk{a:Nat} (h:Jg a=true):a<23:=by
 unfold Jg at h;simp only [dZ,decide_eq_true_iff]at h;exact h.2.1
theorem aE4 (a b:Nat):wt a b<11:=jD _ (by decide)
set_option maxRecDepth 20000 in
theorem aTz:∀a<23,Jg a=true->∀e<11,Jg (pw a e)=true:=by decide
set_option maxRecDepth 20000 in
theorem aPv:∀a<23,Jg a=true->∀b<23,Jg b=true->Jg (LI [a,b])=true:=by decide
theorem aMm:∀(l:List (Nat×Nat)) (a:Nat),Jg a=true->(∀p∈l,Jg p.1=true/\p.2<11)->Jg (Jf l a)=true:=by
 intro l;induction l with
 | nil=>intro a h _;exact h
 | cons p l ih=>
  intro a h hl;obtain⟨y,w⟩:=p;have h1:=hl _ (.head _);have h2:=aTz y (Hk h1.1) h1.1 w h1.2;exact ih _ (aPv a (Hk h) h _ (Hk h2) h2) fun p hp=>hl p (.tail _ hp)
theorem Zb:∀(ds:List (Int×List (List Nat))) (z:Int),dlF ds z=true->∀d∈ds,z<d.1/\d.1<=4/\AV d.2=true:=by
 intro ds;induction ds with
 | nil=>intro z _ d hd;cases hd
 | cons a ds ih=>
  intro z h d hd;unfold dlF at h;simp only [dZ,KB,Bool.or_eq_false_iff,decide_eq_false_iff_not,Bool.not_eq_false']at h;rcases List.mem_cons.1 hd with rfl | hd
  ·exact⟨by omega,by omega,h.1.2.2⟩
  ·obtain⟨h1,h2,h3⟩:=ih a.1 h.2 d hd
   exact⟨by omega,h2,h3⟩
theorem Jh{ds:List (Int×List (List Nat))} (h:oR ds=true):∃d e,ds=[d,e]/\0<d.1/\d.1<e.1/\e.1<=4/\AV d.2=true/\AV e.2=true:=by
 unfold oR at h;rw [dZ,decide_eq_true_iff]at h;obtain⟨h,hl⟩:=h
 match ds,hl with
 | [d,e],_=>
  have h1:=Zb _ _ h d (.head _);have h2:=Zb _ _ h e (.tail _ (.head _));unfold dlF at h;rw [dZ]at h;have h3:=Zb _ _ h.2 e (.head _);exact⟨d,e,rfl,h1.1,h3.1,h2.2.1,h1.2.2,h2.2.2⟩
theorem Lq{l:List (List Nat)} (h:AV l=true){s j:Nat} (hs:s<2) (hj:j<2):Jg ((l.getD s []).getD j 0)=true:=by
 obtain⟨h1,h2⟩:=CL.1 h;have hs':s<l.length:=by omega
 have e1:l.getD s []=l[s]:=by rw [BG,aT hs'];rfl
 obtain⟨h3,h4⟩:=h2 _ (cO hs');rw [e1];have Vy:j<l[s].length:=by omega
 have e2:l[s].getD j 0=l[s][j]:=by rw [BG,aT Vy];rfl
 rw [e2];exact h4 _ (cO Vy)
theorem aGB{ds:List (Int×List (List Nat))} (h:oR ds=true):AV (PQ ds)=true:=by
 obtain⟨d,e,rfl,h1,h2,h3,f1,f2⟩:=Jh h;refine CL.2 ⟨rfl,fun c hc=>?_⟩;obtain⟨s,hs,rfl⟩:=List.mem_map.1 hc;have uA:s<2:=by simp at hs;omega
 refine⟨rfl,fun a ha=>?_⟩;obtain⟨j,hj,rfl⟩:=List.mem_map.1 ha;have Rx:j<2:=by simp at hj;omega
 refine aMm _ _ (by decide) fun p hp=>?_
 have hp:p=((d.2.getD s []).getD j 0,wt d.1.toNat e.1.toNat)\/p=((e.2.getD s []).getD j 0,wt e.1.toNat d.1.toNat):=by
  simpa [PO,EZ,wts]using hp
 rcases hp with rfl | rfl
 ·exact⟨Lq f1 uA Rx,aE4 _ _⟩
 ·exact⟨Lq f2 uA Rx,aE4 _ _⟩
theorem aGC{asked:List (Int×List Int)}{id:Int}{x:List Int} (h:GB asked id x=0):(∃z:Int,x=[z]/\ -1<=z/\z<=1)/\(∀a∈asked,a.2=x)/\asked.length<8:=by
 unfold GB at h;split at h
 ·cases h
 ·rename_i c1
  split at h
  ·rename_i c2;exact bC h c2
  ·rename_i c2
   split at h
   ·cases h
   ·split at h
    ·cases h
    ·rename_i c4
     split at h
     ·cases h
     ·rename_i c5
      refine⟨?_,?_,by omega⟩
      ·have c2:qF x=0:=Classical.not_not.1 c2
       unfold qF at c2;split at c2
       ·rename_i hx
        split at c2
        ·cases c2
        ·rename_i hn
         match x,hx with
         | [z],_=>exact⟨z,rfl,by simp at hn;omega,by simp at hn;omega⟩
       ·cases c2
      ·intro a ha
       simp only [List.any_eq_true,not_exists,not_and]at c5;have:=c5 a ha;simpa using this
theorem Ek.step{s:Bh} (h:Ek s) (e:En):Ek (doF s e).1:=by
 unfold doF;split
 ·split
  ·exact h
  ·split
   ·exact h
   ·rename_i h1 h2
    have h0:s.ep=0:=Classical.not_not.1 h1;obtain⟨a,b⟩:=h.c0 h0;exact⟨h.mem,fun c=>bC c (Nat.succ_ne_zero 0),fun _=>(by simpa using h2),h.nx,h.ask,h.few⟩
 ·split
  ·split
   ·exact h
   ·split
    ·rename_i h1 h2
     obtain⟨⟨z,hx,Gi,Qv⟩,ha,hl⟩:=aGC h2;refine⟨h.mem,h.c0,h.c1,h.nx,⟨z,Gi,Qv,fun a hm=>?_⟩,by simp;omega⟩;rcases List.mem_append.1 hm with hm | hm
     ·rw [ha a hm,hx]
     ·rcases List.mem_cons.1 hm with rfl | hm
      ·exact hx
      ·cases hm
    ·exact h
  ·split
   ·split
    ·exact h
    ·split
     ·exact h
     ·split
      ·exact h
      ·rename_i h1 h2 h3
       exact⟨h.mem,fun c=>bC c h1,h.c1,.inr (by simpa using h3),h.ask,h.few⟩
   ·split
    ·split
     ·exact h
     ·split
      ·exact h
      ·split
       ·exact h
       ·rename_i h1 h2 h3
        have h1:=Classical.not_not.1 h1;refine⟨?_,fun c=>(by cases c),fun _=>aGB (by simpa using h2),.inl rfl,h.ask,h.few⟩;rcases h.nx with q | q
        ·rw [q]at h1;exact bC h1.1 (by decide)
        ·exact q
    ·exact h
end Go.Am
set_option maxRecDepth 100000
namespace Go.Am
def Ff (x:VE) (a0 a1:V) (S:Hp) (K:KV):Prop:=
 iG 29 a0 S fun v0 S=>
 bR 12 v0 S fun v1 S=>
 aV 1 v0 fun v2=>
 aW v2 S fun v3 S=>
 x.call vI [v1,a1,.nil] S fun v4 S=>
 aW v2 S fun v5 _=>
 aU v5 v3 (x.call HP [v4,v3] S fun v6 S=>bF v6 S K)
theorem Zj (x:VE) (a0 a1:V) (S:Hp) (K:KV):jX PP bK JR x [a0,a1] S K=Ff x a0 a1 S K:=by kernel_rfl
def qJ (x:VE) (m:Nat) (t2 t3 t7 t12 t13 t14:V) (S:Hp) (K:KV):Prop:=dW PP bK vI x [.r,.r,.l,.r,.d] m [] [t2,t3,t7,t12,t13,t14] S K
def oU (x:VE) (m:Nat) (t3 t7 t26 t27 t28:V) (S:Hp) (K:KV):Prop:=dW PP bK vI x [.r,.r,.r,.l,.r,.d] m [] [t3,t7,t26,t27,t28] S K
def Fg (x:VE) (a0 a1 a2:V) (S:Hp) (K:KV):Prop:=
 iG 29 a0 S fun v0 S=>
 bP a1 fun v1=>
 qJ x x.most a2 v0 .nil a1 v1 (.int .i64 (.ofNat 0)) S K
theorem Zk (x:VE) (a0 a1 a2:V) (S:Hp) (K:KV):jX PP bK vI x [a0,a1,a2] S K=Fg x a0 a1 a2 S K:=by kernel_rfl
def AJ (x:VE) (m0:Nat) (t2 t3 t7 t12 t13 t14:V) (S:Hp) (K:KV):Prop:=
 cR S fun S=>
 aJ PP .lss 3 t14 t13 fun v0=>
 iR v0 (cV 2 t12 t14 fun v1=>bR 2 v1 S fun v2 S=>dQ [(.int .i64 (.ofNat 0)),(.slice none 0 0)] 111 S fun v3 S=>nI 2 v3 v2 S fun S=>bR 12 t3 S fun v4 S=>aV 1 v3 fun v5=>aW v5 S fun v6 S=>x.call HQ [v4,v6] S fun v7 S=>aS 51 1 [(.slice none 0 0)] [(0,1,v7)] S fun v8 S=>jW 51 1 24 t7 v8 S fun v9 S=>aJ PP .add 3 t14 (.int .i64 (.ofNat 1)) fun v10=>qJ x m0 t2 t3 v9 t12 t13 v10 S K) (bP t2 fun v11=>oU x x.most t3 t7 t2 v11 (.int .i64 (.ofNat 0)) S K)
theorem JE (x:VE) (m0:Nat) (t2 t3 t7 t12 t13 t14:V) (S:Hp) (K:KV):qJ x (m0+1) t2 t3 t7 t12 t13 t14 S K=AJ x m0 t2 t3 t7 t12 t13 t14 S K:=by kernel_rfl
def rX (x:VE) (m0:Nat) (t3 t7 t26 t27 t28:V) (S:Hp) (K:KV):Prop:=
 cR S fun S=>
 aJ PP .lss 3 t28 t27 fun v0=>
 iR v0 (cV 1 t26 t28 fun v1=>aW v1 S fun v2 S=>bR 12 t3 S fun v3 S=>x.call HQ [v3,v2] S fun v4 S=>aS 51 1 [(.slice none 0 0)] [(0,1,v4)] S fun v5 S=>jW 51 1 24 t7 v5 S fun v6 S=>aJ PP .add 3 t28 (.int .i64 (.ofNat 1)) fun v7=>oU x m0 t3 v6 t26 t27 v7 S K) (bF t7 S K)
theorem yL (x:VE) (m0:Nat) (t3 t7 t26 t27 t28:V) (S:Hp) (K:KV):oU x (m0+1) t3 t7 t26 t27 t28 S K=rX x m0 t3 t7 t26 t27 t28 S K:=by kernel_rfl
def qK (x:VE) (m:Nat) (t3 t6 t7 t8:V) (S:Hp) (K:KV):Prop:=dW PP bK zC x [.r,.r,.l,.r,.d] m [] [t3,t6,t7,t8] S K
def Fh (x:VE) (a0:V) (S:Hp) (K:KV):Prop:=
 bP a0 fun v0=>
 qK x x.most .nil a0 v0 (.int .i64 (.ofNat 0)) S K
theorem Zl (x:VE) (a0:V) (S:Hp) (K:KV):jX PP bK zC x [a0] S K=Fh x a0 S K:=by kernel_rfl
def AK (x:VE) (m0:Nat) (t3 t6 t7 t8:V) (S:Hp) (K:KV):Prop:=
 cR S fun S=>
 aJ PP .lss 3 t8 t7 fun v0=>
 iR v0 (cV 2 t6 t8 fun v1=>bR 2 v1 S fun v2 S=>dQ [(.int .i64 (.ofNat 0)),(.slice none 0 0)] 111 S fun v3 S=>nI 2 v3 v2 S fun S=>aV 0 v3 fun v4=>aW v4 S fun v5 S=>aV 1 v3 fun v6=>aW v6 S fun v7 S=>x.call dY [v7] S fun v8 S=>aW v4 S fun v9 _=>aU v9 v5 (cS [(.int .i64 (.ofNat 0)),(.slice none 0 0)] [(0,1,v5),(1,1,v8)] fun v10=>aW v4 S fun v11 _=>aU v11 v5 ((aS 111 1 [(.int .i64 (.ofNat 0)),(.slice none 0 0)] [(0,2,v10)] S fun v12 S=>True)/\(aS 111 1 [(.int .i64 (.ofNat 0)),(.slice none 0 0)] [(0,2,v10)] S fun qE S=>jW 111 2 32 t3 qE S fun qU S=>aW v4 S fun wI _=>aU wI v5 (aJ PP .add 3 t8 (.int .i64 (.ofNat 1)) fun wJ=>qK x m0 qU t6 t7 wJ S K))))) (bF t3 S K)
theorem JF (x:VE) (m0:Nat) (t3 t6 t7 t8:V) (S:Hp) (K:KV):qK x (m0+1) t3 t6 t7 t8 S K=AK x m0 t3 t6 t7 t8 S K:=by kernel_rfl
def Jk (x:VE) (a0 a1 a2 a3:V) (S:Hp) (K:KV):Prop:=
 iG 29 a0 S fun v0 S=>
 bR 12 v0 S fun v1 S=>
 x.call AX [v1,a1,a2,a3] S fun v2 S=>
 aJ PP .neq 46 v2 (.int .i64 (.ofNat 0)) fun v3=>
 iR v3 (bF (.tuple [.nil,v2]) S K) (x.call zC [a1] S fun v4 S=>x.call dY [a3] S fun v5 S=>cS [(.int .i64 (.ofNat 0)),(.slice none 0 0)] [(0,1,a2),(1,1,v5)] fun v6=>aS 111 1 [(.int .i64 (.ofNat 0)),(.slice none 0 0)] [(0,2,v6)] S fun v7 S=>jW 111 2 32 v4 v7 S fun v8 S=>bF (.tuple [v8,(.int .i64 (.ofNat 0))]) S K)
theorem aBW (x:VE) (a0 a1 a2 a3:V) (S:Hp) (K:KV):jX PP bK NH x [a0,a1,a2,a3] S K=Jk x a0 a1 a2 a3 S K:=by kernel_rfl
def lQ (x:VE) (m:Nat) (t26 t27 t28:V) (S:Hp) (K:KV):Prop:=dW PP bK AX x [.r,.r,.l,.r,.d] m [] [t26,t27,t28] S K
def ZQ (x:VE) (a0 a1 a2 a3:V) (S:Hp) (K:KV):Prop:=
 iG 29 a0 S fun v0 S=>
 iG 34 a1 S fun v1 S=>
 iG 3 a2 S fun v2 S=>
 iG 39 a3 S fun v3 S=>
 bR 12 v0 S fun v4 S=>
 aW v3 S fun v5 S=>
 x.call GX [v4,v5] S fun v6 S=>
 dQ [(.int .i64 (.ofNat 0))] 46 S fun v7 S=>
 nI 1 v7 v6 S fun S=>
 cS [.nilFunc,(.int .i64 (.ofNat 0))] [(0,1,(.func lW [] [v7,v2])),(1,1,(.int .i64 (.ofNat 4)))] fun v8=>
 aW v7 S fun v9 S=>
 cS [.nilFunc,(.int .i64 (.ofNat 0))] [(0,1,(.func lX [] [v7])),(1,1,v9)] fun v10=>
 cS [.nilFunc,(.int .i64 (.ofNat 0))] [(0,1,(.func lY [] [v1,v2])),(1,1,(.int .i64 (.ofNat 6)))] fun v11=>
 cS [.nilFunc,(.int .i64 (.ofNat 0))] [(0,1,(.func lZ [] [v1])),(1,1,(.int .i64 (.ofNat 41)))] fun v12=>
 cS [.nilFunc,(.int .i64 (.ofNat 0))] [(0,1,(.func mA [] [v0,v1,v3])),(1,1,(.int .i64 (.ofNat 22)))] fun qE=>
 aS 231 5 [.nilFunc,(.int .i64 (.ofNat 0))] [(0,2,v8),(2,2,v10),(4,2,v11),(6,2,v12),(8,2,qE)] S fun qU S=>
 bP qU fun wI=>
 lQ x x.most qU wI (.int .i64 (.ofNat 0)) S K
theorem Ss (x:VE) (a0 a1 a2 a3:V) (S:Hp) (K:KV):jX PP bK AX x [a0,a1,a2,a3] S K=ZQ x a0 a1 a2 a3 S K:=by kernel_rfl
def yM (x:VE) (m0:Nat) (t26 t27 t28:V) (S:Hp) (K:KV):Prop:=
 cR S fun S=>
 aJ PP .lss 3 t28 t27 fun v0=>
 iR v0 (cV 2 t26 t28 fun v1=>bR 2 v1 S fun v2 S=>dQ [.nilFunc,(.int .i64 (.ofNat 0))] 231 S fun v3 S=>nI 2 v3 v2 S fun S=>aV 0 v3 fun v4=>aW v4 S fun v5 S=>mH x v5 [] S fun v6 S=>iR v6 (aV 1 v3 fun v7=>aW v7 S fun v8 S=>bF v8 S K) (aJ PP .add 3 t28 (.int .i64 (.ofNat 1)) fun v9=>lQ x m0 t26 t27 v9 S K)) (bF (.int .i64 (.ofNat 0)) S K)
theorem HU (x:VE) (m0:Nat) (t26 t27 t28:V) (S:Hp) (K:KV):lQ x (m0+1) t26 t27 t28 S K=yM x m0 t26 t27 t28 S K:=by kernel_rfl
def TH (x:VE) (a0 a1:V) (S:Hp) (K:KV):Prop:=
 aW a0 S fun v0 S=>
 aJ PP .eql 46 v0 (.int .i64 (.ofNat 4)) fun v1=>
 aI x.most (aH false v1 (fun k=>aW a1 S fun v2 S=>k v2 S) S fun v3 S=>aI x.most (aH false v1 (fun k=>aJ PP .lss 3 v3 (.int .i64 (.ofNat 1)) fun v4=>k v4 S) S fun v5 S=>aI x.most (fK v1 (.bool true) v5 fun v6=>aI x.most (aH false v6 (fun k=>aW a1 S fun v7 S=>k v7 S) S fun v8 S=>aI x.most (aH false v6 (fun k=>aJ PP .gtr 3 v8 (.int .i64 (.ofNat 1099511627776)) fun v9=>k v9 S) S fun v10 S=>aI x.most (fK v6 (.bool true) v10 fun v11=>bF v11 S K))))))
theorem Kk (x:VE) (a0 a1:V) (S:Hp) (K:KV):jX PP bK lW x [a0,a1] S K=TH x a0 a1 S K:=by kernel_rfl
def TI (x:VE) (a0:V) (S:Hp) (K:KV):Prop:=
 aW a0 S fun v0 S=>
 aJ PP .neq 46 v0 (.int .i64 (.ofNat 0)) fun v1=>
 bF v1 S K
theorem Kl (x:VE) (a0:V) (S:Hp) (K:KV):jX PP bK lX x [a0] S K=TI x a0 S K:=by kernel_rfl
def TJ (x:VE) (a0 a1:V) (S:Hp) (K:KV):Prop:=
 aW a0 S fun v0 S=>
 x.call dK [v0,(.func EI [] [a1])] S fun v1 S=>
 bF v1 S K
theorem Km (x:VE) (a0 a1:V) (S:Hp) (K:KV):jX PP bK lY x [a0,a1] S K=TJ x a0 a1 S K:=by kernel_rfl
def NI (x:VE) (a0 a1:V) (S:Hp) (K:KV):Prop:=
 iG 111 a0 S fun v0 S=>
 aV 0 v0 fun v1=>
 aW v1 S fun v2 S=>
 aW a1 S fun v3 S=>
 aJ PP .eql 3 v2 v3 fun v4=>
 bF v4 S K
theorem Fi (x:VE) (a0 a1:V) (S:Hp) (K:KV):jX PP bK EI x [a0,a1] S K=NI x a0 a1 S K:=by kernel_rfl
def TK (x:VE) (a0:V) (S:Hp) (K:KV):Prop:=
 aW a0 S fun v0 S=>
 bP v0 fun v1=>
 aJ PP .geq 3 v1 (.int .i64 (.ofNat 8)) fun v2=>
 bF v2 S K
theorem Ko (x:VE) (a0:V) (S:Hp) (K:KV):jX PP bK lZ x [a0] S K=TK x a0 S K:=by kernel_rfl
def TL (x:VE) (a0 a1 a2:V) (S:Hp) (K:KV):Prop:=
 bR 12 a0 S fun v0 S=>
 aW a1 S fun v1 S=>
 aW a2 S fun v2 S=>
 aV 1 a0 fun v3=>
 aW v3 S fun v4 S=>
 aV 9 a0 fun v5=>
 aW v5 S fun v6 S=>
 aW v5 S fun v7 _=>
 aU v7 v6 (aW v3 S fun v8 _=>aU v8 v4 (aW a2 S fun v9 _=>aU v9 v2 (aW a1 S fun v10 _=>aU v10 v1 (bR 12 a0 S fun v11 _=>aU v11 v0 ((aS 39 1 [(.slice none 0 0)] [(0,1,v2)] S fun v12 S=>True)/\(aS 39 1 [(.slice none 0 0)] [(0,1,v2)] S fun qE S=>x.call vI [v0,v1,qE] S fun qU S=>aW v5 S fun wI _=>aU wI v6 (aW v3 S fun wJ _=>aU wJ v4 (x.call HP [qU,v4] S fun wH S=>aW v5 S fun vC _=>aU vC v6 (aJ PP .gtr 3 wH v6 fun yI=>bF yI S K)))))))))
theorem Kp (x:VE) (a0 a1 a2:V) (S:Hp) (K:KV):jX PP bK mA x [a0,a1,a2] S K=TL x a0 a1 a2 S K:=by kernel_rfl
def Jl (x:VE) (a0 a1:V) (S:Hp) (K:KV):Prop:=
 iG 29 a0 S fun v0 S=>
 bR 12 v0 S fun v1 S=>
 x.call HR [v1] S fun v2 S=>
 SP .not v2 fun v3=>
 iR v3 (bF .nil S K) (aV 8 v0 fun v4=>aW v4 S fun v5 S=>aJ PP .add 3 v5 (.int .i64 (.ofNat 1)) fun v6=>vMk 22 8 [(.int .u64 (.ofNat 0))] v6 v6 S fun v7 S=>aV 8 v0 fun v8=>aW v8 S fun v9 S=>LG 22 1 v7 none (some v9) none S fun v10=>aV 1 v0 fun v11=>aW v11 S fun v12 S=>x.call wB [v12,a1] S fun qE S=>aW v8 S fun qU _=>aU qU v9 (Up 1 v10 qE S fun wI S=>aW v8 S fun wJ _=>aU wJ v9 (aV 8 v0 fun wH=>aW wH S fun vC S=>aV 1 v0 fun yI=>aW yI S fun v20 S=>x.call CP [(.int .i64 (.ofNat 1)),v20] S fun v21 S=>aW wH S fun JC _=>aU JC vC (cV 1 v7 vC fun GC=>nI 1 GC v21 S fun S=>bF v7 S K))))
theorem aBX (x:VE) (a0 a1:V) (S:Hp) (K:KV):jX PP bK HQ x [a0,a1] S K=Jl x a0 a1 S K:=by kernel_rfl
def Jm (x:VE) (a0:V) (S:Hp) (K:KV):Prop:=
 iG 29 a0 S fun v0 S=>
 aV 7 v0 fun v1=>
 aW v1 S fun v2 S=>
 aJ PP .geq 3 v2 (.int .i64 (.ofNat 0)) fun v3=>
 aI x.most (aH true v3 (fun k=>aV 7 v0 fun v4=>k v4 S) S fun v5 S=>aI x.most (aH true v3 (fun k=>aW v5 S fun v6 S=>k v6 S) S fun v7 S=>aI x.most (aH true v3 (fun k=>aJ PP .leq 3 v7 (.int .i64 (.ofNat 2)) fun v8=>k v8 S) S fun v9 S=>aI x.most (fK v3 v9 (.bool false) fun v10=>aI x.most (aH true v10 (fun k=>aV 8 v0 fun v11=>k v11 S) S fun v12 S=>aI x.most (aH true v10 (fun k=>aW v12 S fun qE S=>k qE S) S fun qU S=>aI x.most (aH true v10 (fun k=>aJ PP .geq 3 qU (.int .i64 (.ofNat 0)) fun wI=>k wI S) S fun wJ S=>aI x.most (fK v10 wJ (.bool false) fun wH=>aI x.most (aH true wH (fun k=>aV 8 v0 fun vC=>k vC S) S fun yI S=>aI x.most (aH true wH (fun k=>aW yI S fun v20 S=>k v20 S) S fun v21 S=>aI x.most (aH true wH (fun k=>aJ PP .leq 3 v21 (.int .i64 (.ofNat 4)) fun JC=>k JC S) S fun GC S=>aI x.most (fK wH GC (.bool false) fun v24=>aI x.most (aH true v24 (fun k=>aV 10 v0 fun OD=>k OD S) S fun SZ S=>aI x.most (aH true v24 (fun k=>aW SZ S fun ZE S=>k ZE S) S fun v28 S=>aI x.most (aH true v24 (fun k=>aJ PP .geq 2 v28 (.int .i64 (.ofNat 0)) fun v29=>k v29 S) S fun v30 S=>aI x.most (fK v24 v30 (.bool false) fun v31=>aI x.most (aH true v31 (fun k=>aV 10 v0 fun Sr=>k Sr S) S fun Lr S=>aI x.most (aH true v31 (fun k=>aW Lr S fun Fd S=>k Fd S) S fun Qk S=>aI x.most (aH true v31 (fun k=>aJ PP .leq 2 Qk (.int .i64 (.ofNat 1048576)) fun Cb=>k Cb S) S fun v37 S=>aI x.most (fK v31 v37 (.bool false) fun Bt=>aI x.most (aH true Bt (fun k=>aV 11 v0 fun Jj=>k Jj S) S fun v40 S=>aI x.most (aH true Bt (fun k=>aW v40 S fun XY S=>k XY S) S fun Rb S=>aI x.most (aH true Bt (fun k=>aJ PP .geq 2 Rb (.int .i64 (.ofNat 0)) fun Uz=>k Uz S) S fun v44 S=>aI x.most (fK Bt v44 (.bool false) fun Ql=>aI x.most (aH true Ql (fun k=>aV 11 v0 fun v46=>k v46 S) S fun v47 S=>aI x.most (aH true Ql (fun k=>aW v47 S fun v48 S=>k v48 S) S fun v49 S=>aI x.most (aH true Ql (fun k=>aJ PP .leq 2 v49 (.int .i64 (.ofNat 1048576)) fun v50=>k v50 S) S fun v51 S=>aI x.most (fK Ql v51 (.bool false) fun v52=>bF v52 S K))))))))))))))))))))))))))))
theorem aBY (x:VE) (a0:V) (S:Hp) (K:KV):jX PP bK HR x [a0] S K=Jm x a0 S K:=by kernel_rfl
def wU (x:VE) (m:Nat) (t0 t5 t8 t9 t10:V) (S:Hp) (K:KV):Prop:=dW PP bK wB x [.r,.r,.l,.r,.d] m [] [t0,t5,t8,t9,t10] S K
def TM (x:VE) (a0 a1:V) (S:Hp) (K:KV):Prop:=
 bP a1 fun v0=>
 wU x x.most a0 .nil a1 v0 (.int .i64 (.ofNat 0)) S K
theorem Kq (x:VE) (a0 a1:V) (S:Hp) (K:KV):jX PP bK wB x [a0,a1] S K=TM x a0 a1 S K:=by kernel_rfl
def vJ (x:VE) (m0:Nat) (t0 t5 t8 t9 t10:V) (S:Hp) (K:KV):Prop:=
 cR S fun S=>
 aJ PP .lss 3 t10 t9 fun v0=>
 iR v0 (cV 1 t8 t10 fun v1=>aW v1 S fun v2 S=>x.call CP [v2,t0] S fun v3 S=>aS 22 1 [(.int .u64 (.ofNat 0))] [(0,1,v3)] S fun v4 S=>jW 22 1 8 t5 v4 S fun v5 S=>aJ PP .add 3 t10 (.int .i64 (.ofNat 1)) fun v6=>wU x m0 t0 v5 t8 t9 v6 S K) (bF t5 S K)
theorem EJ (x:VE) (m0:Nat) (t0 t5 t8 t9 t10:V) (S:Hp) (K:KV):wU x (m0+1) t0 t5 t8 t9 t10 S K=vJ x m0 t0 t5 t8 t9 t10 S K:=by kernel_rfl
def Jn (x:VE) (a0 a1:V) (S:Hp) (K:KV):Prop:=
 aJ PP .lss 2 a0 (.int .i64 (.ofNat 0)) fun v0=>
 iR v0 (LE .u64 a0 fun v1=>SP .neg v1 fun v2=>x.call yR [(.int .u64 (.ofNat 0)),v2,a1] S fun v3 S=>bF v3 S K) (LE .u64 a0 fun v4=>x.call CF [v4,(.int .u64 (.ofNat 0)),a1] S fun v5 S=>bF v5 S K)
theorem aBZ (x:VE) (a0 a1:V) (S:Hp) (K:KV):jX PP bK CP x [a0,a1] S K=Jn x a0 a1 S K:=by kernel_rfl
def ZR (x:VE) (a0 a1:V) (S:Hp) (K:KV):Prop:=
 iG 29 a0 S fun v0 S=>
 bR 12 v0 S fun v1 S=>
 x.call HR [v1] S fun v2 S=>
 SP .not v2 fun v3=>
 aI x.most (aH false v3 (fun k=>k a1 S) S fun v4 S=>aI x.most (aH false v3 (fun k=>bP v4 fun v5=>k v5 S) S fun v6 S=>aI x.most (aH false v3 (fun k=>aV 8 v0 fun v7=>k v7 S) S fun v8 S=>aI x.most (aH false v3 (fun k=>aW v8 S fun v9 S=>k v9 S) S fun v10 S=>aI x.most (aH false v3 (fun k=>aJ PP .neq 3 v6 v10 fun v11=>k v11 S) S fun v12 S=>aI x.most (fK v3 (.bool true) v12 fun qE=>iR qE (bF (.int .i64 (.ofNat 4)) S K) (aV 11 v0 fun qU=>aW qU S fun wI S=>aS 39 1 [(.slice none 0 0)] [(0,1,a1)] S fun wJ S=>x.call tU [wI,wJ] S fun wH S=>SP .not wH fun vC=>iR vC (bF (.int .i64 (.ofNat 20)) S K) (bF (.int .i64 (.ofNat 0)) S K))))))))
theorem Su (x:VE) (a0 a1:V) (S:Hp) (K:KV):jX PP bK GX x [a0,a1] S K=ZR x a0 a1 S K:=by kernel_rfl
def sZ (x:VE) (m:Nat) (t2 t7 t8 t9:V) (S:Hp) (K:KV):Prop:=dW PP bK tU x [.r,.l,.r,.d] m [] [t2,t7,t8,t9] S K
def WZ (x:VE) (a0 a1:V) (S:Hp) (K:KV):Prop:=
 iG 2 a0 S fun v0 S=>
 bP a1 fun v1=>
 sZ x x.most v0 a1 v1 (.int .i64 (.ofNat 0)) S K
theorem Qm (x:VE) (a0 a1:V) (S:Hp) (K:KV):jX PP bK tU x [a0,a1] S K=WZ x a0 a1 S K:=by kernel_rfl
def yN (x:VE) (m0:Nat) (t2 t7 t8 t9:V) (S:Hp) (K:KV):Prop:=
 cR S fun S=>
 aJ PP .lss 3 t9 t8 fun v0=>
 iR v0 (cV 1 t7 t9 fun v1=>aW v1 S fun v2 S=>x.call fF [v2,(.func zD [] [t2])] S fun v3 S=>iR v3 (bF (.bool false) S K) (aJ PP .add 3 t9 (.int .i64 (.ofNat 1)) fun v4=>sZ x m0 t2 t7 t8 v4 S K)) (bF (.bool true) S K)
theorem HV (x:VE) (m0:Nat) (t2 t7 t8 t9:V) (S:Hp) (K:KV):sZ x (m0+1) t2 t7 t8 t9 S K=yN x m0 t2 t7 t8 t9 S K:=by kernel_rfl
def PW (x:VE) (a0 a1:V) (S:Hp) (K:KV):Prop:=
 aW a1 S fun v0 S=>
 SP .neg v0 fun v1=>
 aJ PP .lss 2 a0 v1 fun v2=>
 aI x.most (aH false v2 (fun k=>k a0 S) S fun v3 S=>aI x.most (aH false v2 (fun k=>aW a1 S fun v4 S=>k v4 S) S fun v5 S=>aI x.most (aH false v2 (fun k=>aJ PP .gtr 2 v3 v5 fun v6=>k v6 S) S fun v7 S=>aI x.most (fK v2 (.bool true) v7 fun v8=>bF v8 S K))))
theorem Hu (x:VE) (a0 a1:V) (S:Hp) (K:KV):jX PP bK zD x [a0,a1] S K=PW x a0 a1 S K:=by kernel_rfl
end Go.Am
set_option maxRecDepth 4000
namespace Go.Am
open Go.Proofs.OG
section
variable{M n:Nat}{x:VE}{S:Hp}{K:KV}{two:Bool}
theorem aKs:gM cD=none:=rfl
theorem aKt:gM dY=none:=rfl
theorem aKu:Dx PP 51=some .slice:=by kernel_rfl
theorem aKv:Dx PP 39=some .slice:=by kernel_rfl
theorem aFd{S0 S:Hp}{l:List Nat} (j:Nat) (v:V) (d:Dt) (h1:(oD l)[j]? =some v) (h2:(kK l)[j]? =some d):Du S0 S v d:=Xq (o:=0) (fun j n hj=>by rw [eJ];exact IJ hj) j v d (by rw [eJ];exact h1) h2
theorem aFe{S0 S:Hp}{l:List Int} (j:Nat) (v:V) (d:Dt) (h1:(zvs l)[j]? =some v) (h2:(kW l)[j]? =some d):Du S0 S v d:=by
 unfold zvs at h1;unfold kW at h2;rw [eH]at h1 h2;cases hq:l[j]? with
 | none=>rw [hq]at h2;cases h2
 | some z=>rw [hq]at h1 h2;injection h1 with h1;injection h2 with h2;subst h1 h2;exact .int
theorem aB1 (hx:Deep PP bK gM M (n+1) x){O:Tag}{l:List Nat} (hl:l.length*8<=140737488355328) (hK:∀O',K (.list O' (kK l) l.length) S):x.call cD [.list O (kK l) l.length] S K:=by
 refine hx.call aKs fun y hy=>?_;rw [CU];unfold qW
 have rest:(aS 22 0 [(.int .u64 (.ofNat 0))] [] S fun v1 S=>jW 22 1 8 v1 (.list O (kK l) l.length) S fun v2 S=>bF v2 S K):=by
  intro j hj;have hle:bU S (aL S j (.row [] 22)):= .aK hj;show jW 22 1 8 (.own j 0 0 0) (.list O (kK l) l.length) (aL S j (.row [] 22)) _;refine⟨by rw [GP];omega,?_⟩;rw [mC (by rw [GP];omega),aIe];cases hl0:l.length with
  | zero=>
   have e0:l=[]:=sB hl0;subst e0;exact⟨bQ _,gP hle (.own (cs:=[]) aB hj (bQ _) (bQ _) (fun j v d a b=>by cases b)) hK⟩
  | succ q=>
   refine⟨aLE l,?_⟩;simp only [aB];refine⟨by omega,by simp,fun c=>bC c (by omega),fun _ i hi=>?_⟩;have e2:(List.take (0*1) (List.drop 0 ([]:List V)))++oD l=oD l:=by simp
   rw [e2,show 0+(q+1)=l.length by omega];exact gP (hle.trans (.aK hi)) (.acc aB (hle.none hi) (by rw [oE,GP]) aFd) hK
 cases l with
 | nil=>exact⟨aKu,gP (.refl S) .nil hK,rest⟩
 | cons a l=>exact⟨rfl,aKu,.inr rfl,(fun e=>by cases e),rest⟩
theorem Qr (hx:Deep PP bK gM M (n+1) x){O:Tag}{l:List Int} (hl:l.length<1000000) (hK:∀O',K (.list O' (kW l) l.length) S):x.call dY [.list O (kW l) l.length] S K:=by
 refine hx.call aKt fun y hy=>?_;rw [ES];unfold sS
 have rest:(aS 2 0 [(.int .i64 (.ofNat 0))] [] S fun v1 S=>jW 2 1 8 v1 (.list O (kW l) l.length) S fun v2 S=>bF v2 S K):=by
  intro j hj;have hle:bU S (aL S j (.row [] 2)):= .aK hj;show jW 2 1 8 (.own j 0 0 0) (.list O (kW l) l.length) (aL S j (.row [] 2)) _;refine⟨by rw [EB];omega,?_⟩;rw [mC (by rw [EB];omega),aDD];cases hl0:l.length with
  | zero=>
   have e0:l=[]:=sB hl0;subst e0;exact⟨bQ _,gP hle (.own (cs:=[]) aB hj (bQ _) (bQ _) (fun j v d a b=>by cases b)) hK⟩
  | succ q=>
   refine⟨Zf l,?_⟩;simp only [aB];refine⟨by omega,by simp,fun c=>bC c (by omega),fun _ i hi=>?_⟩;have e2:(List.take (0*1) (List.drop 0 ([]:List V)))++zvs l=zvs l:=by simp
   rw [e2,show 0+(q+1)=l.length by omega];exact gP (hle.trans (.aK hi)) (.acc aB (hle.none hi) (by rw [aFa,EB]) aFe) hK
 cases l with
 | nil=>exact⟨aKv,gP (.refl S) .nil hK,rest⟩
 | cons a l=>exact⟨rfl,aKv,.inr rfl,(fun e=>by cases e),rest⟩
theorem Qs (hx:Deep PP bK gM M (n+1) x){O:Tag}{l:List Int} (hl:l.length<1000000) (hK:∀O',K (.list O' (kW l) l.length) S):x.call dE [.list O (kW l) l.length] S K:=by
 refine hx.call aBV fun y hy=>?_;rw [xE];unfold pB
 have rest:(aS 3 0 [(.int .i64 (.ofNat 0))] [] S fun v1 S=>jW 3 1 8 v1 (.list O (kW l) l.length) S fun v2 S=>bF v2 S K):=by
  intro j hj;have hle:bU S (aL S j (.row [] 3)):= .aK hj;show jW 3 1 8 (.own j 0 0 0) (.list O (kW l) l.length) (aL S j (.row [] 3)) _;refine⟨by rw [EB];omega,?_⟩;rw [mC (by rw [EB];omega),aDD];cases hl0:l.length with
  | zero=>
   have e0:l=[]:=sB hl0;subst e0;exact⟨bQ _,gP hle (.own (cs:=[]) aB hj (bQ _) (bQ _) (fun j v d a b=>by cases b)) hK⟩
  | succ q=>
   refine⟨Zf l,?_⟩;simp only [aB];refine⟨by omega,by simp,fun c=>bC c (by omega),fun _ i hi=>?_⟩;have e2:(List.take (0*1) (List.drop 0 ([]:List V)))++zvs l=zvs l:=by simp
   rw [e2,show 0+(q+1)=l.length by omega];exact gP (hle.trans (.aK hi)) (.acc aB (hle.none hi) (by rw [aFa,EB]) aFe) hK
 cases l with
 | nil=>exact⟨XW,gP (.refl S) .nil hK,rest⟩
 | cons a l=>exact⟨rfl,XW,.inr rfl,(fun e=>by cases e),rest⟩
def aD:List (Int×List Int)->List Dt
 | []=>[]
 | a::l=> .int .i64 a.1:: .list (kW a.2) a.2.length::aD l
theorem aKw (l:List (Int×List Int)):(aD l).length=l.length*2:=by induction l with | nil=>rfl | cons a l ih=>show(aD l).length+1+1=(l.length+1)*2;omega
theorem aKx (l m:List (Int×List Int)):aD (l++m)=aD l++aD m:=by induction l with | nil=>rfl | cons a l ih=>show _::_::aD (l++m)=_;rw [ih];rfl
theorem aKy{l:List (Int×List Int)}:∀{i:Nat} {a:Int×List Int},l[i]? =some a->i*2+2<=(aD l).length/\((aD l).drop (i*2)).take 2=[.int .i64 a.1,.list (kW a.2) a.2.length]:=by
 induction l with
 | nil=>intro i a h;cases h
 | cons b l ih=>
  intro i a h
  match i,h with
  | 0,h=>injection h with h;subst h;exact⟨by show 2<=(aD l).length+1+1;omega,rfl⟩
  | i+1,h=>
   obtain⟨h1,h2⟩:=ih (i:=i) h;refine⟨by show _<=(aD l).length+1+1;omega,?_⟩;rw [show(i+1)*2=i*2+2 by omega];exact h2
theorem Oz{a:Int}{t:Tag}{d:Dt}{k:V->Prop}:cS [(.int .i64 (.ofNat 0)),(.slice none 0 0)] [(0,1,(.int .i64 a)),(1,1,T t d)] k=k (.agg [.int .i64 a,T t d]):=by
 unfold cS rR;show iF [(0,1,(.int .i64 a)),(1,1,T t d)] [ni 0,.nil] _=_;unfold iF iF iF;rw [vc1 (v:= .int .i64 a) rfl,aEK];exact propext ⟨fun h=>h.2.2.2.2,fun h=>⟨rfl,by simp,rfl,by simp [bA],h⟩⟩
theorem aMN:gM zC=none:=rfl
theorem aKz (hM:1000000<M) (hx:Deep PP bK gM M (n+1) x){O:Tag}{l:List (Int×List Int)} (hl:l.length<1000000) (FN:∀a∈l,a.2.length<1000000) (hK:∀w S',bU S S'->SL 111 S S' w (aD l) l.length->K w S'):
 ∀(r i m:Nat) (u:V) (acc:List (Int×List Int)) (S1:Hp),bU S S1->SL 111 S S1 u (aD acc) acc.length->i+r=l.length->r<m->acc++l.drop i=l->qK x m u (.list O (aD l) l.length) (ni l.length) (ni i) S1 K:=by
 intro r;induction r with
 | zero=>
  intro i m u acc S1 hs CX hi hm he;obtain⟨m,rfl⟩:=bH (show m≠0 by omega);rw [JF];unfold AK;refine aF ?_;rw [aQ,jM (by omega),bE];rw [oW (by omega),FD]at he;subst he;exact aM (hK _ _ hs CX)
 | succ r ih=>
  intro i m u acc S1 hs CX hi hm he;obtain⟨m,rfl⟩:=bH (show m≠0 by omega);rw [JF];unfold AK;refine aF ?_;have hlt:i<l.length:=by omega
  obtain⟨g1,g2⟩:=aKy (aT hlt);have KQ:=FN _ (cO hlt);rw [aQ,zJ hlt,bW,jL hlt,RJ,dR g1,g2];refine cG (l:=[ni 0,.nil]) rfl fun b hb=>?_;refine iH (n:=2) (i:=b) aB rfl rfl rfl ?_;rw [fD];generalize wK:(Tl O (i*2) [.int .i64 l[i].1,.list (kW l[i].2) l[i].2.length])=cs;obtain⟨t1,wK⟩:∃t1,cs=[.int .i64 l[i].1,.list t1 (kW l[i].2) l[i].2.length]:=⟨_,wK.symm⟩;subst wK;have dL:bU S1 (aL S1 b (.row [.int .i64 l[i].1,.list t1 (kW l[i].2) l[i].2.length] 111)):= .aK hb;have rb:aL S1 b (.row [.int .i64 l[i].1,.list t1 (kW l[i].2) l[i].2.length] 111) b=some (.row [.int .i64 l[i].1,.list t1 (kW l[i].2) l[i].2.length] 111):=aB;generalize aL S1 b (.row [.int .i64 l[i].1,.list t1 (kW l[i].2) l[i].2.length] 111)=S2 at dL rb;have l0:∀{K:KV},aW (.ptr b 0) S2 K=K (.int .i64 l[i].1) S2:=cT rb rfl;have l1:∀{K:KV},aW (.ptr b (0+1)) S2 K=K (.list t1 (kW l[i].2) l[i].2.length) S2:=cT rb rfl;have sm:∀{p:Prop},aU (.int .i64 l[i].1) (.int .i64 l[i].1) p=p:=fun {p}=>cN rfl;rw [aY,l0,aZ,l1];refine Qr hx KQ fun t2=>?_;rw [l0,sm,show(V.list t2 (kW l[i].2) l[i].2.length)=T t2 (.list (kW l[i].2) l[i].2.length)from rfl,Oz,l0,sm];have tso:Jz [.int .i64 l[i].1,T t2 (.list (kW l[i].2) l[i].2.length)] [.int .i64 l[i].1,.list (kW l[i].2) l[i].2.length]:= .cons t2 (.int .i64 l[i].1) (.cons t2 (.list (kW l[i].2) l[i].2.length) .nil);refine⟨HH (z:=[ni 0,.nil]) rfl rfl rfl tso.one fun _ _=>trivial,?_⟩
  have hal:acc.length<=l.length:=by
   have:=jY List.length he;rw [kI]at this;omega
  have XL:=CX.up dL;refine XL.app (hs.trans dL) (by omega) (aKw acc) (zv:=[ni 0,.nil]) rfl rfl tso rfl (by decide) fun u2 S3 hs3 hk3 _ hm3=>?_;have Fs:S3 b=some (.row [.int .i64 l[i].1,.list t1 (kW l[i].2) l[i].2.length] 111):=hk3 _ _ rb (XL.ne rb fun vs e m c=>by cases c);rw [cT Fs (v:= .int .i64 l[i].1) rfl,sm,bG (by omega)];have e2:aD acc++[.int .i64 l[i].1,.list (kW l[i].2) l[i].2.length]=aD (acc++[l[i]]):=by rw [aKx];rfl
  rw [e2]at hm3;refine ih (i+1) m u2 (acc++[l[i]]) S3 hs3 (by rw [kI];exact hm3) (by omega) (by omega) ?_;rw [mB hlt]at he;rw [BH];exact he
theorem aFf (hM:1000000<M) (hx:Deep PP bK gM M (n+2) x){O:Tag}{l:List (Int×List Int)} (hl:l.length<1000000) (FN:∀a∈l,a.2.length<1000000) (hK:∀w S',bU S S'->SL 111 S S' w (aD l) l.length->K w S'):x.call zC [.list O (aD l) l.length] S K:=by
 refine hx.call aMN fun y hy=>?_;rw [Zl];unfold Fh;show qK y y.most .nil (.list O (aD l) l.length) (ni l.length) (ni 0) S K;rw [hy.most];exact aKz hM hy hl FN hK l.length 0 M .nil [] S (.refl S) .nil (by omega) (by omega) (by simp)
def pK (O:Nat->Tag) (s:Bh):List V:=[ni s.ep,.list (O 1) (kW s.mem) s.mem.length,.list (O 2) (eL s.fC) s.fC.length,.list (O 3) (kW s.next) s.next.length,.list (O 4) (aD s.asked) s.asked.length]
structure aBr (s:Bh):Prop where
 ep:s.ep<1000000
 mem:s.mem.length<1000000
 fC:s.fC.length<1000000
 iQ:∀c∈s.fC,LC c/\c.length<1000000
 next:s.next.length<1000000
 asked:s.asked.length<1000000
 aPW:∀a∈s.asked,a.2.length<1000000
theorem PI{O:Nat->Tag}{s:Bh}:(pK O s).all gB=true:=rfl
theorem aMO:gM EH=none:=rfl
theorem aKA{a:Nat}{b c d e:V} (hb:gB b=true) (hc:gB c=true) (hd:gB d=true) (he:gB e=true){k:V->Prop} (hk:k (.agg [ni a,b,c,d,e])):cS [(.int .i64 (.ofNat 0)),(.slice none 0 0),(.slice none 0 0),(.slice none 0 0),(.slice none 0 0)] [(0,1,ni a),(1,1,b),(2,1,c),(3,1,d),(4,1,e)] k:=by
 have cc:∀{v:V} {p:List V->Prop},gB v=true->wM v p=p [v]:=fun {v p} h=>by cases v<;>first | rfl | cases h
 unfold cS rR;show iF [(0,1,ni a),(1,1,b),(2,1,c),(3,1,d),(4,1,e)] [ni 0,.nil,.nil,.nil,.nil] _;unfold iF iF iF iF iF iF;rw [cc (v:=ni a) rfl,cc hb,cc hc,cc hd,cc he];exact⟨rfl,by simp,rfl,by simp [bA],rfl,by simp [bA],rfl,by simp [bA],rfl,by simp [bA],hk⟩
theorem aMP (hM:1000000<M) (hx:Deep PP bK gM M (n+3) x){O:Nat->Tag}{s:Bh} (h:aBr s) (hK:∀O,K (.agg (pK O s)) S):x.call EH [.agg (pK O s)] S K:=by
 refine hx.call aMO fun y hy=>?_;rw [Zi];unfold Fe;refine cC PI fun b hb=>?_;have dL:bU S (aL S b (.row (pK O s) 36)):= .aK hb;have rb:aL S b (.row (pK O s) 36) b=some (.row (pK O s) 36):=aB;generalize aL S b (.row (pK O s) 36)=S1 at dL rb;refine cG (l:=[ni 0,.nil,.nil,.nil,.nil]) rfl fun r hr=>?_;have fO:bU S1 (aL S1 r (.row [ni 0,.nil,.nil,.nil,.nil] 36)):= .aK hr;have rr:aL S1 r (.row [ni 0,.nil,.nil,.nil,.nil] 36) r=some (.row [ni 0,.nil,.nil,.nil,.nil] 36):=aB;have ET:S r=none:=dL.none hr;generalize aL S1 r (.row [ni 0,.nil,.nil,.nil,.nil] 36)=S2 at fO rr;have EN:bU S S2:=dL.trans fO;rw [aZ,cT (o:=0+2) (fO _ _ rb) rfl];show qI y y.most (.ptr b 0) (.ptr r 0) .nil (.list (O 2) (eL s.fC) s.fC.length) (ni s.fC.length) (ni 0) S2 K;rw [hy.most]
 have go:∀(q i m:Nat) (u:V) (acc:List (List Nat)) (S3:Hp),bU S2 S3->GL 51 S2 S3 u (eL acc)->i+q=s.fC.length->q<m->acc++s.fC.drop i=s.fC->qI y m (.ptr b 0) (.ptr r 0) u (.list (O 2) (eL s.fC) s.fC.length) (ni s.fC.length) (ni i) S3 K:=by
  intro q;induction q with
  | zero=>
   intro i m u acc S3 hs CX hi hm he;obtain⟨m,rfl⟩:=bH (show m≠0 by omega);rw [JD];unfold AI;refine aF ?_;rw [aQ,jM (by omega),bE];rw [oW (by omega),FD]at he;subst he;have Fs:S3 b=some (.row (pK O s) 36):=hs _ _ (fO _ _ rb);have l0:∀{S':Hp} {K:KV},bU S3 S'->aW (.ptr b 0) S' K=K (ni s.ep) S':=fun {S' K} l=>cT (l _ _ Fs) rfl;have l1:∀{K:KV},aW (.ptr b (0+1)) S3 K=K (.list (O 1) (kW s.mem) s.mem.length) S3:=cT Fs rfl;have l3:∀{K:KV},aW (.ptr b (0+3)) S3 K=K (.list (O 3) (kW s.next) s.next.length) S3:=cT Fs rfl;have l4:∀{K:KV},aW (.ptr b (0+4)) S3 K=K (.list (O 4) (aD s.asked) s.asked.length) S3:=cT Fs rfl;have sm:∀{t:Tag} {cs:List Dt} {n:Nat} {p:Prop},aU (.list t cs n) (.list t cs n) p=p:=fun {t cs n p}=>cN rfl;rw [aY,l0 (.refl _),aZ,l1,aZ,l3,aZ,l4];refine Qs hy h.mem fun t1=>?_;rw [l4,sm,l3,sm,l0 (.refl _),cE];refine Qs hy h.next fun t3=>?_;rw [l4,sm,l0 (.refl _),cE];refine aFf hM hy h.asked h.aPW fun w S4 IS hw=>?_;rw [l0 IS,cE];have Kc:=CX.up IS;refine aKA rfl Kc.one rfl hw.one ?_;have Lj:S4 r=some (.row [ni 0,.nil,.nil,.nil,.nil] 36):=IS _ _ (hs _ _ rr);refine iH (n:=5) (i:=r) Lj (by simp only [UG,List.all_nil,Kc.one,hw.one];rfl) rfl rfl ?_;have leB:bU S S4:=(EN.trans hs).trans IS;have hm5:=Kc.set (o:= .row [ni s.ep,.list t1 (kW s.mem) s.mem.length,u,.list t3 (kW s.next) s.next.length,w] 36) Lj fun vs m c=>by cases c
   have hw5:SL 111 S3 (aL S4 r (.row [ni s.ep,.list t1 (kW s.mem) s.mem.length,u,.list t3 (kW s.next) s.next.length,w] 36)) w (aD s.asked) s.asked.length:=hw.set Lj fun vs m c=>by cases c
   have fu:=(hm5.base EN).Bd;have fw:=(hw5.base (EN.trans hs)).Bd;rw [GW]at fu;refine kQ (n:=5) (i:=r) aB rfl ?_;refine⟨S,fun O=> .agg (pK O s),fun j o e=>by rw [aC (fun c=>by rw [c,ET]at e;cases e)];exact leB j o e,fun O=> .agg ⟨rfl,fun j v u e1 e2=>?_⟩,fun O=>hK O⟩
   match j with
   | 0=>injection e1 with e1;injection e2 with e2;subst e1 e2;exact .mF _
   | 1=>injection e1 with e1;injection e2 with e2;subst e1 e2;exact .ZG .list
   | 2=>injection e1 with e1;injection e2 with e2;subst e1 e2;exact .ZG fu
   | 3=>injection e1 with e1;injection e2 with e2;subst e1 e2;exact .ZG .list
   | 4=>injection e1 with e1;injection e2 with e2;subst e1 e2;exact .ZG fw
   | j+5=>simp at e1
  | succ q ih=>
   intro i m u acc S3 hs CX hi hm he;obtain⟨m,rfl⟩:=bH (show m≠0 by omega);rw [JD];unfold AI;refine aF ?_;have hlt:i<s.fC.length:=by omega
   have QA:(eL s.fC)[i*1]? =some (.list (kK s.fC[i]) s.fC[i].length):=by rw [kX];unfold eL;rw [eH,aT hlt];rfl
   have KQ:=h.iQ _ (cO hlt);have TV:=h.fC;rw [aQ,zJ hlt,bW,jL hlt,yA,cX QA];refine aB1 hy (by have:=KQ.2;omega) fun t2=>?_
   have hal:acc.length<=s.fC.length:=by
    have:=jY List.length he;rw [kI]at this;omega
   refine CX.app hs (by rw [GW];omega) (zv:= .nil) rfl (by decide) (d:= .list (kK s.fC[i]) s.fC[i].length) fun u2 S4 Zp hk4 _ Kc=>?_;rw [bG (by omega)];have e2:eL acc++[.list (kK s.fC[i]) s.fC[i].length]=eL (acc++[s.fC[i]]):=by rw [Fb];rfl
   rw [e2]at Kc;refine ih (i+1) m u2 (acc++[s.fC[i]]) S4 Zp Kc (by omega) (by omega) ?_;rw [mB hlt]at he;rw [BH];exact he
 have Bx:=h.fC;exact go s.fC.length 0 M .nil [] S2 (.refl _) .nil (by omega) (by omega) (by simp)
end
set_option maxRecDepth 4000
def ME:List (Int×List (List Nat))->List Dt
 | []=>[]
 | a::l=> .int .i64 a.1:: .list (eL a.2) a.2.length::ME l
theorem aEQ (l:List (Int×List (List Nat))):(ME l).length=l.length*2:=by induction l with | nil=>rfl | cons a l ih=>show(ME l).length+1+1=(l.length+1)*2;omega
theorem aER (l m:List (Int×List (List Nat))):ME (l++m)=ME l++ME m:=by induction l with | nil=>rfl | cons a l ih=>show _::_::ME (l++m)=_;rw [ih];rfl
theorem Zq{l:List (Int×List (List Nat))}:∀{i:Nat} {a:Int×List (List Nat)},l[i]? =some a->i*2+2<=(ME l).length/\((ME l).drop (i*2)).take 2=[.int .i64 a.1,.list (eL a.2) a.2.length]:=by
 induction l with
 | nil=>intro i a h;cases h
 | cons b l ih=>
  intro i a h
  match i,h with
  | 0,h=>injection h with h;subst h;exact⟨by show 2<=(ME l).length+1+1;omega,rfl⟩
  | i+1,h=>
   obtain⟨h1,h2⟩:=ih (i:=i) h;refine⟨by show _<=(ME l).length+1+1;omega,?_⟩;rw [show(i+1)*2=i*2+2 by omega];exact h2
def XO (O:Nat->Tag) (e:En):List V:=[n8 e.kind,.int .i64 e.id,.int .i64 e.ep,.list (O 3) (kW e.x) e.x.length,.list (O 4) (eL e.fC) e.fC.length,.list (O 5) (kW e.next) e.next.length,.list (O 6) (ME e.gN) e.gN.length]
def Jy (ls:List (List Nat)):Prop:=ls.length*24<=140737488355328/\∀c∈ls,LC c/\c.length*8<=140737488355328
structure aBm (e:En):Prop where
 kind:e.kind<256
 x:e.x.length<1000000
 fC:Jy e.fC
 next:e.next.length<1000000
 gN:e.gN.length<1000000
 Ot:∀d∈e.gN,Jy d.2
theorem Ej{O:Nat->Tag}{e:En}:(XO O e).all gB=true:=rfl
section
variable{M n:Nat}{x:VE}{S:Hp}{K:KV}{two:Bool}
theorem aMQ:gM JS=none:=rfl
theorem aKB:gM qG=none:=rfl
theorem aMR:gM gY=none:=rfl
theorem aMS:gM lM=none:=rfl
theorem aFg (hM:140737488355328<M) (hx:Deep PP bK gM M (n+2) x){O:Tag}{ls:List (List Nat)} (h:Jy ls) (hK:∀O,K (.list O (eL ls) ls.length) S):x.call gY [.list O (eL ls) ls.length,.func cD [] []] S K:=by
 refine hx.call aMR fun y hy=>?_;rw [OF];unfold AZ;show fS y y.most (.func cD [] []) .nil (.list O (eL ls) ls.length) (ni ls.length) (ni 0) S K;rw [hy.most];have TV:=h.1
 have go:∀(q i m:Nat) (u:V) (acc:List (List Nat)) (S3:Hp),bU S S3->GL 51 S S3 u (eL acc)->i+q=ls.length->q<m->acc++ls.drop i=ls->fS y m (.func cD [] []) u (.list O (eL ls) ls.length) (ni ls.length) (ni i) S3 K:=by
  intro q;induction q with
  | zero=>
   intro i m u acc S3 hs CX hi hm he;obtain⟨m,rfl⟩:=bH (show m≠0 by omega);rw [sU];unfold mK;refine aF ?_;rw [aQ,jM (by omega),bE];rw [oW (by omega),FD]at he;subst he;have fu:=CX.Bd;rw [GW]at fu;exact gP hs fu hK
  | succ q ih=>
   intro i m u acc S3 hs CX hi hm he;obtain⟨m,rfl⟩:=bH (show m≠0 by omega);rw [sU];unfold mK;refine aF ?_;have hlt:i<ls.length:=by omega
   have QA:(eL ls)[i*1]? =some (.list (kK ls[i]) ls[i].length):=by rw [kX];unfold eL;rw [eH,aT hlt];rfl
   have KQ:=h.2 _ (cO hlt);rw [aQ,zJ hlt,bW,jL hlt,yA,cX QA];refine aB1 hy KQ.2 fun t2=>?_
   have hal:acc.length+1<=ls.length:=by
    have:=jY List.length he;rw [kI,IA]at this;omega
   refine CX.aRi hs (by rw [GW];omega) (zv:= .nil) rfl (d:= .list (kK ls[i]) ls[i].length) fun u2 S4 Zp hk4 _ Kc=>?_;rw [bG (by omega)];have e2:eL acc++[.list (kK ls[i]) ls[i].length]=eL (acc++[ls[i]]):=by rw [Fb];rfl
   rw [e2]at Kc;refine ih (i+1) m u2 (acc++[ls[i]]) S4 Zp Kc (by omega) (by omega) ?_;rw [mB hlt]at he;rw [BH];exact he
 exact go ls.length 0 M .nil [] S (.refl _) .nil (by omega) (by omega) (by simp)
theorem aKC (hM:140737488355328<M) (hx:Deep PP bK gM M (n+3) x){z:Int}{t:Tag}{c:List (List Nat)} (h:Jy c) (hK:∀t,K (.agg [.int .i64 z,.list t (eL c) c.length]) S):x.call qG [.agg [.int .i64 z,.list t (eL c) c.length]] S K:=by
 refine hx.call aKB fun y hy=>?_;rw [Qp];unfold XB;refine cC rfl fun b hb=>?_;have dL:bU S (aL S b (.row [.int .i64 z,.list t (eL c) c.length] 68)):= .aK hb;have rb:aL S b (.row [.int .i64 z,.list t (eL c) c.length] 68) b=some (.row [.int .i64 z,.list t (eL c) c.length] 68):=aB;generalize aL S b (.row [.int .i64 z,.list t (eL c) c.length] 68)=S1 at dL rb;refine cG (l:=[ni 0,.nil]) rfl fun r hr=>?_;have fO:bU S1 (aL S1 r (.row [ni 0,.nil] 68)):= .aK hr;have rr:aL S1 r (.row [ni 0,.nil] 68) r=some (.row [ni 0,.nil] 68):=aB;have ET:S r=none:=dL.none hr;have ZJ:=fO _ _ rb;have EN:=dL.trans fO;generalize aL S1 r (.row [ni 0,.nil] 68)=S2 at EN rr ZJ;rw [aZ,cT (o:=0+1) ZJ rfl];refine aFg hM hy h fun t2=>?_;have hbr:r≠b:=fun e=>by subst e;rw [rb]at hr;cases hr
 rw [aZ,DV ZJ (show 0+1<2 by decide) rfl];refine kQ (n:=2) (i:=b) aB rfl ?_;refine iH (n:=2) (i:=r) (vs:=[ni 0,.nil]) (by rw [aC hbr];exact rr) rfl rfl rfl ?_;refine kQ (n:=2) (i:=r) aB rfl ?_;refine⟨S,fun O=> .agg [.int .i64 z,.list t2 (eL c) c.length],fun j o e=>?_,fun O=> .one (.mF _),fun O=>hK _⟩;rw [aC (fun q=>by rw [q,ET]at e;cases e),aC (fun q=>by rw [q,hb]at e;cases e)];exact EN j o e
theorem aMT (hM:140737488355328<M) (hx:Deep PP bK gM M (n+4) x){O:Tag}{l:List (Int×List (List Nat))} (hl:l.length<1000000) (FN:∀d∈l,Jy d.2) (hK:∀O,K (.list O (ME l) l.length) S):x.call lM [.list O (ME l) l.length,.func qG [] []] S K:=by
 refine hx.call aMS fun y hy=>?_;rw [RX];unfold EL;show gR y y.most (.func qG [] []) .nil (.list O (ME l) l.length) (ni l.length) (ni 0) S K;rw [hy.most]
 have go:∀(q i m:Nat) (u:V) (acc:List (Int×List (List Nat))) (S3:Hp),bU S S3->SL 68 S S3 u (ME acc) acc.length->i+q=l.length->q<m->acc++l.drop i=l->gR y m (.func qG [] []) u (.list O (ME l) l.length) (ni l.length) (ni i) S3 K:=by
  intro q;induction q with
  | zero=>
   intro i m u acc S3 hs CX hi hm he;obtain⟨m,rfl⟩:=bH (show m≠0 by omega);rw [uN];unfold nX;refine aF ?_;rw [aQ,jM (by omega),bE];rw [oW (by omega),FD]at he;subst he;exact gP hs CX.Bd hK
  | succ q ih=>
   intro i m u acc S3 hs CX hi hm he;obtain⟨m,rfl⟩:=bH (show m≠0 by omega);rw [uN];unfold nX;refine aF ?_;have hlt:i<l.length:=by omega
   obtain⟨g1,g2⟩:=Zq (aT hlt);have KQ:=FN _ (cO hlt);rw [aQ,zJ hlt,bW,jL hlt,RJ,dR g1,g2];refine cG (l:=[ni 0,.nil]) rfl fun b hb=>?_;refine iH (n:=2) (i:=b) aB rfl rfl rfl ?_;rw [fD];generalize wK:(Tl O (i*2) [.int .i64 l[i].1,.list (eL l[i].2) l[i].2.length])=cs;obtain⟨t1,wK⟩:∃t1,cs=[.int .i64 l[i].1,.list t1 (eL l[i].2) l[i].2.length]:=⟨_,wK.symm⟩;subst wK;have dL:bU S3 (aL S3 b (.row [.int .i64 l[i].1,.list t1 (eL l[i].2) l[i].2.length] 68)):= .aK hb;refine kQ (n:=2) (i:=b) aB rfl ?_;refine aKC hM hy KQ fun t2=>?_;have tso:Jz [.int .i64 l[i].1,T t2 (.list (eL l[i].2) l[i].2.length)] [.int .i64 l[i].1,.list (eL l[i].2) l[i].2.length]:= .cons t2 (.int .i64 l[i].1) (.cons t2 (.list (eL l[i].2) l[i].2.length) .nil)
   have hal:acc.length<=l.length:=by
    have:=jY List.length he;rw [kI]at this;omega
   refine(CX.up dL).app (hs.trans dL) (by omega) (aEQ acc) (zv:=[ni 0,.nil]) rfl rfl tso rfl (by decide) fun u2 S4 Zp hk4 _ Kc=>?_;rw [bG (by omega)];have e2:ME acc++[.int .i64 l[i].1,.list (eL l[i].2) l[i].2.length]=ME (acc++[l[i]]):=by rw [aER];rfl
   rw [e2]at Kc;refine ih (i+1) m u2 (acc++[l[i]]) S4 Zp (by rw [kI];exact Kc) (by omega) (by omega) ?_;rw [mB hlt]at he;rw [BH];exact he
 exact go l.length 0 M .nil [] S (.refl _) .nil (by omega) (by omega) (by simp)
theorem aMU (hM:140737488355328<M) (hx:Deep PP bK gM M (n+5) x){O:Nat->Tag}{e:En} (h:aBm e) (hK:∀O,K (.agg (XO O e)) S):x.call JS [.agg (XO O e)] S K:=by
 refine hx.call aMQ fun y hy=>?_;rw [Zo];unfold Fo;refine cC Ej fun b hb=>?_;have dL:bU S (aL S b (.row (XO O e) 42)):= .aK hb;have rb:aL S b (.row (XO O e) 42) b=some (.row (XO O e) 42):=aB;generalize aL S b (.row (XO O e) 42)=S1 at dL rb;refine cG (l:=[n8 0,ni 0,ni 0,.nil,.nil,.nil,.nil]) rfl fun r hr=>?_;have fO:bU S1 (aL S1 r (.row [n8 0,ni 0,ni 0,.nil,.nil,.nil,.nil] 42)):= .aK hr;have rr:aL S1 r (.row [n8 0,ni 0,ni 0,.nil,.nil,.nil,.nil] 42) r=some (.row [n8 0,ni 0,ni 0,.nil,.nil,.nil,.nil] 42):=aB;have ET:S r=none:=dL.none hr;have hbr:r≠b:=fun e=>by subst e;rw [rb]at hr;cases hr
 have ZJ:=fO _ _ rb;have EN:=dL.trans fO;generalize aL S1 r (.row [n8 0,ni 0,ni 0,.nil,.nil,.nil,.nil] 42)=S2 at EN rr ZJ;have sm:∀{t:Tag} {cs:List Dt} {n:Nat} {p:Prop},aU (.list t cs n) (.list t cs n) p=p:=fun {t cs n p}=>cN rfl;rw [aZ,cT (o:=0+3) ZJ rfl,aZ,cT (o:=0+5) ZJ rfl];refine Qr hy h.x fun t3=>?_;rw [cT (o:=0+5) ZJ (v:= .list (O 5) (kW e.next) e.next.length) rfl,sm];refine Qs hy h.next fun t5=>?_;rw [aZ,DV ZJ (show 0+3<7 by decide) rfl,aZ,DV aB (show 0+5<7 by decide) rfl,fD,aZ,cT (o:=0+4) (v:= .list (O 4) (eL e.fC) e.fC.length) aB rfl];refine aFg hM hy h.fC fun t4=>?_;rw [aZ,DV aB (show 0+4<7 by decide) rfl,fD,aZ,cT (o:=0+6) (v:= .list (O 6) (ME e.gN) e.gN.length) aB rfl];refine aMT hM hy h.gN h.Ot fun t6=>?_;rw [aZ,DV aB (show 0+6<7 by decide) rfl,fD];refine kQ (n:=7) (i:=b) aB rfl ?_;refine iH (n:=7) (i:=r) (vs:=[n8 0,ni 0,ni 0,.nil,.nil,.nil,.nil]) (by rw [aC hbr];exact rr) rfl rfl rfl ?_;refine kQ (n:=7) (i:=r) aB rfl ?_;refine⟨S,fun O=> .agg (XO (fun k=>if k=3 then t3 else if k=4 then t4 else if k=5 then t5 else t6) e),fun j o q=>?_,fun O=> .one (.mF _),fun O=>hK _⟩;rw [aC (fun c=>by rw [c,ET]at q;cases q),aC (fun c=>by rw [c,hb]at q;cases q)];exact EN j o q
end
set_option maxRecDepth 4000
def TZ (two:Bool) (O O':Nat->Tag) (s:Bh) (e:En):List V:=pv two++(pK O s++XO O' e)
theorem GY{two:Bool}{O O':Nat->Tag}{s:Bh}{e:En}:(TZ two O O' s e).all gB=true:=by cases two<;>rfl
theorem Zr{two:Bool}{O O':Nat->Tag}{s:Bh}{e:En}:(TZ two O O' s e).take 12=pv two:=by cases two<;>rfl
section
variable{M n:Nat}{x:VE}{S:Hp}{K:KV}{two:Bool}{O O':Nat->Tag}{s:Bh}{e:En}
theorem aPX:gM vX=none:=rfl
theorem aGO:gM kR=none:=rfl
theorem aKD:gM fP=none:=rfl
theorem aR9:gM dM=none:=rfl
theorem aPY (hM:1000000<M) (hx:Deep PP bK gM M (n+5) x) (he:e.next.length<1000000) (hK:K (.bool (LL e.next)) S):x.call vX [.agg (TZ two O O' s e)] S K:=by
 refine hx.call aPX fun y hy=>?_;rw [Kj];unfold TG;refine cC GY fun b hb=>?_;have rb:aL S b (.row (TZ two O O' s e) 86) b=some (.row (TZ two O O' s e) 86):=aB;have le:bU S (aL S b (.row (TZ two O O' s e) 86)):= .aK hb;generalize aL S b (.row (TZ two O O' s e) 86)=S1 at rb le;rw [aY,aE9 rb Zr,aZ,aZ,cT (o:=0+17+5) (v:= .list (O' 5) (kW e.next) e.next.length) rb (by cases two<;>rfl)];exact aC7 (two:=two) hM hy he (bL le hK)
theorem aPZ{t:TypeId}{a b:Int}{k:V->Prop}:aJ PP .leq t (.int .i64 a) (.int .i64 b) k=k (.bool (decide (a<=b))):=by rw [JX]
theorem aGP (hM:1000000<M) (hx:Deep PP bK gM M (n+13) x) (he:aBm e) (hK:K (.bool (oR e.gN)) S):x.call kR [.agg (TZ two O O' s e)] S K:=by
 refine hx.call aGO fun y hy=>?_;rw [WY];unfold HT;refine cC GY fun b hb=>?_;have rb:aL S b (.row (TZ two O O' s e) 86) b=some (.row (TZ two O O' s e) 86):=aB;have le:bU S (aL S b (.row (TZ two O O' s e) 86)):= .aK hb;generalize aL S b (.row (TZ two O O' s e) 86)=S1 at rb le;have hd:=he.gN;have hdl:=he.Ot;have e23:(TZ two O O' s e)[17+6]? =some (.list (O' 6) (ME e.gN) e.gN.length):=by cases two<;>rfl
 have e5:(TZ two O O' s e)[0+5]? =some (ni 4):=by cases two<;>rfl
 have e6:(TZ two O O' s e)[0+6]? =some (ni 1):=by cases two<;>rfl
 generalize wK:TZ two O O' s e=cs at rb e23 e5 e6 le;have hpv:cs.take 12=pv two:=by rw [<-wK];exact Zr
 rw [aZ,aZ,cT (o:=0+17+6) rb e23];generalize e.gN=ds at hd hdl hK e23;show iX y y.most (.ptr b 0) (.int .i64 (.ofNat 0)) (.list (O' 6) (ME ds) ds.length) (ni ds.length) (ni 0) S1 K;rw [hy.most]
 have go:∀(r i m:Nat) (z:Int) (S2:Hp),bU S1 S2->i+r=ds.length->r<m->(dlF (ds.drop i) z&&decide (ds.length=2))=oR ds->iX y m (.ptr b 0) (.int .i64 z) (.list (O' 6) (ME ds) ds.length) (ni ds.length) (ni i) S2 K:=by
  intro r;induction r with
  | zero=>
   intro i m z S2 hs hi hm hE;obtain⟨m,rfl⟩:=bH (show m≠0 by omega);rw [xG];unfold pC;refine tJ S1 hs ?_;rw [aQ,jM (by omega),bE,aZ,aZ,cT (o:=0+17+6) rb e23,cZ,aY,aZ,cT (o:=0+6) rb e6];show aJ PP .add 3 (ni 1) (ni 1) _;rw [bG (by decide),IK];rw [oW (by omega)]at hE;have hE:decide (ds.length=2)=oR ds:=hE;rw [hE];exact bL le hK
  | succ r ih=>
   intro i m z S2 hs hi hm hE;obtain⟨m,rfl⟩:=bH (show m≠0 by omega);rw [xG];unfold pC;refine tJ S1 hs ?_;have hlt:i<ds.length:=by omega
   obtain⟨g1,g2⟩:=Zq (aT hlt);have KQ:=hdl _ (cO hlt);rw [mB hlt]at hE;unfold dlF at hE;rw [aQ,zJ hlt,bW,jL hlt,RJ,dR g1,g2];refine cG (l:=[ni 0,.nil]) rfl fun d hdn=>?_;refine iH (n:=2) (i:=d) aB rfl rfl rfl ?_;rw [fD];generalize aDH:(Tl (O' 6) (i*2) [.int .i64 ds[i].1,.list (eL ds[i].2) ds[i].2.length])=ks;obtain⟨t1,aDH⟩:∃t1,ks=[.int .i64 ds[i].1,.list t1 (eL ds[i].2) ds[i].2.length]:=⟨_,aDH.symm⟩;subst aDH;have fO:bU S1 (aL S1 d (.row [.int .i64 ds[i].1,.list t1 (eL ds[i].2) ds[i].2.length] 68)):= .aK hdn;have rd:aL S1 d (.row [.int .i64 ds[i].1,.list t1 (eL ds[i].2) ds[i].2.length] 68) d=some (.row [.int .i64 ds[i].1,.list t1 (eL ds[i].2) ds[i].2.length] 68):=aB;generalize aL S1 d (.row [.int .i64 ds[i].1,.list t1 (eL ds[i].2) ds[i].2.length] 68)=S3 at fO rd;have Fs:=fO _ _ rb;have l0:∀{K:KV},aW (.ptr d 0) S3 K=K (.int .i64 ds[i].1) S3:=cT rd rfl;have l1:∀{K:KV},aW (.ptr d (0+1)) S3 K=K (.list t1 (eL ds[i].2) ds[i].2.length) S3:=cT rd rfl;have l5:∀{K:KV},aW (.ptr b (0+5)) S3 K=K (ni 4) S3:=cT Fs e5;have lp:∀{K:KV},bR 12 (.ptr b 0) S3 K=K (.agg (pv two)) S3:=aE9 Fs hpv;have leS:bU S S3:=le.trans fO;rw [aY,l0,aPZ];by_cases c1:ds[i].1<=z
   ·rw [bI c1]at hE ⊢
    simp only [aE,sH,dI,bW];have hE:false=oR ds:=by simpa using hE
    rw [<-hE]at hK;exact bL leS hK
   ·rw [bO c1]at hE ⊢
    simp only [aE,aN,l0,aZ,l5];show aJ PP .gtr 3 (.int .i64 ds[i].1) (.int .i64 4) _;rw [Zg];by_cases c2:4<ds[i].1
    ·rw [bI c2]at hE ⊢
     simp only [sH,dI,dJ,bW];have hE:false=oR ds:=by simpa using hE
     rw [<-hE]at hK;exact bL leS hK
    ·rw [bO c2]at hE ⊢
     simp only [aN,dJ,lp,l1];refine Pf (two:=two) hM hy (S0:=S3) .val (fun c hc=>(KQ.2 c hc).1) ?_;rw [rC];cases c3:AV ds[i].2 with
     | false=>
      rw [c3]at hE;simp only [DB,bW];have hE:false=oR ds:=by simpa using hE
      rw [<-hE]at hK;exact bL leS hK
     | true=>
      rw [c3]at hE;simp only [fL,bE,l0];rw [bG (by omega)];exact ih (i+1) m _ S3 fO (by omega) (by omega) (by simpa using hE)
 exact go ds.length 0 M 0 S1 (.refl _) (by omega) (by omega) rfl
theorem aSa (hM:1000000<M) (hx:Deep PP bK gM M (n+1) x){v w:V}{a b:List Nat} (ha:NV S v a) (hb:NV S w b) (hl:a.length<1000000) (hK:K (.bool (decide (a=b))) S):x.call dM [v,w] S K:=by
 refine hx.call aR9 fun y hy=>?_;rw [CW];unfold qX;rw [ha.len,hb.len,yB];by_cases c:a.length=b.length
 ·rw [bI c,fL,bE,ha.len,hy.most]
  have go:∀(r i m:Nat),i+r=a.length->r<m->(decide (a.drop i=b.drop i))=decide (a=b)->fB y m v w (ni a.length) (ni i) S K:=by
   intro r;induction r with
   | zero=>
    intro i m hi hm hE;obtain⟨m,rfl⟩:=bH (show m≠0 by omega);rw [mS];unfold iE;refine aF ?_;rw [aQ,jM (by omega),bE];rw [oW (by omega),oW (by omega),bI rfl]at hE;rw [<-hE]at hK;exact aM hK
   | succ r ih=>
    intro i m hi hm hE;obtain⟨m,rfl⟩:=bH (show m≠0 by omega);rw [mS];unfold iE;refine aF ?_;have h1:i<a.length:=by omega
    have h2:i<b.length:=by omega
    obtain⟨p1,hp1,Zy⟩:=ha.at (aT h1);obtain⟨p2,Iv,FN⟩:=hb.at (aT h2);rw [aQ,zJ h1,bW,hp1,Zy S (.refl _),Iv,FN S (.refl _),aIk];rw [mB h1,mB h2]at hE;by_cases q:a[i]=b[i]
    ·rw [bI q,fL,bE,bG (by omega)]
     refine ih (i+1) m (by omega) (by omega) ?_;rw [<-hE];exact decide_eq_decide.2 ⟨fun h=>by rw [q,h],fun h=>by injection h⟩
    ·rw [bO q,DB,bW]
     rw [bO (fun h=>q (by injection h))]at hE;rw [<-hE]at hK;exact aM hK
  exact go a.length 0 M (by omega) (by omega) rfl
 ·rw [bO c,DB,bW]
  rw [bO (fun h=>c (by rw [h]))]at hK;exact aM hK
theorem Zs{z:Int} (h0:0<=z) (h1:z<18446744073709551616){k:V->Prop}:LE .u64 (.int .i64 z) k=k (nu z.toNat):=by
 obtain⟨m,rfl⟩:=Int.eq_ofNat_of_zero_le h0;exact Hb (by omega)
theorem aKE (hM:1000000<M) (hx:Deep PP bK gM M (n+6) x) (hs:aBr s) (hd:oR e.gN=true) (he:aBm e) (hK:K (.bool (GT s.fC e.gN)) S):x.call fP [.agg (TZ two O O' s e)] S K:=by
 refine hx.call aKD fun y hy=>?_;rw [YO];unfold JH;refine cC GY fun b hb=>?_;have rb:aL S b (.row (TZ two O O' s e) 86) b=some (.row (TZ two O O' s e) 86):=aB;have le:bU S (aL S b (.row (TZ two O O' s e) 86)):= .aK hb;generalize aL S b (.row (TZ two O O' s e) 86)=S1 at rb le;have hdl:=he.gN;have QA:=Zb _ _ (show dlF e.gN 0=true by unfold oR at hd;rw [dZ]at hd;exact hd.1);have e23:(TZ two O O' s e)[0+17+6]? =some (.list (O' 6) (ME e.gN) e.gN.length):=by cases two<;>rfl
 have e14:(TZ two O O' s e)[0+12+2]? =some (.list (O 2) (eL s.fC) s.fC.length):=by cases two<;>rfl
 generalize wK:TZ two O O' s e=cs at rb e23 e14 le;have hpv:cs.take 12=pv two:=by rw [<-wK];exact Zr
 rw [aZ,aZ,cT (o:=0+17+6) rb e23];generalize e.gN=ds at QA hdl hK e23;show eE y y.most (.ptr b 0) (.list (O' 6) (ME ds) ds.length) (ni ds.length) (ni 0) S1 K;rw [hy.most]
 have go:∀(r i m:Nat) (S2:Hp),bU S1 S2->i+r=ds.length->r<m->GT s.fC (ds.drop i)=GT s.fC ds->eE y m (.ptr b 0) (.list (O' 6) (ME ds) ds.length) (ni ds.length) (ni i) S2 K:=by
  intro r;induction r with
  | zero=>
   intro i m S2 xK hi hm hE;obtain⟨m,rfl⟩:=bH (show m≠0 by omega);rw [zQ];unfold rJ;refine tJ S1 xK ?_;rw [aQ,jM (by omega),bE];rw [oW (by omega)]at hE;have hE:true=GT s.fC ds:=hE;rw [<-hE]at hK;exact bL le hK
  | succ r ih=>
   intro i m S2 xK hi hm hE;obtain⟨m,rfl⟩:=bH (show m≠0 by omega);rw [zQ];unfold rJ;refine tJ S1 xK ?_;have hlt:i<ds.length:=by omega
   obtain⟨g1,g2⟩:=Zq (aT hlt);obtain⟨f1,f2,f3⟩:=QA _ (cO hlt);obtain⟨f4,f5⟩:=CL.1 f3;rw [mB hlt]at hE;have hE:(decide (WT ds[i].2=AD s.fC ds[i].1.toNat)&&GT s.fC (ds.drop (i+1)))=GT s.fC ds:=hE;rw [aQ,zJ hlt,bW,jL hlt,RJ,dR g1,g2];refine cG (l:=[ni 0,.nil]) rfl fun d hdn=>?_;refine iH (n:=2) (i:=d) aB rfl rfl rfl ?_;rw [fD];generalize aDH:(Tl (O' 6) (i*2) [.int .i64 ds[i].1,.list (eL ds[i].2) ds[i].2.length])=ks;obtain⟨t1,aDH⟩:∃t1,ks=[.int .i64 ds[i].1,.list t1 (eL ds[i].2) ds[i].2.length]:=⟨_,aDH.symm⟩;subst aDH;generalize ds[i]=D at f1 f2 f3 f4 f5 hE;have fO:bU S1 (aL S1 d (.row [.int .i64 D.1,.list t1 (eL D.2) D.2.length] 68)):= .aK hdn;have rd:aL S1 d (.row [.int .i64 D.1,.list t1 (eL D.2) D.2.length] 68) d=some (.row [.int .i64 D.1,.list t1 (eL D.2) D.2.length] 68):=aB;generalize aL S1 d (.row [.int .i64 D.1,.list t1 (eL D.2) D.2.length] 68)=S3 at fO rd;rw [aZ,cT (o:=0+1) rd rfl];show bZ y y.most m (.ptr b 0) (.ptr d 0) .nil (.list (O' 6) (ME ds) ds.length) (ni ds.length) (ni i) (.list t1 (eL D.2) D.2.length) (ni D.2.length) (ni 0) S3 K;rw [hy.most]
   have inner:∀(q j m2:Nat) (u:V) (acc:List Nat) (S4:Hp),bU S3 S4->MN S3 S4 u acc->j+q=D.2.length->q<m2->acc++WT (D.2.drop j)=WT D.2->bZ y m2 m (.ptr b 0) (.ptr d 0) u (.list (O' 6) (ME ds) ds.length) (ni ds.length) (ni i) (.list t1 (eL D.2) D.2.length) (ni D.2.length) (ni j) S4 K:=by
    intro q;induction q with
    | zero=>
     intro j m2 u acc S4 Zp Kc hj XL hF;obtain⟨m2,rfl⟩:=bH (show m2≠0 by omega);rw [pI];unfold kD;refine aF ?_;rw [oW (by omega)]at hF;have hF:acc++[]=WT D.2:=hF;rw [FD]at hF;subst hF;have rb4:=Zp _ _ (fO _ _ rb);have rd4:=Zp _ _ rd;have lS:=fO.trans Zp;rw [aQ,jM (by omega),bE,aY,aE9 rb4 hpv,aZ,aZ,cT (o:=0+12+2) rb4 e14,aY,cT (o:=0) rd4 rfl,Zs (by omega) (by omega)];refine aBU (two:=two) hM hy (show D.1.toNat<18446744073709551616 by omega) hs.iQ hs.fC fun t2=>?_;refine aSa hM hy Kc.nv .list (by unfold WT PO;rw [mE];omega) ?_;rw [rC];by_cases c:WT D.2=AD s.fC D.1.toNat
     ·rw [bI c]at hE ⊢
      rw [fL,bE,bG (by omega)];exact ih (i+1) m S4 lS (by omega) (by omega) (by simpa using hE)
     ·rw [bO c]at hE ⊢
      rw [DB,bW];have hE:false=GT s.fC ds:=by simpa using hE
      rw [<-hE]at hK;exact bL (le.trans lS) hK
    | succ q ih2=>
     intro j m2 u acc S4 Zp Kc hj XL hF;obtain⟨m2,rfl⟩:=bH (show m2≠0 by omega);rw [pI];unfold kD;refine aF ?_;have hjl:j<D.2.length:=by omega
     have aUj:(eL D.2)[j*1]? =some (.list (kK D.2[j]) D.2[j].length):=by rw [kX];unfold eL;rw [eH,aT hjl];rfl
     obtain⟨f6,f7⟩:=f5 _ (cO hjl);have h0:0<D.2[j].length:=by omega
     have nv:NV S4 (.list (.sub t1 (j*1)) (kK D.2[j]) D.2[j].length) D.2[j]:= .list;obtain⟨p1,hp1,Zy⟩:=nv.at (i:=0) (aT h0);have hp1:∀{K:V->Prop},cV 1 (T (.sub t1 (j*1)) (.list (kK D.2[j]) D.2[j].length)) (.int .i64 (.ofNat 0)) K=K p1:=fun {K}=>hp1 .i64 K;rw [aQ,zJ hjl,bW,jL hjl,yA,cX aUj,hp1,Zy S4 (.refl _)]
     have ha:acc.length<=D.2.length:=by
      have:=jY List.length hF;unfold WT PO at this;rw [kI,mE,mE]at this;omega
     refine Kc.app Zp (by omega) fun u2 S5 hs5 _ hm5=>?_;rw [bG (by omega)];refine ih2 (j+1) m2 u2 _ S5 hs5 hm5 (by omega) (by omega) ?_;rw [mB hjl]at hF;rw [<-hF,BH];have:D.2[j].getD 0 0=D.2[j][0]:=by rw [BG,aT h0];rfl
     show acc++([D.2[j][0]]++_)=acc++(D.2[j].getD 0 0::_);rw [this];rfl
   exact inner D.2.length 0 M .nil [] S3 (.refl _) .nil (by omega) (by omega) rfl
 exact go ds.length 0 M S1 (.refl _) (by omega) (by omega) rfl
end
end Go.Am
set_option maxRecDepth 4000
namespace Go.Am
section
variable{M n:Nat}{x:VE}{S:Hp}{K:KV}{two:Bool}
theorem aMD:gM fF=none:=rfl
theorem aPO:gM fX=none:=rfl
theorem aME{O:Tag}{l:List Int} (hl:l.length<1000000){f:V}{p:Int->Bool}
 (hf:∀a∈l,∀K:KV,K (.bool (p a)) S->mH x f [.int .i64 a] S K) (hT:l.any p=true->∀j:Nat,K (ni j) S) (hF:l.any p=false->K (.int .i64 (.negSucc 0)) S):
 ∀(r i m:Nat),i+r=l.length->r<m->(l.drop i).any p=l.any p->eU x m (.list O (kW l) l.length) f (ni l.length) (ni i) S K:=by
 intro r;induction r with
 | zero=>
  intro i m hi hm he;obtain⟨m,rfl⟩:=bH (show m≠0 by omega);rw [lV];unfold gQ;refine aF ?_;rw [aQ,jM (by omega),bE];rw [oW (by omega)]at he;exact aM (hF he.symm)
 | succ r ih=>
  intro i m hi hm he;obtain⟨m,rfl⟩:=bH (show m≠0 by omega);rw [lV];unfold gQ;refine aF ?_;have hlt:i<l.length:=by omega
  have QA:(kW l)[i*1]? =some (.int .i64 l[i]):=by rw [kX];unfold kW;rw [eH,aT hlt];rfl
  rw [aQ,zJ hlt,bW,jL hlt,yA,cX QA];refine hf l[i] (cO hlt) _ ?_;rw [mB hlt,List.any_cons]at he;cases hp:p l[i]with
  | true=>
   rw [hp,Bool.true_or]at he;rw [bW];exact aM (hT he.symm i)
  | false=>
   rw [hp,Ad]at he;rw [bE,bG (by omega)];exact ih (i+1) m (by omega) (by omega) he
theorem aMF (hM:1000000<M) (hx:Deep PP bK gM M (n+2) x){O:Tag}{l:List Int} (hl:l.length<1000000){c:FuncId}{cs:List V}{p:Int->Bool}
 (hf:∀y,Deep PP bK gM M n y->∀a∈l,∀K:KV,K (.bool (p a)) S->y.call c (.int .i64 a::cs) S K) (hK:K (.bool (l.any p)) S):x.call fF [.list O (kW l) l.length,.func c [] cs] S K:=by
 refine hx.call aMD fun y hy=>?_;rw [yJ];unfold nW;refine hy.call aPO fun u hu=>?_;rw [AW];unfold pH;rw [show ∀k:V->Prop,bP (.list O (kW l) l.length) k=k (ni l.length)from fun _=>rfl,hu.most];refine aME (x:=u) (f:= .func c [] cs) hl (p:=p) (fun a ha K hk=>hf u hu a ha K hk) (fun e j=>?_) (fun e=>?_) l.length 0 M (by omega) (by omega) rfl
 ·rw [e]at hK
  rw [zX];exact aM (by rw [bI (zT j)];exact hK)
 ·rw [e]at hK
  rw [CH];exact aM hK
end
end Go.Am
set_option maxRecDepth 4000
namespace Go.Am
open Go.Proofs.OG
abbrev iz (z:Int):V:= .int .i64 z
def aUk (a b:Nat):Nat:=(a%11+b%11)%11
def iZ (z:Int):Nat:=if z<0 then iD 0 (-z).toNat 11 else aUk z.toNat 0
theorem XZ (z:Int):iZ z<11:=by unfold iZ;split;exact jD _ (by decide);exact jD _ (by decide)
abbrev w1 (O:Tag) (z:Int):V:= .list O [.int .i64 z] 1
def Ls (z:Int):Prop:=-1<=z/\z<=1
theorem aB2{z:Int} (h:Ls z):z= -1\/z=0\/z=1:=by unfold Ls at h;omega
def Sx (q:Int):List Nat:=[iZ q,iZ 1]
section
variable{M n:Nat}{x:VE}{S:Hp}{K:KV}{two:Bool}
theorem aSb:gM CP=none:=rfl
theorem aP0:gM wB=none:=rfl
theorem aKF:gM tU=none:=rfl
theorem aGQ:gM zD=none:=rfl
theorem aSc:gM HR=none:=rfl
theorem aSd:gM HQ=none:=rfl
theorem aMV:gM GX=none:=rfl
theorem aNJ (hx:Deep PP bK gM M (n+2) x){z:Int} (hz:Ls z) (hK:K (nu (iZ z)) S):x.call CP [iz z,nu 11] S K:=by
 refine hx.call aSb fun y hy=>?_;rw [aBZ];unfold Jn;rw [rK];rcases aB2 hz with rfl | rfl | rfl
 ·show y.call yR [nu 0,nu 1,nu 11] S _
  exact aBc hy (by decide) (by decide) qQ (aM hK)
 ·show y.call CF [nu 0,nu 0,nu 11] S _
  exact aIl hy (by decide) (by decide) qQ (aM hK)
 ·show y.call CF [nu 1,nu 0,nu 11] S _
  exact aIl hy (by decide) (by decide) qQ (aM hK)
theorem lv{O:Tag}{z:Int}{K:V->Prop}:bP (w1 O z) K=K (ni 1):=rfl
theorem aNK (hx:Deep PP bK gM M (n+1) x) (hK:K (.bool true) S):x.call HR [.agg (pv two)] S K:=by
 refine hx.call aSc fun y hy=>?_;rw [aBY];unfold Jm;refine cC jN fun b hb=>?_;have rb:aL S b (.row (pv two) 29) b=some (.row (pv two) 29):=aB;have e7:(pv two)[7]? =some (ni 1):=rfl;have e8:(pv two)[8]? =some (ni 1):=rfl;have e10:(pv two)[10]? =some (ni 1):=rfl;have e11:(pv two)[11]? =some (ni 1):=rfl;have hg:∀{a b:Nat} {t:TypeId} {k:V->Prop},aJ PP .leq t (ni a) (ni b) k=k (.bool (decide (a<=b))):=fun {a b t k}=>by rw [JX];congr 2;simp
 simp only [aE];rw [aY,cT rb e7,zX,bI (by decide)];simp only [aN];rw [aY,cT rb e7,hg,bI (by decide),dI];simp only [aN];rw [aY,cT rb e8,zX,bI (by decide),dI];simp only [aN];rw [aY,cT rb e8,hg,bI (by decide),dI];simp only [aN];rw [aY,cT rb e10,zX,bI (by decide),dI];simp only [aN];rw [aY,cT rb e10,hg,bI (by decide),dI];simp only [aN];rw [aY,cT rb e11,zX,bI (by decide),dI];simp only [aN];rw [aY,cT rb e11,hg,bI (by decide),dI];exact bL (.aK hb) hK
theorem aP1 (hM:10<M) (hx:Deep PP bK gM M (n+3) x){O:Tag}{z:Int} (hz:Ls z) (hK:∀w S',bU S S'->MN S S' w [iZ z]->K w S'):x.call wB [nu 11,w1 O z] S K:=by
 refine hx.call aP0 fun y hy=>?_;rw [Kq];unfold TM;obtain⟨m,hm⟩:∃m,M=m+2:=⟨M-2,by omega⟩;rw [lv,hy.most,hm,EJ];unfold vJ;refine aF ?_;rw [aQ,zJ (by decide),bW,jL (by decide)];show y.call CP [iz z,nu 11] S _;refine aNJ hy hz ?_;refine(MN.nil (S0:=S)).app (.refl _) (by simp) fun w S1 dL k1 m1=>?_;rw [bG (by decide),EJ];unfold vJ;refine aF ?_;rw [aQ,jM (by decide),bE];exact aM (hK w S1 dL m1)
theorem aNL (hM:10<M) (hx:Deep PP bK gM M (n+4) x){O:Tag}{q:Int} (hq:Ls q) (hK:∀O,K (.list O (kK (Sx q)) 2) S):x.call HQ [.agg (pv two),w1 O q] S K:=by
 refine hx.call aSd fun y hy=>?_;rw [aBX];unfold Jl;refine cC jN fun p hp=>?_;have dL:bU S (aL S p (.row (pv two) 29)):= .aK hp;have rp:aL S p (.row (pv two) 29) p=some (.row (pv two) 29):=aB;generalize aL S p (.row (pv two) 29)=S1 at dL rp;have e1:(pv two)[1]? =some (nu 11):=rfl;have e8:(pv two)[8]? =some (ni 1):=rfl;rw [lA rp];refine aNK (n:=n+2) hy ?_;rw [rC,fL,bE,aY,cT rp e8,bG (by decide)];refine⟨by decide,by decide,by decide,fun r hr=>?_⟩;have fO:bU S1 (aL S1 r (.row (oD [0,0]) 22)):= .aK hr;have rr:aL S1 r (.row (oD [0,0]) 22) r=some (.row (oD [0,0]) 22):=aB;show(aV 8 (.ptr p 0) fun v8=>aW v8 (aL S1 r (.row (oD [0,0]) 22)) fun v9 S=>LG 22 1 (.own r 0 2 2) none (some v9) none S fun v10=>_);generalize aL S1 r (.row (oD [0,0]) 22)=S2 at fO rr;rw [aY,cT (fO _ _ rp) e8];refine⟨by decide,by decide,by decide,?_⟩;dsimp only;rw [aY,cT (fO _ _ rp) e1];refine aP1 (n:=n) hM hy hq fun w S3 pR mw=>?_;rw [cT (pR _ _ (fO _ _ rp)) e8,cE];have rr3:=pR _ _ rr;refine mw.nv.src ?_;refine⟨bQ _,rfl,?_⟩;simp only [rr3];refine⟨Nat.le_add_left 1 1,?_⟩;have es:bA 0 (oD [iZ q]) (oD [0,0])=oD [iZ q,0]:=rfl;rw [show(if 2=0 then 0 else 0+0*1)=0 from rfl,es];have hpr:p≠r:=fun c=>by rw [c,hr]at rp;cases rp
 have rp4:aL S3 r (.row (oD [iZ q,0]) 22) p=some (.row (pv two) 29):=by rw [aC hpr];exact pR _ _ (fO _ _ rp)
 have Lj:aL S3 r (.row (oD [iZ q,0]) 22) r=some (.row (oD [iZ q,0]) 22):=aB;have IS:bU S1 (aL S3 r (.row (oD [iZ q,0]) 22)):=fun j o e=>by rw [aC (fun c=>by rw [c,hr]at e;cases e)];exact pR _ _ (fO _ _ e)
 generalize aL S3 r (.row (oD [iZ q,0]) 22)=S4 at rp4 Lj IS;rw [cT rp4 e8,cE,aY,cT rp4 e8,aY,cT rp4 e1];refine aNJ (n:=n+1) hy (z:=1) (by unfold Ls;omega) ?_;rw [cT rp4 e8,cE];refine⟨by decide,?_⟩;dsimp only;refine MX Lj rfl (xN 1) ?_;refine gP (S':=S) (cs:=kK (Sx q)) (n:=2) (fun j o e=>?_) (.own (vs:=oD (Sx q)) (t:=22) aB (dL.none hr) (bQ _) (bQ _) fun j v d a b=>?_) hK
 ·rw [aC (fun c=>by rw [c,dL.none hr]at e;cases e)]
  exact IS _ _ (dL _ _ e)
 ·rw [eJ]at a
  exact aFd j v d a b
theorem aGR (hx:Deep PP bK gM M (n+1) x){z:Int}{b:Nat} (hb:S b=some (.row [ni 1] 2)) (hK:K (.bool (decide (z< -1) || decide (1<z))) S):x.call zD [iz z,.ptr b 0] S K:=by
 refine hx.call aGQ fun y hy=>?_;rw [Hu];unfold PW;have l0:∀{K:KV},aW (.ptr b 0) S K=K (ni 1) S:=cT hb rfl;rw [l0];show aJ PP .lss 2 (iz z) (iz (-1)) _;rw [rK];by_cases c:z< -1
 ·rw [bI c]at hK ⊢
  simp only [aE,sH,dI];exact aM hK
 ·rw [bO c]at hK ⊢
  simp only [aE,aN,l0,dJ];rw [OY];exact aM hK
theorem aKG (hM:1000000<M) (hx:Deep PP bK gM M (n+5) x){O:Tag}{l:List Int} (hl:l.length<1000000){j:Nat} (rj:S j=some (.row [.list O (kW l) l.length] 39)) (hK:K (.bool (!(l.any fun z=>decide (z< -1) || decide (1<z)))) S):x.call tU [ni 1,.own j 0 1 1] S K:=by
 refine hx.call aKF fun y hy=>?_;rw [Qm];unfold WZ;intro b hb;have rb:aL S b (.row [ni 1] 2) b=some (.row [ni 1] 2):=aB;have dL:bU S (aL S b (.row [ni 1] 2)):= .aK hb;show sZ y y.most (.ptr b 0) (.own j 0 1 1) (ni 1) (ni 0) (aL S b (.row [ni 1] 2)) K;generalize aL S b (.row [ni 1] 2)=S1 at rb dL;have rj1:=dL _ _ rj;obtain⟨m,hm⟩:∃m,M=m+2:=⟨M-2,by omega⟩;rw [hy.most,hm,HV];unfold yN;refine aF ?_;rw [aQ,zJ (by decide),bW];refine⟨by decide,?_⟩;show aW (.ptr j 0) S1 _;rw [cT (o:=0) rj1 rfl];refine aMF hM hy hl (p:=fun z=>decide (z< -1) || decide (1<z)) (fun u hu a ha K hk=>aGR hu rb hk) ?_;cases c:l.any fun z=>decide (z< -1) || decide (1<z)with
 | true=>
  rw [c]at hK;rw [bW];exact bL dL hK
 | false=>
  rw [c]at hK;rw [bE,bG (by decide),HV];unfold yN;refine aF ?_;rw [aQ,jM (by decide),bE];exact bL dL hK
theorem aMW (hM:1000000<M) (hx:Deep PP bK gM M (n+6) x){O:Tag}{l:List Int} (hl:l.length<1000000) (hK:K (ni (qF l)) S):x.call GX [.agg (pv two),.list O (kW l) l.length] S K:=by
 refine hx.call aMV fun y hy=>?_;rw [Su];unfold ZR;refine cC jN fun p hp=>?_;have dL:bU S (aL S p (.row (pv two) 29)):= .aK hp;have rp:aL S p (.row (pv two) 29) p=some (.row (pv two) 29):=aB;generalize aL S p (.row (pv two) 29)=S1 at dL rp;have e8:(pv two)[8]? =some (ni 1):=rfl;have e11:(pv two)[11]? =some (ni 1):=rfl;rw [lA rp];refine aNK (n:=n+4) hy ?_;rw [rC,fL,aE,aN];dsimp only;rw [aE,aN];dsimp only;rw [cZ,aE,aN,aY];dsimp only;rw [aE,aN,cT rp e8];dsimp only;rw [aE,aN];dsimp only;rw [yB,aE,dJ];by_cases c:l.length=1
 ·rw [bI c,fL,bE,aY,cT rp e11]
  refine⟨rfl,by simp,fun j hj=>?_⟩;have rj:aL S1 j (.row [.list O (kW l) l.length] 39) j=some (.row [.list O (kW l) l.length] 39):=aB;have fO:bU S1 (aL S1 j (.row [.list O (kW l) l.length] 39)):= .aK hj;show y.call tU [ni 1,.own j 0 1 1] (aL S1 j (.row [.list O (kW l) l.length] 39)) _;refine aKG hM hy hl rj ?_;rw [rC,Bool.not_not];unfold qF at hK;rw [aO c]at hK;cases c2:l.any fun z=>decide (z< -1) || decide (1<z)with
  | true=>rw [c2]at hK;rw [bW];exact bL (dL.trans fO) hK
  | false=>rw [c2]at hK;rw [bE];exact bL (dL.trans fO) hK
 ·rw [bO c,DB,bW]
  unfold qF at hK;rw [aG c]at hK;exact bL dL hK
end
end Go.Am
set_option maxRecDepth 100000
namespace Go.Am
def Jo (x:VE) (a0 a1:V) (S:Hp) (K:KV):Prop:=
 x.call RU [a1] S fun v0 S=>
 SP .not v0 fun v1=>
 iR v1 (bF (.int .i64 (.ofNat 0)) S K) (x.call JY [a0,a1] S fun v2 S=>nP PP v2 fun v3=>aV 2 v3 fun v4=>aW v4 S fun v5 S=>Pk v5 S fun v6 S=>bF v6 S K)
theorem aB0 (x:VE) (a0 a1:V) (S:Hp) (K:KV):jX PP bK HP x [a0,a1] S K=Jo x a0 a1 S K:=by kernel_rfl
def Qn (x:VE) (a0:V) (S:Hp) (K:KV):Prop:=
 aJ PP .leq 22 a0 (.int .u64 (.ofNat 2305843009213693952)) fun v0=>
 aI x.most (aH true v0 (fun k=>k a0 S) S fun v1 S=>aI x.most (aH true v0 (fun k=>x.call MW [v1] S fun v2 S=>k v2 S) S fun v3 S=>aI x.most (fK v0 v3 (.bool false) fun v4=>bF v4 S K)))
theorem aDF (x:VE) (a0:V) (S:Hp) (K:KV):jX PP bK RU x [a0] S K=Qn x a0 S K:=by kernel_rfl
def wD (x:VE) (m:Nat) (t0 t5 t14 t15 t16:V) (S:Hp) (K:KV):Prop:=dW PP bK JY x [.r,.r,.l,.r,.d] m [] [t0,t5,t14,t15,t16] S K
def tX (x:VE) (m:Nat) (t5 t31 t32 t33:V) (S:Hp) (K:KV):Prop:=dW PP bK JY x [.r,.r,.r,.l,.r,.d] m [] [t5,t31,t32,t33] S K
def Va (x:VE) (a0 a1:V) (S:Hp) (K:KV):Prop:=
 Eo S fun v0 S=>
 cS [(.int .u64 (.ofNat 0)),(.int .i64 (.ofNat 0)),(.map none)] [(0,1,a1),(2,1,v0)] fun v1=>
 iG 183 v1 S fun v2 S=>
 bP a0 fun v3=>
 wD x x.most a0 v2 a0 v3 (.int .i64 (.ofNat 0)) S K
theorem aGN (x:VE) (a0 a1:V) (S:Hp) (K:KV):jX PP bK JY x [a0,a1] S K=Va x a0 a1 S K:=by kernel_rfl
def GF (x:VE) (m0:Nat) (t0 t5 t14 t15 t16:V) (S:Hp) (K:KV):Prop:=
 cR S fun S=>
 aJ PP .lss 3 t16 t15 fun v0=>
 iR v0 (cV 1 t14 t16 fun v1=>aW v1 S fun v2 S=>nP PP t5 fun v3=>aV 1 v3 fun v4=>aW v4 S fun v5 S=>bP v2 fun v6=>Bg true v5 v6 fun v7=>nP PP t5 fun v8=>aV 1 v8 fun v9=>nI 1 v9 v7 S fun S=>aJ PP .add 3 t16 (.int .i64 (.ofNat 1)) fun v10=>wD x m0 t0 t5 t14 t15 v10 S K) (bP t0 fun v11=>tX x x.most t5 t0 v11 (.int .i64 (.ofNat 0)) S K)
theorem PX (x:VE) (m0:Nat) (t0 t5 t14 t15 t16:V) (S:Hp) (K:KV):wD x (m0+1) t0 t5 t14 t15 t16 S K=GF x m0 t0 t5 t14 t15 t16 S K:=by kernel_rfl
def rY (x:VE) (m0:Nat) (t5 t31 t32 t33:V) (S:Hp) (K:KV):Prop:=
 cR S fun S=>
 aJ PP .lss 3 t33 t32 fun v0=>
 iR v0 (cV 1 t31 t33 fun v1=>aW v1 S fun v2 S=>x.call gZ [t5,v2] S fun v3 S=>aJ PP .add 3 t33 (.int .i64 (.ofNat 1)) fun v4=>tX x m0 t5 t31 t32 v4 S K) (bF t5 S K)
theorem xH (x:VE) (m0:Nat) (t5 t31 t32 t33:V) (S:Hp) (K:KV):tX x (m0+1) t5 t31 t32 t33 S K=rY x m0 t5 t31 t32 t33 S K:=by kernel_rfl
def iN (x:VE) (m:Nat) (t0 t4 t5 t6 t32 t33:V) (S:Hp) (K:KV):Prop:=dW PP bK gZ x [.r,.r,.r,.l,.r,.d] m [] [t0,t4,t5,t6,t32,t33] S K
def nK (x:VE) (m:Nat) (t0 t4 t5 t54:V) (S:Hp) (K:KV):Prop:=dW PP bK gZ x [.r,.r,.r,.r,.l,.r,.d] m [] [t0,t4,t5,t54] S K
def zE (x:VE) (a0 a1:V) (S:Hp) (K:KV):Prop:=
 x.call lN [a0,a1] S fun v0 S=>
 vB 0 v0 fun v1=>
 vB 1 v0 fun v2=>
 aJ PP .lss 3 v2 (.int .i64 (.ofNat 0)) fun v3=>
 iR v3 (bF (.tuple []) S K) (cV 1 v1 v2 fun v4=>aW v4 S fun v5 S=>nP PP a0 fun v6=>aV 0 v6 fun v7=>aW v7 S fun v8 S=>x.call yS [v5,v8] S fun v9 S=>vB 0 v9 fun v10=>vB 1 v9 fun v11=>bP v1 fun v12=>iN x x.most a0 v1 v2 v10 v12 (.int .i64 (.ofNat 0)) S K)
theorem GH (x:VE) (a0 a1:V) (S:Hp) (K:KV):jX PP bK gZ x [a0,a1] S K=zE x a0 a1 S K:=by kernel_rfl
def nL (x:VE) (m0:Nat) (t0 t4 t5 t6 t32 t33:V) (S:Hp) (K:KV):Prop:=
 cR S fun S=>
 aJ PP .lss 3 t33 t32 fun v0=>
 iR v0 (cV 1 t4 t33 fun v1=>aW v1 S fun v2 S=>nP PP t0 fun v3=>aV 0 v3 fun v4=>aW v4 S fun v5 S=>x.call oC [v2,t6,v5] S fun v6 S=>cV 1 t4 t33 fun v7=>nI 1 v7 v6 S fun S=>aJ PP .add 3 t33 (.int .i64 (.ofNat 1)) fun v8=>iN x m0 t0 t4 t5 t6 t32 v8 S K) (nP PP t0 fun v9=>aV 2 v9 fun v10=>aW v10 S fun v11 S=>GS v11 S fun v12 S=>nK x x.most t0 t4 t5 v12 S K)
theorem sJ (x:VE) (m0:Nat) (t0 t4 t5 t6 t32 t33:V) (S:Hp) (K:KV):iN x (m0+1) t0 t4 t5 t6 t32 t33 S K=nL x m0 t0 t4 t5 t6 t32 t33 S K:=by kernel_rfl
def mN (x:VE) (m0:Nat) (t0 t4 t5 t54:V) (S:Hp) (K:KV):Prop:=
 cR S fun S=>
 LN t54 S fun v0 S=>
 vB 0 v0 fun v1=>
 iR v1 (RM t54 S fun v2 S=>vB 1 v2 fun v3=>cV 1 v3 t5 fun v4=>aW v4 S fun v5 S=>x.call oJ [t0,v3,t4,v5] S fun v6 S=>nK x m0 t0 t4 t5 t54 S K) (nP PP t0 fun v7=>aV 2 v7 fun v8=>aW v8 S fun v9 S=>AE (.one (.int .i64)) v9 t5 t4 S fun S=>bF (.tuple []) S K)
theorem rG (x:VE) (m0:Nat) (t0 t4 t5 t54:V) (S:Hp) (K:KV):nK x (m0+1) t0 t4 t5 t54 S K=mN x m0 t0 t4 t5 t54 S K:=by kernel_rfl
def tY (x:VE) (m:Nat) (t0 t6 TY:V) (S:Hp) (K:KV):Prop:=dW PP bK lN x [.r,.r,.l,.r,.d] m [] [t0,t6,TY] S K
def iA (x:VE) (m:Nat) (t6 t32 t33 t34:V) (S:Hp) (K:KV):Prop:=dW PP bK lN x [.r,.r,.r,.l,.r,.d] m [] [t6,t32,t33,t34] S K
def EK (x:VE) (a0 a1:V) (S:Hp) (K:KV):Prop:=
 x.call tV [a0,a1] S fun v0 S=>
 nP PP a0 fun v1=>
 aV 2 v1 fun v2=>
 aW v2 S fun v3 S=>
 GS v3 S fun v4 S=>
 tY x x.most a0 v0 v4 S K
theorem NJ (x:VE) (a0 a1:V) (S:Hp) (K:KV):jX PP bK lN x [a0,a1] S K=EK x a0 a1 S K:=by kernel_rfl
def nM (x:VE) (m0:Nat) (t0 t6 TY:V) (S:Hp) (K:KV):Prop:=
 cR S fun S=>
 LN TY S fun v0 S=>
 vB 0 v0 fun v1=>
 iR v1 (RM TY S fun v2 S=>vB 0 v2 fun v3=>vB 1 v2 fun v4=>cV 1 t6 v3 fun v5=>aW v5 S fun v6 S=>x.call oJ [t0,t6,v4,v6] S fun v7 S=>tY x m0 t0 t6 TY S K) (bP t6 fun v8=>iA x x.most t6 t6 v8 (.int .i64 (.ofNat 0)) S K)
theorem sK (x:VE) (m0:Nat) (t0 t6 TY:V) (S:Hp) (K:KV):tY x (m0+1) t0 t6 TY S K=nM x m0 t0 t6 TY S K:=by kernel_rfl
def mO (x:VE) (m0:Nat) (t6 t32 t33 t34:V) (S:Hp) (K:KV):Prop:=
 cR S fun S=>
 aJ PP .lss 3 t34 t33 fun v0=>
 iR v0 (cV 1 t32 t34 fun v1=>aW v1 S fun v2 S=>aJ PP .neq 22 v2 (.int .u64 (.ofNat 0)) fun v3=>iR v3 (bF (.tuple [t6,t34]) S K) (aJ PP .add 3 t34 (.int .i64 (.ofNat 1)) fun v4=>iA x m0 t6 t32 t33 v4 S K)) (bF (.tuple [t6,(.int .i64 (.negSucc 0))]) S K)
theorem rH (x:VE) (m0:Nat) (t6 t32 t33 t34:V) (S:Hp) (K:KV):iA x (m0+1) t6 t32 t33 t34 S K=mO x m0 t6 t32 t33 t34 S K:=by kernel_rfl
def rZ (x:VE) (m:Nat) (t0 t1 t3 t10 t11 t12:V) (S:Hp) (K:KV):Prop:=dW PP bK oJ x [.r,.d] m [] [t0,t1,t3,t10,t11,t12] S K
def NM (x:VE) (a0 a1 a2 a3:V) (S:Hp) (K:KV):Prop:=
 bP a2 fun v0=>
 rZ x x.most a0 a1 a3 a2 v0 (.int .i64 (.ofNat 0)) S K
theorem Fj (x:VE) (a0 a1 a2 a3:V) (S:Hp) (K:KV):jX PP bK oJ x [a0,a1,a2,a3] S K=NM x a0 a1 a2 a3 S K:=by kernel_rfl
def qL (x:VE) (m0:Nat) (t0 t1 t3 t10 t11 t12:V) (S:Hp) (K:KV):Prop:=
 cR S fun S=>
 aJ PP .lss 3 t12 t11 fun v0=>
 iR v0 (cV 1 t10 t12 fun v1=>aW v1 S fun v2 S=>cV 1 t1 t12 fun v3=>aW v3 S fun v4 S=>nP PP t0 fun v5=>aV 0 v5 fun v6=>aW v6 S fun v7 S=>nP PP t0 fun v8=>aV 0 v8 fun v9=>aW v9 S fun v10 S=>x.call oC [v2,t3,v7] S fun v11 S=>aW v9 S fun v12 _=>aU v12 v10 (aW v3 S fun qE _=>aU qE v4 (x.call yR [v4,v11,v10] S fun qU S=>cV 1 t1 t12 fun wI=>nI 1 wI qU S fun S=>aJ PP .add 3 t12 (.int .i64 (.ofNat 1)) fun wJ=>rZ x m0 t0 t1 t3 t10 t11 wJ S K))) (bF (.tuple []) S K)
theorem wV (x:VE) (m0:Nat) (t0 t1 t3 t10 t11 t12:V) (S:Hp) (K:KV):rZ x (m0+1) t0 t1 t3 t10 t11 t12 S K=qL x m0 t0 t1 t3 t10 t11 t12 S K:=by kernel_rfl
def kS (x:VE) (m:Nat) (t0 t5 t19 t20:V) (S:Hp) (K:KV):Prop:=dW PP bK tV x [.r,.r,.r,.l,.r,.d] m [] [t0,t5,t19,t20] S K
def PY (x:VE) (a0 a1:V) (S:Hp) (K:KV):Prop:=
 nP PP a0 fun v0=>
 aV 1 v0 fun v1=>
 aW v1 S fun v2 S=>
 bP a1 fun v3=>
 Bg true v2 v3 fun v4=>
 vMk 22 8 [(.int .u64 (.ofNat 0))] v4 v4 S fun v5 S=>
 Up 1 v5 a1 S fun v6 S=>
 bP v5 fun v7=>
 kS x x.most a0 v5 v7 (.int .i64 (.ofNat 0)) S K
theorem Hv (x:VE) (a0 a1:V) (S:Hp) (K:KV):jX PP bK tV x [a0,a1] S K=PY x a0 a1 S K:=by kernel_rfl
def nN (x:VE) (m0:Nat) (t0 t5 t19 t20:V) (S:Hp) (K:KV):Prop:=
 cR S fun S=>
 aJ PP .lss 3 t20 t19 fun v0=>
 iR v0 (cV 1 t5 t20 fun v1=>aW v1 S fun v2 S=>nP PP t0 fun v3=>aV 0 v3 fun v4=>aW v4 S fun v5 S=>aJ PP .rem 22 v2 v5 fun v6=>cV 1 t5 t20 fun v7=>nI 1 v7 v6 S fun S=>aJ PP .add 3 t20 (.int .i64 (.ofNat 1)) fun v8=>kS x m0 t0 t5 t19 v8 S K) (bF t5 S K)
theorem sL (x:VE) (m0:Nat) (t0 t5 t19 t20:V) (S:Hp) (K:KV):kS x (m0+1) t0 t5 t19 t20 S K=nN x m0 t0 t5 t19 t20 S K:=by kernel_rfl
end Go.Am
set_option maxRecDepth 4000
namespace Go.Am
open Go.Proofs.OG
def O2 (S:Hp) (r a b:Nat):Prop:=S r=some (.row (oD [a,b]) 22)
abbrev ow (r:Nat):V:= .own r 0 2 2
def Sp (S:Hp) (s w m:Nat):Prop:=S s=some (.row [nu 11,ni w,.yZ m] 183)
section
variable{M n s m r r2 w:Nat}{x:VE}{S:Hp}{K:KV}{a b c d t:Nat}
theorem ix0{k:V->Prop}:cV 1 (ow r) (.int .i64 (.ofNat 0)) k=k (.ptr r 0):=propext ⟨fun h=>h.2,fun h=>⟨by decide,h⟩⟩
theorem ix1{k:V->Prop}:cV 1 (ow r) (.int .i64 (.ofNat 1)) k=k (.ptr r 1):=propext ⟨fun h=>h.2,fun h=>⟨by decide,h⟩⟩
theorem aDI (h:O2 S r a b){K:KV}:aW (.ptr r 0) S K=K (nu a) S:=cT h rfl
theorem aDJ (h:O2 S r a b){K:KV}:aW (.ptr r 1) S K=K (nu b) S:=cT h rfl
theorem aKH (h:O2 S r a b){k:Hp->Prop}:nI 1 (.ptr r 0) (nu c) S k=k (aL S r (.row (oD [c,b]) 22)):=DV h (show 0<2 by decide) rfl
theorem aKI (h:O2 S r a b){k:Hp->Prop}:nI 1 (.ptr r 1) (nu c) S k=k (aL S r (.row (oD [a,c]) 22)):=DV h (show 1<2 by decide) rfl
theorem O2.other (h:O2 S r a b) (hn:r≠r2){o:Ob}:O2 (aL S r2 o) r a b:=by unfold O2;rw [aC hn];exact h
theorem Ku (h:Sp S s w m){K:KV}:aW (.ptr s 0) S K=K (nu 11) S:=cT h rfl
theorem aSe (h:Sp S s w m){K:KV}:aW (.ptr s (0+1)) S K=K (ni w) S:=cT h rfl
theorem aGS (h:Sp S s w m){K:KV}:aW (.ptr s (0+2)) S K=K (.yZ m) S:=cT h rfl
theorem Sp.other (h:Sp S s w m) (hn:s≠r2){o:Ob}:Sp (aL S r2 o) s w m:=by unfold Sp;rw [aC hn];exact h
theorem aKJ (h:Sp S s w m) (g:O2 S r a b):s≠r:=fun e=>by subst e;unfold Sp at h;unfold O2 at g;rw [h]at g;injection g with g;injection g with _ g;cases g
theorem aP2:gM tV=none:=rfl
theorem aMX:gM oJ=none:=rfl
theorem aFh:gM lN=none:=rfl
theorem aDK:gM gZ=none:=rfl
theorem aSf:gM JY=none:=rfl
theorem aP3:gM RU=none:=rfl
theorem aMY:gM HP=none:=rfl
theorem aKK (hM:10<M) (hx:Deep PP bK gM M (n+1) x){O:Tag} (hs:Sp S s 2 m) (ha:a<11) (hb:b<11) (hK:∀r S',S r=none->bU S S'->O2 S' r a b->K (ow r) S'):x.call tV [.ptr s 0,.list O (kK [a,b]) 2] S K:=by
 refine hx.call aP2 fun y hy=>?_;rw [Hv];unfold PY;rw [cK,aZ,aSe hs,cZ,show ∀k:V->Prop,Bg true (ni 2) (.int .i64 (.ofNat 2)) k=k (ni 2)from fun k=>(show k (.int .i64 (max 2 2))=k (.int .i64 2)by rw [Int.max_self])];show vMk 22 8 [(.int .u64 (.ofNat 0))] (ni 2) (ni 2) S _;refine⟨by decide,by decide,by decide,fun r hr=>?_⟩;show Up 1 (ow r) (.list O (kK [a,b]) 2) (aL S r (.row (oD [0,0]) 22)) _;have dL:bU S (aL S r (.row (oD [0,0]) 22)):= .aK hr;refine⟨bQ 2,?_⟩;refine⟨bQ 2,rfl,?_⟩;simp only [aB];refine⟨bQ 2,?_⟩;rw [fD];show bP (ow r) fun v7=>kS y y.most (.ptr s 0) (ow r) v7 (ni 0) (aL S r (.row (oD [a,b]) 22)) K;have o1:O2 (aL S r (.row (oD [a,b]) 22)) r a b:=aB;have fO:bU S (aL S r (.row (oD [a,b]) 22)):= .aK hr;have sp1:Sp (aL S r (.row (oD [a,b]) 22)) s 2 m:=fO _ _ hs;generalize aL S r (.row (oD [a,b]) 22)=S1 at o1 fO sp1;obtain⟨M',EM⟩:∃k,M=k+3:=⟨M-3,by omega⟩;show kS y y.most (.ptr s 0) (ow r) (ni 2) (ni 0) S1 K;rw [hy.most,EM,sL];unfold nN;refine aF ?_;rw [aQ,zJ (by decide),bW,ix0,aDI o1,cK,aY,Ku sp1,YZ (by decide),UE ha,ix0,aKH o1,show aL S1 r (.row (oD [a,b]) 22)=S1 from aBt o1,bG (by decide),sL];unfold nN;refine aF ?_;rw [aQ,zJ (by decide),bW,ix1,aDJ o1,cK,aY,Ku sp1,YZ (by decide),UE hb,ix1,aKI o1,show aL S1 r (.row (oD [a,b]) 22)=S1 from aBt o1,bG (by decide),sL];unfold nN;refine aF ?_;rw [aQ,jM (by decide),bE];exact aM (hK r S1 hr fO o1)
theorem lJ{q:Nat} (h:q<11):EQ q:=show q<18446744073709551616 by omega
theorem Lt (a b:Nat):iD a b 11<11:=jD _ (by decide)
theorem aFi (hM:10<M) (hx:Deep PP bK gM M (n+2) x) (hs:Sp S s w m) (h1:O2 S r a b) (h2:O2 S r2 c d) (hn:r≠r2) (ha:a<11) (hb:b<11) (hc:c<11) (hd:d<11) (ht:t<11)
 (hK:K (.tuple []) (aL S r (.row (oD [iD a (c*t%11) 11,iD b (d*t%11) 11]) 22))):x.call oJ [.ptr s 0,ow r,ow r2,nu t] S K:=by
 refine hx.call aMX fun y hy=>?_;rw [Fj];unfold NM;show rZ y y.most (.ptr s 0) (ow r) (nu t) (ow r2) (ni 2) (ni 0) S K;obtain⟨M',EM⟩:∃k,M=k+3:=⟨M-3,by omega⟩;rw [hy.most,EM,wV];unfold qL;refine aF ?_;rw [aQ,zJ (by decide),bW,ix0,aDI h2,ix0,aDI h1,cK,aY,Ku hs,cK,aY,Ku hs];refine PA hy (lJ hc) (lJ ht) qQ ?_;rw [Ku hs,cE,aDI h1,cE];refine aBc hy (lJ ha) (lJ (jD _ (by decide))) qQ ?_;have hsr:=aKJ hs h1;rw [ix0,aKH h1,bG (by decide),wV];unfold qL;refine aF ?_;have h1':O2 (aL S r (.row (oD [iD a (c*t%11) 11,b]) 22)) r (iD a (c*t%11) 11) b:=aB;have h2':O2 (aL S r (.row (oD [iD a (c*t%11) 11,b]) 22)) r2 c d:=h2.other (aP hn);have hs':Sp (aL S r (.row (oD [iD a (c*t%11) 11,b]) 22)) s w m:=hs.other hsr;rw [aQ,zJ (by decide),bW,ix1,aDJ h2',ix1,aDJ h1',cK,aY,Ku hs',cK,aY,Ku hs'];refine PA hy (lJ hd) (lJ ht) qQ ?_;rw [Ku hs',cE,aDJ h1',cE];refine aBc hy (lJ hb) (lJ (jD _ (by decide))) qQ ?_;rw [ix1,aKI h1',fD,bG (by decide),wV];unfold qL;refine aF ?_;rw [aQ,jM (by decide),bE];exact aM hK
def Kw (u v:Nat):V:=if u≠0 then ni 0 else if v≠0 then ni 1 else .int .i64 (.negSucc 0)
theorem Vb (hM:10<M){y:VE} (h:O2 S r a b) (hK:K (.tuple [ow r,Kw a b]) S):iA y M (ow r) (ow r) (ni 2) (ni 0) S K:=by
 obtain⟨M',EM⟩:∃k,M=k+3:=⟨M-3,by omega⟩;rw [EM,rH];unfold mO;refine aF ?_;rw [aQ,zJ (by decide),bW,ix0,aDI h,aIk];unfold Kw at hK;by_cases c1:a=0
 ·rw [bI c1,fL,bE,bG (by decide),rH]
  unfold mO;refine aF ?_;rw [aQ,zJ (by decide),bW,ix1,aDJ h,aIk];rw [aG (by simpa using c1)]at hK;by_cases c2:b=0
  ·rw [bI c2,fL,bE,bG (by decide),rH]
   unfold mO;refine aF ?_;rw [aQ,jM (by decide),bE];rw [aG (by simpa using c2)]at hK;exact aM hK
  ·rw [bO c2,DB,bW]
   rw [aO c2]at hK;exact aM hK
 ·rw [bO c1,DB,bW]
  rw [aO c1]at hK;exact aM hK
theorem aMZ (hM:10<M) (hx:Deep PP bK gM M (n+3) x){O:Tag} (hs:Sp S s 2 m) (hm:S m=some (.map [])) (ha:a<11) (hb:b<11) (hK:∀r S',S r=none->bU S S'->O2 S' r a b->K (.tuple [ow r,Kw a b]) S'):x.call lN [.ptr s 0,.list O (kK [a,b]) 2] S K:=by
 refine hx.call aFh fun y hy=>?_;rw [NJ];unfold EK;refine aKK hM hy hs ha hb fun r S1 hr dL o1=>?_;have xK:Sp S1 s 2 m:=dL _ _ hs;have CX:=dL _ _ hm;rw [cK,aZ,aGS xK];unfold GS;simp only [CX];intro bs ck Zw _ _ i hi;have hb0:bs=[]:=sB Zw;subst hb0;have him:i≠m:=fun e=>by rw [e,aB]at hi;cases hi
 have IQ:S1 i=none:=by rw [aC him]at hi;exact hi
 rw [hy.most];obtain⟨M',EM⟩:∃k,M=k+1:=⟨M-1,by omega⟩;rw [EM,sK];unfold nM;refine aF ?_;have hmi:aL (aL S1 m (.wP [] [] ck)) i (.iter m ck [] ck) m=some (.wP [] [] ck):=by rw [aC (aP him)];exact aB
 unfold LN;simp only [aB,hmi];refine⟨(fun b hb=>by cases hb),bQ _,fun _=>?_,(fun j e b he=>by cases he)⟩;refine dC (v:= .bool false) rfl ?_;rw [bE];show iA y y.most (ow r) (ow r) (ni 2) (ni 0) _ K;rw [hy.most]
 have fO:bU S1 (aL (aL (aL S1 m (.wP [] [] ck)) i (.iter m ck [] ck)) m (.map [])):=fun j o e=>by
  by_cases c1:j=m
  ·subst c1;rw [aB,<-e,CX]
  ·rw [aC c1,aC (fun c=>by rw [c,IQ]at e;cases e),aC c1];exact e
 refine Vb hM (fO _ _ o1) (hK r _ hr (dL.trans fO) (fO _ _ o1))
def fZ (k a b:Nat):Nat:=if k=0 then a else b
theorem ixk (h:O2 S r a b){k:Nat} (hk:k<2){K:KV}:(cV 1 (ow r) (ni k) fun p=>aW p S K)=K (nu (fZ k a b)) S:=by
 match k,hk with
 | 0,_=>rw [ix0,aDI h];rfl
 | 1,_=>rw [ix1,aDJ h];rfl
theorem MD{k:Nat} (ha:a<11) (hb:b<11):fZ k a b<11:=by unfold fZ;split<;>assumption
theorem aFj (hM:10<M) (hx:Deep PP bK gM M (n+4) x){O:Tag}{k:Nat} (hk:k<2) (hs:Sp S s 2 m) (hm:S m=some (.map [(ni k,ow r2)])) (ho:O2 S r2 c d) (ha:a<11) (hb:b<11) (hc:c<11) (hd:d<11)
 (hK:∀r S',S r=none->bU S S'->O2 S' r (iD a (c*fZ k a b%11) 11) (iD b (d*fZ k a b%11) 11)->K (.tuple [ow r,Kw (iD a (c*fZ k a b%11) 11) (iD b (d*fZ k a b%11) 11)]) S'):x.call lN [.ptr s 0,.list O (kK [a,b]) 2] S K:=by
 refine hx.call aFh fun y hy=>?_;rw [NJ];unfold EK;refine aKK hM hy hs ha hb fun r S1 hr dL o1=>?_;have xK:Sp S1 s 2 m:=dL _ _ hs;have CX:=dL _ _ hm;have ho1:O2 S1 r2 c d:=dL _ _ ho;rw [cK,aZ,aGS xK];unfold GS;simp only [CX];intro bs ck Zw _ hlt i hi;obtain⟨b0,rfl⟩:∃b0,bs=[b0]:=by match bs,Zw with | [b0],_=>exact⟨b0,rfl⟩
 have him:i≠m:=fun e=>by rw [e,aB]at hi;cases hi
 have IQ:S1 i=none:=by rw [aC him]at hi;exact hi
 rw [hy.most];obtain⟨M',EM⟩:∃k,M=k+2:=⟨M-2,by omega⟩;rw [EM,sK];unfold nM;refine aF ?_;have hmi:aL (aL S1 m (.wP [(ni k,ow r2)] [b0] ck)) i (.iter m ck [] ck) m=some (.wP [(ni k,ow r2)] [b0] ck):=by rw [aC (aP him)];exact aB
 unfold LN;simp only [aB,hmi];refine⟨hlt,bQ _,fun h=>bC (h b0 (.head _)) (by simp),fun j e b' he SD hns=>?_⟩
 obtain rfl:j=0:=by
  have:=(List.getElem?_eq_some_iff.1 he).1;simp at this;omega
 injection he with he;injection SD with SD;subst he SD;refine dC (v:= .bool true) rfl ?_;rw [bW,fD];have hnm:∀{q:Nat} {o:Ob},S1 q=some o->(∀es,o≠ .map es)->q≠m:=fun {q o} e h c=>by rw [c,CX]at e;injection e with e;exact h _ e.symm
 have hni:∀{q:Nat} {o:Ob},S1 q=some o->q≠i:=fun {q o} e c=>by rw [c,IQ]at e;cases e
 have mF:∀{q:Nat} {o:Ob},S1 q=some o->(∀es,o≠ .map es)->aL (aL S1 m (.wP [(ni k,ow r2)] [b0] ck)) i (.iter m ck ([]++[b0]) ck) q=some o:=fun {q o} e h=>by rw [aC (hni e),aC (hnm e h)];exact e
 have o2:O2 _ r a b:=mF o1 (fun es c=>by cases c);have BN:O2 _ r2 c d:=mF ho1 (fun es c=>by cases c);have uA:Sp _ s 2 m:=mF xK (fun es c=>by cases c);have aDL:aL (aL S1 m (.wP [(ni k,ow r2)] [b0] ck)) i (.iter m ck ([]++[b0]) ck) m=some (.wP [(ni k,ow r2)] [b0] ck):=by rw [aC (aP him)];exact aB
 have aDM:aL (aL S1 m (.wP [(ni k,ow r2)] [b0] ck)) i (.iter m ck ([]++[b0]) ck) i=some (.iter m ck ([]++[b0]) ck):=aB;generalize hS2:aL (aL S1 m (.wP [(ni k,ow r2)] [b0] ck)) i (.iter m ck ([]++[b0]) ck)=S2 at o2 BN uA aDL aDM;unfold RM;simp only [aDM,aDL];refine⟨trivial,by simp,0,(ni k,ow r2),b0,rfl,rfl,rfl,?_⟩;refine dC (v:=ni k) rfl ?_;refine dC (v:=ow r2) rfl ?_;rw [ixk o2 hk];have hrr:r≠r2:=fun e=>by unfold O2 at ho;rw [<-e,hr]at ho;cases ho
 refine aFi hM hy uA o2 BN hrr ha hb hc hd (MD ha hb) ?_;rw [sK];unfold nM;refine aF ?_;generalize iD a (c*fZ k a b%11) 11=A at hK;generalize iD b (d*fZ k a b%11) 11=B at hK;have hrm:r≠m:=hnm o1 (fun es c=>by cases c);have hri:r≠i:=hni o1;have aP4:aL S2 r (.row (oD [A,B]) 22) m=some (.wP [(ni k,ow r2)] [b0] ck):=by rw [aC (aP hrm)];exact aDL
 have aP5:aL S2 r (.row (oD [A,B]) 22) i=some (.iter m ck ([]++[b0]) ck):=by rw [aC (aP hri)];exact aDM
 unfold LN;simp only [aP5,aP4];refine⟨hlt,bQ _,fun _=>?_,fun j e b' he SD hns=>?_⟩
 ·refine dC (v:= .bool false) rfl ?_
  rw [bE];show iA y y.most (ow r) (ow r) (ni 2) (ni 0) _ K;rw [hy.most];have oo:O2 (aL (aL S2 r (.row (oD [A,B]) 22)) m (.map [(ni k,ow r2)])) r A B:=by unfold O2;rw [aC hrm];exact aB
  refine Vb hM oo (hK r _ hr (fun j o e=>?_) oo);have e1:=dL _ _ e;have hjr:j≠r:=fun c=>by rw [c,hr]at e;cases e
  by_cases c1:j=m
  ·subst c1;rw [aB,<-e,hm]
  ·rw [aC c1,aC hjr,<-hS2,aC (hni e1),aC c1];exact e1
 ·obtain rfl:j=0:=by
   have:=(List.getElem?_eq_some_iff.1 he).1;simp at this;omega
  injection SD with SD;subst SD;exact bC (List.mem_append.2 (.inr (.head _))) hns
end
set_option maxRecDepth 4000
def aB3 (p iv:Nat):Prop:=CQ (p%11+1) 11 (p%11) 0 (1%11) 11=(1,iv)/\iv<11
section
variable{M n s m r r2:Nat}{x:VE}{S:Hp}{K:KV}{a b c d t iv k:Nat}
theorem aB4 (hM:10<M){y:VE} (hy:Deep PP bK gM M (n+1) y) (hs:Sp S s 2 m) (h:O2 S r a b) (ha:a<11) (hb:b<11) (hiv:iv<11)
 (hK:O2 (aL S r (.row (oD [a*iv%11,b*iv%11]) 22)) r (a*iv%11) (b*iv%11)->Sp (aL S r (.row (oD [a*iv%11,b*iv%11]) 22)) s 2 m->
  GS (.yZ m) (aL S r (.row (oD [a*iv%11,b*iv%11]) 22)) fun v12 S=>nK y M (.ptr s 0) (ow r) (ni k) v12 S K):
 iN y M (.ptr s 0) (ow r) (ni k) (nu iv) (ni 2) (ni 0) S K:=by
 obtain⟨M',EM⟩:∃k,M=k+3:=⟨M-3,by omega⟩;have hsr:=aKJ hs h;rw [EM,sJ];unfold nL;refine aF ?_;rw [aQ,zJ (by decide),bW,ix0,aDI h,cK,aY,Ku hs];refine PA hy (lJ ha) (lJ hiv) qQ ?_;have h1:O2 (aL S r (.row (oD [a*iv%11,b]) 22)) r (a*iv%11) b:=aB;have xK:Sp (aL S r (.row (oD [a*iv%11,b]) 22)) s 2 m:=hs.other hsr;rw [ix0,aKH h,bG (by decide),sJ];unfold nL;refine aF ?_;rw [aQ,zJ (by decide),bW,ix1,aDJ h1,cK,aY,Ku xK];refine PA hy (lJ hb) (lJ hiv) qQ ?_;have h2:O2 (aL S r (.row (oD [a*iv%11,b*iv%11]) 22)) r (a*iv%11) (b*iv%11):=aB;have uA:Sp (aL S r (.row (oD [a*iv%11,b*iv%11]) 22)) s 2 m:=hs.other hsr;rw [ix1,aKI h1,fD,bG (by decide),sJ];unfold nL;refine aF ?_;rw [aQ,jM (by decide),bE,cK,aZ,aGS uA,hy.most];exact hK h2 uA
theorem aP6{j:Nat}:RK (.one (.int .i64)) (ni j):=rfl
theorem aP7 (hM:10<M) (hx:Deep PP bK gM M (n+4) x){O:Tag} (hs:Sp S s 2 m) (hm:S m=some (.map [])) (ha:a<11) (hb:b<11) (hk:k<2) (hp:Kw a b=ni k) (hiv:aB3 (fZ k a b) iv)
 (hK:∀r S',S r=none->(∀j o,j≠m->S j=some o->S' j=some o)->S' m=some (.map [(ni k,ow r)])->O2 S' r (a*iv%11) (b*iv%11)->K (.tuple []) S'):x.call gZ [.ptr s 0,.list O (kK [a,b]) 2] S K:=by
 refine hx.call aDK fun y hy=>?_;rw [GH];unfold zE;refine aMZ hM hy hs hm ha hb fun r S1 hr dL o1=>?_;have xK:Sp S1 s 2 m:=dL _ _ hs;have CX:=dL _ _ hm;refine dC (v:=ow r) rfl ?_;refine dC (v:=Kw a b) rfl ?_;rw [hp,aQ,jM (by omega),bE,ixk o1 hk,cK,aY,Ku xK];refine aIn hy (lJ (MD ha hb)) qQ (by rw [hiv.1]) ?_;rw [hiv.1];refine dC (v:=nu iv) rfl ?_;refine dC (v:=ni 0) rfl ?_;show iN y y.most (.ptr s 0) (ow r) (ni k) (nu iv) (ni 2) (ni 0) S1 K;rw [hy.most];have hrm:r≠m:=fun e=>by rw [e,hm]at hr;cases hr
 refine aB4 hM hy xK o1 ha hb hiv.2 fun o2 uA=>?_;generalize a*iv%11=A at hK o2 uA;generalize b*iv%11=B at hK o2 uA;have XL:aL S1 r (.row (oD [A,B]) 22) m=some (.map []):=by rw [aC (aP hrm)];exact CX
 have fO:∀j o,j≠m->S j=some o->aL S1 r (.row (oD [A,B]) 22) j=some o:=fun j o hj e=>by rw [aC (fun c=>by rw [c,hr]at e;cases e)];exact dL _ _ e
 generalize aL S1 r (.row (oD [A,B]) 22)=S2 at o2 uA XL fO;unfold GS;simp only [XL];intro bs ck Zw _ _ i hi;have hb0:bs=[]:=sB Zw;subst hb0;have him:i≠m:=fun e=>by rw [e,aB]at hi;cases hi
 have IQ:S2 i=none:=by rw [aC him]at hi;exact hi
 obtain⟨M',EM⟩:∃k,M=k+1:=⟨M-1,by omega⟩;rw [EM,rG];unfold mN;refine aF ?_;have hmi:aL (aL S2 m (.wP [] [] ck)) i (.iter m ck [] ck) m=some (.wP [] [] ck):=by rw [aC (aP him)];exact aB
 unfold LN;simp only [aB,hmi];refine⟨(fun b hb=>by cases hb),bQ _,fun _=>?_,(fun j e b he=>by cases he)⟩;refine dC (v:= .bool false) rfl ?_;have hni:∀{q:Nat} {o:Ob},S2 q=some o->q≠i:=fun {q o} e c=>by rw [c,IQ]at e;cases e
 have hnm:∀{q:Nat} {o:Ob},S2 q=some o->(∀es,o≠ .map es)->q≠m:=fun {q o} e h c=>by rw [c,XL]at e;injection e with e;exact h _ e.symm
 have kp:∀{q:Nat} {o:Ob},q≠m->S2 q=some o->aL (aL (aL S2 m (.wP [] [] ck)) i (.iter m ck [] ck)) m (.map []) q=some o:=fun {q o} hq e=>by rw [aC hq,aC (hni e),aC hq];exact e
 have hs3:Sp _ s 2 m:=kp (hnm uA fun es c=>by cases c) uA;have o3:O2 _ r A B:=kp hrm o2;have hm3:aL (aL (aL S2 m (.wP [] [] ck)) i (.iter m ck [] ck)) m (.map []) m=some (.map []):=aB;generalize aL (aL (aL S2 m (.wP [] [] ck)) i (.iter m ck [] ck)) m (.map [])=S3 at kp hs3 o3 hm3;rw [bE,cK,aZ,aGS hs3];unfold AE;simp only [hm3];refine⟨aP6,(fun e he=>by cases he),?_⟩;refine aM (hK r _ hr (fun j o hj e=>by rw [aC hj];exact kp hj (fO j o hj e)) aB (o3.other hrm))
theorem aM0 (hM:10<M) (hx:Deep PP bK gM M (n+5) x){O:Tag} (hk:k<2) (hs:Sp S s 2 m) (hm:S m=some (.map [(ni k,ow r2)])) (ho:O2 S r2 c d) (ha:a<11) (hb:b<11) (hc:c<11) (hd:d<11)
 (h1:iD a (c*fZ k a b%11) 11=0) (h2:iD b (d*fZ k a b%11) 11=0) (hK:K (.tuple []) S):x.call gZ [.ptr s 0,.list O (kK [a,b]) 2] S K:=by
 refine hx.call aDK fun y hy=>?_;rw [GH];unfold zE;refine aFj hM hy hk hs hm ho ha hb hc hd fun r S1 hr dL o1=>?_;rw [h1,h2];refine dC (v:=ow r) rfl ?_;refine dC (v:=Kw 0 0) rfl ?_;show aJ PP .lss 3 (.int .i64 (.negSucc 0)) (ni 0) _;rw [rK];show iR (.bool true) _ _;rw [bW];exact bL dL hK
theorem aM1 (hM:10<M) (hx:Deep PP bK gM M (n+5) x){O:Tag}{k1 A B:Nat} (hk:k<2) (hs:Sp S s 2 m) (hm:S m=some (.map [(ni k,ow r2)])) (ho:O2 S r2 c d) (ha:a<11) (hb:b<11) (hc:c<11) (hd:d<11)
 (h1:iD a (c*fZ k a b%11) 11=A) (h2:iD b (d*fZ k a b%11) 11=B) (Wl:k1<2) (hp:Kw A B=ni k1) (oM:k1≠k) (hiv:aB3 (fZ k1 A B) iv)
 (hK:∀S' v1 v2,Sp S' s 2 m->S' m=some (.map [v1,v2])->(∀j o,j≠m->j≠r2->S j=some o->S' j=some o)->K (.tuple []) S'):x.call gZ [.ptr s 0,.list O (kK [a,b]) 2] S K:=by
 refine hx.call aDK fun y hy=>?_;rw [GH];unfold zE;have hA:A<11:=by rw [<-h1];exact Lt _ _
 have hB:B<11:=by rw [<-h2];exact Lt _ _
 refine aFj hM hy hk hs hm ho ha hb hc hd fun r S1 hr dL o1=>?_;rw [h1,h2]at o1 ⊢;have xK:Sp S1 s 2 m:=dL _ _ hs;have CX:=dL _ _ hm;have ho1:O2 S1 r2 c d:=dL _ _ ho;refine dC (v:=ow r) rfl ?_;refine dC (v:=Kw A B) rfl ?_;rw [hp,aQ,jM (by omega),bE,ixk o1 Wl,cK,aY,Ku xK];refine aIn hy (lJ (MD hA hB)) qQ (by rw [hiv.1]) ?_;rw [hiv.1];refine dC (v:=nu iv) rfl ?_;refine dC (v:=ni 0) rfl ?_;show iN y y.most (.ptr s 0) (ow r) (ni k1) (nu iv) (ni 2) (ni 0) S1 K;rw [hy.most];have hrm:r≠m:=fun e=>by rw [e,hm]at hr;cases hr
 have hrr:r≠r2:=fun e=>by unfold O2 at ho;rw [<-e,hr]at ho;cases ho
 refine aB4 hM hy xK o1 hA hB hiv.2 fun o2 uA=>?_;have hA2:A*iv%11<11:=jD _ (by decide);have hB2:B*iv%11<11:=jD _ (by decide);generalize A*iv%11=A2 at o2 uA hA2;generalize B*iv%11=B2 at o2 uA hB2;have XL:aL S1 r (.row (oD [A2,B2]) 22) m=some (.map [(ni k,ow r2)]):=by rw [aC (aP hrm)];exact CX
 have BN:O2 (aL S1 r (.row (oD [A2,B2]) 22)) r2 c d:=ho1.other (aP hrr);have fO:∀j o,S j=some o->aL S1 r (.row (oD [A2,B2]) 22) j=some o:=fun j o e=>by rw [aC (fun c=>by rw [c,hr]at e;cases e)];exact dL _ _ e
 generalize aL S1 r (.row (oD [A2,B2]) 22)=S2 at o2 uA XL BN fO;unfold GS;simp only [XL];intro bs ck Zw _ hlt i hi;obtain⟨b0,rfl⟩:∃b0,bs=[b0]:=by match bs,Zw with | [b0],_=>exact⟨b0,rfl⟩
 have him:i≠m:=fun e=>by rw [e,aB]at hi;cases hi
 have IQ:S2 i=none:=by rw [aC him]at hi;exact hi
 obtain⟨M',EM⟩:∃k,M=k+2:=⟨M-2,by omega⟩;rw [EM,rG];unfold mN;refine aF ?_;have hmi:aL (aL S2 m (.wP [(ni k,ow r2)] [b0] ck)) i (.iter m ck [] ck) m=some (.wP [(ni k,ow r2)] [b0] ck):=by rw [aC (aP him)];exact aB
 unfold LN;simp only [aB,hmi];refine⟨hlt,bQ _,fun h=>bC (h b0 (.head _)) (by simp),fun j e b' he SD hns=>?_⟩
 obtain rfl:j=0:=by
  have:=(List.getElem?_eq_some_iff.1 he).1;simp at this;omega
 injection he with he;injection SD with SD;subst he SD;refine dC (v:= .bool true) rfl ?_;rw [bW,fD];have hnm:∀{q:Nat} {o:Ob},S2 q=some o->(∀es,o≠ .map es)->q≠m:=fun {q o} e h c=>by rw [c,XL]at e;injection e with e;exact h _ e.symm
 have hni:∀{q:Nat} {o:Ob},S2 q=some o->q≠i:=fun {q o} e c=>by rw [c,IQ]at e;cases e
 have mF:∀{q:Nat} {o:Ob},q≠m->S2 q=some o->aL (aL S2 m (.wP [(ni k,ow r2)] [b0] ck)) i (.iter m ck ([]++[b0]) ck) q=some o:=fun {q o} h e=>by rw [aC (hni e),aC h];exact e
 have o3:O2 _ r A2 B2:=mF hrm o2;have aSg:r2≠m:=hnm BN (fun es c=>by cases c);have Ul:s≠m:=hnm uA (fun es c=>by cases c);have ho3:O2 _ r2 c d:=mF aSg BN;have hs3:Sp _ s 2 m:=mF Ul uA;have aDL:aL (aL S2 m (.wP [(ni k,ow r2)] [b0] ck)) i (.iter m ck ([]++[b0]) ck) m=some (.wP [(ni k,ow r2)] [b0] ck):=by rw [aC (aP him)];exact aB
 have aDM:aL (aL S2 m (.wP [(ni k,ow r2)] [b0] ck)) i (.iter m ck ([]++[b0]) ck) i=some (.iter m ck ([]++[b0]) ck):=aB;generalize aL (aL S2 m (.wP [(ni k,ow r2)] [b0] ck)) i (.iter m ck ([]++[b0]) ck)=S3 at o3 ho3 hs3 aDL aDM mF;unfold RM;simp only [aDM,aDL];refine⟨trivial,by simp,0,(ni k,ow r2),b0,rfl,rfl,rfl,?_⟩;refine dC (v:=ow r2) rfl ?_;rw [ixk ho3 Wl];refine aFi hM hy hs3 ho3 o3 (aP hrr) hc hd hA2 hB2 (MD hc hd) ?_;rw [rG];unfold mN;refine aF ?_;generalize iD c (A2*fZ k1 c d%11) 11=C3;generalize iD d (B2*fZ k1 c d%11) 11=D3;have aUl:r2≠i:=hni BN;have aP4:aL S3 r2 (.row (oD [C3,D3]) 22) m=some (.wP [(ni k,ow r2)] [b0] ck):=by rw [aC (aP aSg)];exact aDL
 have aP5:aL S3 r2 (.row (oD [C3,D3]) 22) i=some (.iter m ck ([]++[b0]) ck):=by rw [aC (aP aUl)];exact aDM
 have Zp:Sp (aL S3 r2 (.row (oD [C3,D3]) 22)) s 2 m:=hs3.other (aKJ hs3 ho3);unfold LN;simp only [aP5,aP4];refine⟨hlt,bQ _,fun _=>?_,fun j e b' he SD hns=>?_⟩
 ·refine dC (v:= .bool false) rfl ?_
  have hs5:Sp (aL (aL S3 r2 (.row (oD [C3,D3]) 22)) m (.map [(ni k,ow r2)])) s 2 m:=Zp.other Ul;rw [bE,cK,aZ,aGS hs5];unfold AE;simp only [aB];refine⟨aP6,(fun e he=>by rcases List.mem_cons.1 he with rfl | he;exact aP6;cases he),?_⟩
  have Tt:OB [(ni k,ow r2)] (ni k1) (ow r)=[(ni k,ow r2),(ni k1,ow r)]:=by
   have:¬(ni k1=ni k):=fun e=>by injection e with _ e;exact oM (by injection e)
   simp only [OB];rw [aG this]
  rw [Tt];refine aM (hK _ _ _ (hs5.other Ul) aB fun j o hj Rx e=>?_);rw [aC hj,aC hj,aC Rx];exact mF hj (fO j o e)
 ·obtain rfl:j=0:=by
   have:=(List.getElem?_eq_some_iff.1 he).1;simp at this;omega
  injection SD with SD;subst SD;exact bC (List.mem_append.2 (.inr (.head _))) hns
end
set_option maxRecDepth 4000
theorem aGT{x0:Int} (h:Ls x0):∃k iv,k<2/\Kw (iZ x0) (iZ 1)=ni k/\aB3 (fZ k (iZ x0) (iZ 1)) iv/\
 iD (iZ x0) ((iZ x0*iv%11)*fZ k (iZ x0) (iZ 1)%11) 11=0/\iD (iZ 1) ((iZ 1*iv%11)*fZ k (iZ x0) (iZ 1)%11) 11=0/\
 ∀y,Ls y->y≠x0->∃k1 iv1,k1<2/\Kw (iD (iZ y) ((iZ x0*iv%11)*fZ k (iZ y) (iZ 1)%11) 11) (iD (iZ 1) ((iZ 1*iv%11)*fZ k (iZ y) (iZ 1)%11) 11)=ni k1/\k1≠k/\
  aB3 (fZ k1 (iD (iZ y) ((iZ x0*iv%11)*fZ k (iZ y) (iZ 1)%11) 11) (iD (iZ 1) ((iZ 1*iv%11)*fZ k (iZ y) (iZ 1)%11) 11)) iv1:=by
 have iok:∀{p iv:Nat},CQ (p%11+1) 11 (p%11) 0 (1%11) 11=(1,iv)->iv<11->aB3 p iv:=fun a b=>⟨a,b⟩;rcases aB2 h with rfl | rfl | rfl
 ·refine⟨0,10,by decide,rfl,⟨rfl,by decide⟩,rfl,rfl,fun y hy oM=>?_⟩
  rcases aB2 hy with rfl | rfl | rfl
  ·exact bC rfl oM
  ·exact⟨1,1,by decide,rfl,by decide,⟨rfl,by decide⟩⟩
  ·exact⟨1,6,by decide,rfl,by decide,⟨rfl,by decide⟩⟩
 ·refine⟨1,1,by decide,rfl,⟨rfl,by decide⟩,rfl,rfl,fun y hy oM=>?_⟩
  rcases aB2 hy with rfl | rfl | rfl
  ·exact⟨0,10,by decide,rfl,by decide,⟨rfl,by decide⟩⟩
  ·exact bC rfl oM
  ·exact⟨0,1,by decide,rfl,by decide,⟨rfl,by decide⟩⟩
 ·refine⟨0,1,by decide,rfl,⟨rfl,by decide⟩,rfl,rfl,fun y hy oM=>?_⟩
  rcases aB2 hy with rfl | rfl | rfl
  ·exact⟨1,6,by decide,rfl,by decide,⟨rfl,by decide⟩⟩
  ·exact⟨1,1,by decide,rfl,by decide,⟨rfl,by decide⟩⟩
  ·exact bC rfl oM
def yO (xs:List Int):List (List Nat):=xs.map Sx
section
variable{M n s m r r2:Nat}{x:VE}{S:Hp}{K:KV}
theorem Qt{xs:List Int}{i:Nat}{q:Int} (h:xs[i]? =some q):(eL (yO xs))[i*1]? =some (.list (kK (Sx q)) 2):=by
 rw [kX];unfold eL yO;rw [eH,eH,h];rfl
theorem aP8 (hM:1000000<M) (hx:Deep PP bK gM M (n+6) x){O:Tag}{xs:List Int}{S0:Hp}{x0:Int} (hl:xs.length<1000000) (QC:∀q∈xs,Ls q) (SG:∀i,i+1<xs.length->xs[i]? =some x0) (hm0:S0 m=none){k iv:Nat}
 (hk:k<2) (Qz:Ls x0) (e1:iD (iZ x0) ((iZ x0*iv%11)*fZ k (iZ x0) (iZ 1)%11) 11=0) (e2:iD (iZ 1) ((iZ 1*iv%11)*fZ k (iZ x0) (iZ 1)%11) 11=0)
 (e3:∀y,Ls y->y≠x0->∃k1 iv1,k1<2/\Kw (iD (iZ y) ((iZ x0*iv%11)*fZ k (iZ y) (iZ 1)%11) 11) (iD (iZ 1) ((iZ 1*iv%11)*fZ k (iZ y) (iZ 1)%11) 11)=ni k1/\k1≠k/\
  aB3 (fZ k1 (iD (iZ y) ((iZ x0*iv%11)*fZ k (iZ y) (iZ 1)%11) 11) (iD (iZ 1) ((iZ 1*iv%11)*fZ k (iZ y) (iZ 1)%11) 11)) iv1)
 (hK1:(∀q∈xs,q=x0)->∀S' e,bU S0 S'->Sp S' s 2 m->S' m=some (.map [e])->K (.ptr s 0) S')
 (hK2:(∃q∈xs,q≠x0)->∀S' e f,bU S0 S'->Sp S' s 2 m->S' m=some (.map [e,f])->K (.ptr s 0) S'):
 ∀(q i mm:Nat) (S:Hp) (r:Nat),i+q=xs.length->q+1<mm->bU S0 S->Sp S s 2 m->0<i->(∀j,j<i->xs[j]? =some x0)->S0 r=none->S m=some (.map [(ni k,ow r)])->O2 S r (iZ x0*iv%11) (iZ 1*iv%11)->
  tX x mm (.ptr s 0) (.list O (eL (yO xs)) xs.length) (ni xs.length) (ni i) S K:=by
 intro q;induction q with
 | zero=>
  intro i mm S r hi hmm hs BA h0 oP hr hm ho;obtain⟨mm,rfl⟩:=bH (show mm≠0 by omega);rw [xH];unfold rY;refine aF ?_;rw [aQ,jM (by omega),bE];refine aM (hK1 (fun q hq=>?_) S _ hs BA hm);obtain⟨j,hj,rfl⟩:=ZY hq;have:=oP j (by omega);rw [aT hj]at this;injection this
 | succ q ih=>
  intro i mm S r hi hmm hs BA h0 oP hr hm ho;obtain⟨mm,rfl⟩:=bH (show mm≠0 by omega);rw [xH];unfold rY;refine aF ?_;have hlt:i<xs.length:=by omega
  have QA:=Qt (aT hlt);have aUm:=QC _ (cO hlt);rw [aQ,zJ hlt,bW,jL hlt,yA,cX QA];show x.call gZ [.ptr s 0,.list (.sub O (i*1)) (kK [iZ xs[i],iZ 1]) 2] S _;by_cases c:xs[i]=x0
  ·rw [c]
   refine aM0 (n:=n+1) (by omega) hx hk BA hm ho (XZ _) (XZ _) (jD _ (by decide)) (jD _ (by decide)) e1 e2 ?_;rw [bG (by omega)];refine ih (i+1) mm S r (by omega) (by omega) hs BA (by omega) (fun j hj=>?_) hr hm ho;rcases BI j i with q | q
   ·exact oP j q
   ·obtain rfl:j=i:=by omega
    rw [aT hlt,c]
  ·obtain⟨k1,iv1,g1,g2,g3,g4⟩:=e3 xs[i] aUm c
   refine aM1 (n:=n+1) (by omega) hx hk BA hm ho (XZ _) (XZ _) (jD _ (by decide)) (jD _ (by decide)) rfl rfl g1 g2 g3 g4 fun S' v1 v2 hs' hm' aFk=>?_
   have aNe:i+1=xs.length:=by
    rcases BI (i+1) xs.length with q | q
    ·have:=SG i q
     rw [aT hlt]at this;injection this with this;exact bC this c
    ·omega
   obtain⟨mm,rfl⟩:=bH (show mm≠0 by omega);rw [bG (by omega),xH];unfold rY;refine aF ?_;rw [aQ,jM (by omega),bE];refine aM (hK2 ⟨_,cO hlt,c⟩ S' _ _ (fun j o e=>?_) hs' hm');exact aFk j o (fun q=>by rw [q,hm0]at e;cases e) (fun q=>by rw [q,hr]at e;cases e) (hs j o e)
theorem aM2{w:Nat} (hw:w<=2){k:V->Prop}:Bg true (ni w) (ni 2) k=k (ni 2):=by
 show k (.int .i64 (max (Int.ofNat w) 2))=k (.int .i64 2);rw [Int.max_eq_right (by simp only [UD];omega)]
theorem aSh (hM:1000000<M) (hx:Deep PP bK gM M (n+7) x){O:Tag}{xs:List Int} (hl:xs.length<1000000) (QC:∀q∈xs,Ls q){x0:Int} (SG:∀i,i+1<xs.length->xs[i]? =some x0) (Qz:Ls x0)
 (hK:∀s m w S' es,bU S S'->Sp S' s w m->S' m=some (.map es)->es.length=(if xs=[]then 0 else if xs.all (fun q=>decide (q=x0)) || xs.length==1 then 1 else 2)->K (.ptr s 0) S'):x.call JY [.list O (eL (yO xs)) xs.length,nu 11] S K:=by
 refine hx.call aSf fun y hy=>?_;rw [aGN];unfold Va;intro m hm;have CX:aL S m (.map []) m=some (.map []):=aB;have dL:bU S (aL S m (.map [])):= .aK hm;generalize aL S m (.map [])=S1 at CX dL
 have hb:∀{k:V->Prop},k (.agg [nu 11,ni 0,.yZ m])->cS [(.int .u64 (.ofNat 0)),(.int .i64 (.ofNat 0)),(.map none)] [(0,1,nu 11),(2,1,.yZ m)] k:=fun {k} hk=>by
  unfold cS rR;show iF [(0,1,nu 11),(2,1,.yZ m)] [nu 0,ni 0,.Pg] _;unfold iF iF iF;rw [vc1 (v:=nu 11) rfl,vc1 (v:= .yZ m) rfl];exact⟨rfl,by simp,rfl,by simp [bA],hk⟩
 refine hb ?_;refine cC rfl fun s hs=>?_;have BA:Sp (aL S1 s (.row [nu 11,ni 0,.yZ m] 183)) s 0 m:=aB;have hs0:S s=none:=dL.none hs;have Ul:s≠m:=fun e=>by rw [e,CX]at hs;cases hs
 have XL:aL S1 s (.row [nu 11,ni 0,.yZ m] 183) m=some (.map []):=by rw [aC (aP Ul)];exact CX
 have fO:bU S (aL S1 s (.row [nu 11,ni 0,.yZ m] 183)):=dL.trans (.aK hs);generalize aL S1 s (.row [nu 11,ni 0,.yZ m] 183)=S2 at BA XL fO;show wD y y.most (.list O (eL (yO xs)) xs.length) (.ptr s 0) (.list O (eL (yO xs)) xs.length) (ni xs.length) (ni 0) S2 K;rw [hy.most]
 have go:∀(q i mm:Nat) (w:Nat) (S3:Hp),i+q=xs.length->q<mm->w<=2->(0<i->w=2)->bU S S3->Sp S3 s w m->S3 m=some (.map [])->(∀w S4,(0<xs.length->w=2)->bU S S4->Sp S4 s w m->S4 m=some (.map [])->tX y M (.ptr s 0) (.list O (eL (yO xs)) xs.length) (ni xs.length) (ni 0) S4 K)->
  wD y mm (.list O (eL (yO xs)) xs.length) (.ptr s 0) (.list O (eL (yO xs)) xs.length) (ni xs.length) (ni i) S3 K:=by
  intro q;induction q with
  | zero=>
   intro i mm w S3 hi hmm hw hw2 hle aM3 hm3 hk;obtain⟨mm,rfl⟩:=bH (show mm≠0 by omega);rw [PX];unfold GF;refine aF ?_;rw [aQ,jM (by omega),bE,cZ,hy.most];exact hk w S3 (fun h=>hw2 (by omega)) hle aM3 hm3
  | succ q ih=>
   intro i mm w S3 hi hmm hw hw2 hle aM3 hm3 hk;obtain⟨mm,rfl⟩:=bH (show mm≠0 by omega);rw [PX];unfold GF;refine aF ?_;have hlt:i<xs.length:=by omega
   have QA:=Qt (aT hlt);rw [aQ,zJ hlt,bW,jL hlt,yA,cX QA,cK,aZ,aSe aM3];show bP (.list (.sub O (i*1)) (kK (Sx xs[i])) 2) _;rw [cZ];show Bg true (ni w) (ni 2) _;rw [aM2 hw,cK,aZ,DV aM3 (show 0+1<3 by decide) rfl,bG (by omega)];refine ih (i+1) mm 2 _ (by omega) (by omega) (bQ _) (fun _=>rfl) (fun j o e=>?_) aB (by rw [aC (aP Ul)];exact hm3) hk;rw [aC (fun c=>by rw [c,hs0]at e;cases e)];exact hle j o e
 refine go xs.length 0 M 0 S2 (by omega) (by omega) (by decide) (fun h=>bC h (by decide)) fO BA XL fun w S4 hw IS Zp Kc=>?_;obtain⟨M1,hM1⟩:∃q,M=q+1:=⟨M-1,by omega⟩;rw [hM1,xH];unfold rY;refine aF ?_;by_cases c0:xs=[]
 ·subst c0
  rw [aQ,jM (by decide),bE];exact aM (hK s m w S4 [] IS Zp Kc rfl)
 ·have hlt:0<xs.length:=List.length_pos_iff.2 c0
  have hw2:=hw hlt;subst hw2;have QA:=Qt (aT hlt);have aSi:=QC _ (cO hlt);rw [aQ,zJ hlt,bW,jL hlt,yA,cX QA];show y.call gZ [.ptr s 0,.list (.sub O (0*1)) (kK [iZ xs[0],iZ 1]) 2] S4 _
  have aP9:∀i,i+1<xs.length->xs[i]? =some xs[0]:=fun i hi=>by
   have h1:=SG i hi;have h2:=SG 0 (by omega);rw [aT hlt]at h2;injection h2 with h2;rw [h1,h2]
  obtain⟨k,iv,f1,f2,f3,f4,f5,f6⟩:=aGT aSi;refine aP7 (n:=n+2) (by omega) hy Zp Kc (XZ _) (XZ _) f1 f2 f3 fun r S5 hr aFk hm5 o5=>?_;rw [bG (by decide)];have aUn:Sp S5 s 2 m:=aFk _ _ Ul Zp;have EW:bU S S5:=fun j o e=>aFk j o (fun q=>by rw [q,hm]at e;cases e) (IS j o e);refine aP8 (n:=n) (S0:=S) (x0:=xs[0]) hM hy hl QC aP9 hm f1 aSi f4 f5 f6 (fun oP S' e aQa aQb hm'=>?_) (fun hex S' e f aQa aQb hm'=>?_) (xs.length-1) 1 M1 S5 r (by omega) (by omega) EW aUn (by decide) (fun j hj=>?_) (IS.none hr) hm5 o5
  ·refine hK s m 2 S' [e] aQa aQb hm' ?_
   rw [aG c0];by_cases c1:xs.length=1
   ·rw [c1];simp
   ·have aQc:xs[0]=x0:=by
     have h2:=SG 0 (by omega);rw [aT hlt]at h2;injection h2
    have:xs.all (fun q=>decide (q=x0))=true:=by
     rw [HZ];intro q hq;rw [oP q hq,aQc];simp
    rw [this];rfl
  ·refine hK s m 2 S' [e,f] aQa aQb hm' ?_
   obtain⟨q,hq,oM⟩:=hex
   have c1:xs.length≠1:=fun c1=>by
    obtain⟨j,hj,rfl⟩:=ZY hq;obtain rfl:j=0:=by omega
    exact oM rfl
   have aQc:xs[0]=x0:=by
    have h2:=SG 0 (by omega);rw [aT hlt]at h2;injection h2
   have:xs.all (fun q=>decide (q=x0))=false:=by
    rw [List.all_eq_false];exact⟨q,hq,by rw [<-aQc];simpa using oM⟩
   rw [aG c0,this];have:(xs.length==1)=false:=by simpa using c1
   rw [this];rfl
  ·obtain rfl:j=0:=by omega
   exact aT hlt
theorem aQd (hx:Deep PP bK gM M (n+2) x) (hK:K (.bool true) S):x.call RU [nu 11] S K:=by
 refine hx.call aP3 fun y hy=>?_;rw [aDF];unfold Qn;rw [aEE,bI (by decide),aE,aN];dsimp only;rw [aE,aN];refine hy.IL (g:=aLB) rfl ⟨rfl,?_⟩;dsimp only;rw [aE,dI];exact aM hK
theorem aKL (hM:1000000<M) (hx:Deep PP bK gM M (n+8) x){O:Tag}{xs:List Int} (hl:xs.length<1000000) (QC:∀q∈xs,Ls q){x0:Int} (SG:∀i,i+1<xs.length->xs[i]? =some x0) (Qz:Ls x0)
 (hK:K (ni (if xs=[]then 0 else if xs.all (fun q=>decide (q=x0)) || xs.length==1 then 1 else 2)) S):x.call HP [.list O (eL (yO xs)) xs.length,nu 11] S K:=by
 refine hx.call aMY fun y hy=>?_;rw [aB0];unfold Jo;refine aQd (n:=n+5) hy ?_;rw [rC,fL,bE];refine aSh hM hy hl QC SG Qz fun s m w S' es hle BA hm XG=>?_;rw [cK,aZ,aGS BA];unfold Pk;simp only [hm];rw [XG];exact bL hle hK
end
set_option maxRecDepth 4000
section
variable{M n:Nat}{x:VE}{S S0:Hp}{K:KV}{two:Bool}
theorem aM4:gM dK=none:=rfl
theorem aQe:gM dV=none:=rfl
theorem aM5{O:Tag}{l:List (Int×List Int)} (hl:l.length<1000000){f:V}{p:Int×List Int->Bool}
 (hf:∀a∈l,∀t,∀K:KV,K (.bool (p a)) S->mH x f [.agg [.int .i64 a.1,.list t (kW a.2) a.2.length]] S K) (hT:l.any p=true->∀j:Nat,K (ni j) S) (hF:l.any p=false->K (.int .i64 (.negSucc 0)) S):
 ∀(r i m:Nat),i+r=l.length->r<m->(l.drop i).any p=l.any p->dB x m (.list O (aD l) l.length) f (ni l.length) (ni i) S K:=by
 intro r;induction r with
 | zero=>
  intro i m hi hm he;obtain⟨m,rfl⟩:=bH (show m≠0 by omega);rw [jC];unfold eX;refine aF ?_;rw [aQ,jM (by omega),bE];rw [oW (by omega)]at he;exact aM (hF he.symm)
 | succ r ih=>
  intro i m hi hm he;obtain⟨m,rfl⟩:=bH (show m≠0 by omega);rw [jC];unfold eX;refine aF ?_;have hlt:i<l.length:=by omega
  obtain⟨g1,g2⟩:=aKy (aT hlt);rw [aQ,zJ hlt,bW,jL hlt,RJ,dR g1,g2];refine hf l[i] (cO hlt) _ _ ?_;rw [mB hlt,List.any_cons]at he;cases hp:p l[i]with
  | true=>
   rw [hp,Bool.true_or]at he;rw [bW];exact aM (hT he.symm i)
  | false=>
   rw [hp,Ad]at he;rw [bE,bG (by omega)];exact ih (i+1) m (by omega) (by omega) he
theorem aM6 (hM:1000000<M) (hx:Deep PP bK gM M (n+2) x){O:Tag}{l:List (Int×List Int)} (hl:l.length<1000000){c:FuncId}{cs:List V}{p:Int×List Int->Bool}
 (hf:∀y,Deep PP bK gM M n y->∀a∈l,∀t,∀K:KV,K (.bool (p a)) S->y.call c (.agg [.int .i64 a.1,.list t (kW a.2) a.2.length]::cs) S K) (hK:K (.bool (l.any p)) S):x.call dK [.list O (aD l) l.length,.func c [] cs] S K:=by
 refine hx.call aM4 fun y hy=>?_;rw [sI];unfold kC;refine hy.call aQe fun u hu=>?_;rw [uC];unfold lD;rw [cZ,hu.most];refine aM5 (x:=u) (f:= .func c [] cs) hl (p:=p) (fun a ha t K hk=>hf u hu a ha t K hk) (fun e j=>?_) (fun e=>?_) l.length 0 M (by omega) (by omega) rfl
 ·rw [e]at hK
  rw [zX];exact aM (by rw [bI (zT j)];exact hK)
 ·rw [e]at hK
  rw [CH];exact aM hK
theorem aM7:gM vI=none:=rfl
theorem aM8:gM JR=none:=rfl
theorem aUo:gM AX=none:=rfl
theorem aSj:gM lW=none:=rfl
theorem aSk:gM lX=none:=rfl
theorem aSl:gM lY=none:=rfl
theorem aQf:gM EI=none:=rfl
theorem aSm:gM lZ=none:=rfl
theorem aSn:gM mA=none:=rfl
theorem aQg:gM NH=none:=rfl
inductive aGU (S:Hp):V->List Int->Prop
 | no:aGU S .nil []
 | one {j:Nat} {t:Tag} {y:Int} (h:S j=some (.row [.list t (kW [y]) 1] 39)):aGU S (.own j 0 1 1) [y]
theorem aGU.up{S S':Hp}{v:V}{l:List Int} (h:aGU S v l) (hle:bU S S'):aGU S' v l:=by cases h with | no=>exact .no | one h=>exact .one (hle _ _ h)
theorem Vc (a b:List Int):yO (a++b)=yO a++yO b:=QE
theorem aFl (hM:1000000<M) (hx:Deep PP bK gM M (n+5) x){O:Tag}{l:List (Int×List Int)} (hl:l.length<1000000){x0:Int} (oP:∀a∈l,a.2=[x0]) (Qz:Ls x0){w:V}{ys:List Int} (hw:aGU S w ys) (hys:∀y∈ys,Ls y)
 (hK:∀O,K (.list O (eL (yO (List.replicate l.length x0++ys))) (List.replicate l.length x0++ys).length) S):x.call vI [.agg (pv two),.list O (aD l) l.length,w] S K:=by
 refine hx.call aM7 fun y hy=>?_;rw [Zk];unfold Fg;refine cC jN fun p hp=>?_;have dL:bU S (aL S p (.row (pv two) 29)):= .aK hp;have rp:aL S p (.row (pv two) 29) p=some (.row (pv two) 29):=aB;generalize aL S p (.row (pv two) 29)=S1 at dL rp;have hw1:=hw.up dL;show qJ y y.most w (.ptr p 0) .nil (.list O (aD l) l.length) (ni l.length) (ni 0) S1 K;rw [hy.most]
 have go:∀(q i m:Nat) (u:V) (S3:Hp),bU S1 S3->GL 51 S1 S3 u (eL (yO (List.replicate i x0)))->i+q=l.length->q<m->qJ y m w (.ptr p 0) u (.list O (aD l) l.length) (ni l.length) (ni i) S3 K:=by
  intro q;induction q with
  | zero=>
   intro i m u S3 hs CX hi hm;obtain⟨m,rfl⟩:=bH (show m≠0 by omega);rw [JE];unfold AJ;refine aF ?_;obtain rfl:i=l.length:=by omega
   rw [aQ,jM (by omega),bE];have hw3:=hw1.up hs;obtain⟨M',EM⟩:∃k,M=k+2:=⟨M-2,by omega⟩;cases hw3 with
   | no=>
    show oU y y.most (.ptr p 0) u .nil (ni 0) (ni 0) S3 K;rw [hy.most,EM,yL];unfold rX;refine aF ?_;rw [aQ,jM (by decide),bE];have fu:=(CX.base dL).Bd;rw [GW,yO,mE]at fu;rw [FD]at hK;exact gP (dL.trans hs) fu hK
   | @one j t z hj=>
    show oU y y.most (.ptr p 0) u (.own j 0 1 1) (ni 1) (ni 0) S3 K;rw [hy.most,EM,yL];unfold rX;refine aF ?_;rw [aQ,zJ (by decide),bW];refine⟨by decide,?_⟩;show aW (.ptr j 0) S3 _;rw [cT (o:=0) hj rfl,lA (hs _ _ rp)];refine aNL (two:=two) (by omega) hy (q:=z) (hys z (.head _)) fun t2=>?_;refine CX.app hs (by rw [GW,yO,mE,JZ];omega) (zv:= .nil) rfl (by decide) (d:= .list (kK (Sx z)) 2) fun u2 S4 Zp _ _ Kc=>?_;rw [bG (by decide),yL];unfold rX;refine aF ?_;rw [aQ,jM (by decide),bE];have e2:eL (yO (List.replicate l.length x0))++[.list (kK (Sx z)) 2]=eL (yO (List.replicate l.length x0++[z])):=by rw [Vc,Fb];rfl
    rw [e2]at Kc;have fu:=(Kc.base dL).Bd;rw [GW,yO,mE]at fu;exact gP (dL.trans Zp) fu hK
  | succ q ih=>
   intro i m u S3 hs CX hi hm;obtain⟨m,rfl⟩:=bH (show m≠0 by omega);rw [JE];unfold AJ;refine aF ?_;have hlt:i<l.length:=by omega
   obtain⟨g1,g2⟩:=aKy (aT hlt);have KQ:=oP _ (cO hlt);rw [aQ,zJ hlt,bW,jL hlt,RJ,dR g1,g2,KQ];refine cG (l:=[ni 0,.nil]) rfl fun b hb=>?_;refine iH (n:=2) (i:=b) aB rfl rfl rfl ?_;rw [fD];generalize wK:(Tl O (i*2) [.int .i64 l[i].1,.list (kW [x0]) [x0].length])=cs;obtain⟨t1,wK⟩:∃t1,cs=[.int .i64 l[i].1,.list t1 (kW [x0]) 1]:=⟨_,wK.symm⟩;subst wK;have fO:bU S3 (aL S3 b (.row [.int .i64 l[i].1,.list t1 (kW [x0]) 1] 111)):= .aK hb;have rb:aL S3 b (.row [.int .i64 l[i].1,.list t1 (kW [x0]) 1] 111) b=some (.row [.int .i64 l[i].1,.list t1 (kW [x0]) 1] 111):=aB;generalize aL S3 b (.row [.int .i64 l[i].1,.list t1 (kW [x0]) 1] 111)=S4 at fO rb;rw [lA (fO _ _ (hs _ _ rp)),aZ,cT (o:=0+1) rb rfl];refine aNL (two:=two) (by omega) hy (q:=x0) Qz fun t2=>?_;refine(CX.up fO).app (hs.trans fO) (by rw [GW,yO,mE,JZ];omega) (zv:= .nil) rfl (by decide) (d:= .list (kK (Sx x0)) 2) fun u2 S5 hs5 _ _ hm5=>?_;rw [bG (by omega)];have e2:eL (yO (List.replicate i x0))++[.list (kK (Sx x0)) 2]=eL (yO (List.replicate (i+1) x0)):=by rw [List.replicate_succ',Vc,Fb];rfl
   rw [e2]at hm5;exact ih (i+1) m u2 S5 hs5 hm5 (by omega) (by omega)
 exact go l.length 0 M .nil S1 (.refl _) .nil (by omega) (by omega)
theorem aB5{k:Nat}{x0:Int}{ys:List Int} (hy:ys.length<=1):∀i,i+1<(List.replicate k x0++ys).length->(List.replicate k x0++ys)[i]? =some x0:=fun i hi=>by
 rw [kI,JZ]at hi;rw [gO (by rw [JZ];omega),List.getElem?_replicate,aO (by omega)]
theorem Yi (hM:1000000<M) (hx:Deep PP bK gM M (n+9) x){O:Tag}{l:List (Int×List Int)} (hl:l.length<1000000){x0:Int} (oP:∀a∈l,a.2=[x0]) (Qz:Ls x0) (hK:K (ni (if l=[]then 0 else 1)) S):x.call JR [.agg (pv two),.list O (aD l) l.length] S K:=by
 refine hx.call aM8 fun y hy=>?_;rw [Zj];unfold Ff;refine cC jN fun p hp=>?_;have dL:bU S (aL S p (.row (pv two) 29)):= .aK hp;have rp:aL S p (.row (pv two) 29) p=some (.row (pv two) 29):=aB;generalize aL S p (.row (pv two) 29)=S1 at dL rp;have l1:∀{K:KV},aW (.ptr p (0+1)) S1 K=K (nu 11) S1:=cT rp rfl;rw [lA rp,aZ,l1];refine aFl (n:=n+3) (two:=two) hM hy hl oP Qz .no (fun y h=>by cases h) fun t=>?_;rw [l1,cE];refine aKL hM hy (x0:=x0) (by rw [FD,JZ];exact hl) (fun q hq=>?_) (aB5 (zT _)) Qz ?_
 ·rw [FD]at hq
  rw [(List.mem_replicate.1 hq).2];exact Qz
 ·refine bL dL ?_
  rw [FD];cases l with
  | nil=>exact hK
  | cons a l=>
   have:(List.replicate (a::l).length x0).all (fun q=>decide (q=x0))=true:=by
    rw [HZ];intro q hq;rw [(List.mem_replicate.1 hq).2];simp
   rw [this,aG (by simp)];exact hK
theorem aM9{t:TypeId}{a b:Int}{k:V->Prop}:aJ PP .eql t (.int .i64 a) (.int .i64 b) k=k (.bool (decide (a=b))):=by rw [JV]
theorem aSo (hx:Deep PP bK gM M (n+1) x){e b:Nat}{w:Nat}{id:Int} (re:S e=some (.row [ni w] 46)) (rb:S b=some (.row [.int .i64 id] 3)) (hK:K (.bool (decide (w=4) || (decide (id<1) || decide (1099511627776<id)))) S):x.call lW [.ptr e 0,.ptr b 0] S K:=by
 refine hx.call aSj fun y hy=>?_;rw [Kk];unfold TH;have lb:∀{K:KV},aW (.ptr b 0) S K=K (.int .i64 id) S:=cT rb rfl;rw [cT re rfl,IK];by_cases c1:w=4
 ·rw [bI c1]at hK ⊢
  simp only [aE,sH,dI];exact aM hK
 ·rw [bO c1]at hK ⊢
  simp only [aE,aN,lb,dJ];show aJ PP .lss 3 (.int .i64 id) (.int .i64 1) _;rw [aDE];by_cases c2:id<1
  ·rw [bI c2]at hK ⊢
   simp only [sH,dI];exact aM hK
  ·rw [bO c2]at hK ⊢
   simp only [aN,dJ];show aJ PP .gtr 3 (.int .i64 id) (.int .i64 1099511627776) _;rw [Zg];exact aM hK
theorem aSp (hx:Deep PP bK gM M (n+1) x){e:Nat}{w:Nat} (re:S e=some (.row [ni w] 46)) (hK:K (.bool (!decide (w=0))) S):x.call lX [.ptr e 0] S K:=by
 refine hx.call aSk fun y hy=>?_;rw [Kl];unfold TI;rw [cT re rfl,yB];exact aM hK
theorem aSq (hM:1000000<M) (hx:Deep PP bK gM M (n+4) x){a b:Nat}{t:Tag}{l:List (Int×List Int)}{id:Int} (hl:l.length<1000000) (ra:S a=some (.row [.list t (aD l) l.length] 34)) (rb:S b=some (.row [.int .i64 id] 3)) (hK:K (.bool (l.any fun q=>decide (q.1=id))) S):x.call lY [.ptr a 0,.ptr b 0] S K:=by
 refine hx.call aSl fun y hy=>?_;rw [Km];unfold TJ;rw [cT ra rfl];refine aM6 (n:=n+1) hM hy hl (p:=fun q=>decide (q.1=id)) (fun u hu q _ t K hk=>?_) (aM hK);refine hu.call aQf fun z hz=>?_;rw [Fi];unfold NI;refine cC rfl fun d hd=>?_;have le:bU S (aL S d (.row [.int .i64 q.1,.list t (kW q.2) q.2.length] 111)):= .aK hd;rw [aY,cT (o:=0) (v:= .int .i64 q.1) aB rfl,cT (le _ _ rb) rfl,aM9];exact bL le hk
theorem aSr (hx:Deep PP bK gM M (n+1) x){a:Nat}{t:Tag}{l:List (Int×List Int)} (ra:S a=some (.row [.list t (aD l) l.length] 34)) (hK:K (.bool (decide (8<=l.length))) S):x.call lZ [.ptr a 0] S K:=by
 refine hx.call aSm fun y hy=>?_;rw [Ko];unfold TK;rw [cT ra rfl,cZ,zX];exact aM hK
theorem aSs (hM:1000000<M) (hx:Deep PP bK gM M (n+9) x){p a d:Nat}{t t2:Tag}{l:List (Int×List Int)} (hl:l.length<999999){x0 z:Int} (oP:∀a∈l,a.2=[x0]) (Qz:Ls x0) (hz:Ls z) (rp:S p=some (.row (pv two) 29)) (ra:S a=some (.row [.list t (aD l) l.length] 34)) (rd:S d=some (.row [.list t2 (kW [z]) 1] 39))
 (hK:K (.bool (l.any fun q=> !decide (q.2=[z]))) S):x.call mA [.ptr p 0,.ptr a 0,.ptr d 0] S K:=by
 refine hx.call aSn fun y hy=>?_;rw [Kp];unfold TL;have l1:∀{S':Hp} {K:KV},bU S S'->aW (.ptr p (0+1)) S' K=K (nu 11) S':=fun {S' K} h=>cT (h _ _ rp) rfl;have l9:∀{S':Hp} {K:KV},bU S S'->aW (.ptr p (0+9)) S' K=K (ni 1) S':=fun {S' K} h=>cT (h _ _ rp) rfl;have la:∀{K:KV},aW (.ptr a 0) S K=K (.list t (aD l) l.length) S:=cT ra rfl;have ld:∀{K:KV},aW (.ptr d 0) S K=K (.list t2 (kW [z]) 1) S:=cT rd rfl;have sm:∀{t:Tag} {cs:List Dt} {n:Nat} {p:Prop},aU (.list t cs n) (.list t cs n) p=p:=fun {t cs n p}=>cN rfl;have smp:∀{p:Prop},aU (.agg (pv two)) (.agg (pv two)) p=p:=fun {p}=>cN rfl;rw [lA rp,la,ld,aZ,l1 (.refl _),aZ,l9 (.refl _),l9 (.refl _),cE,l1 (.refl _),cE,ld,sm,la,sm,lA rp,smp];have hb:∀{K:KV},(∀j,S j=none->K (.own j 0 1 1) (aL S j (.row [.list t2 (kW [z]) 1] 39)))->aS 39 1 [(.slice none 0 0)] [(0,1,.list t2 (kW [z]) 1)] S K:=fun {K} hk=>yW rfl hk;refine⟨hb fun _ _=>trivial,hb fun j hj=>?_⟩;have le:bU S (aL S j (.row [.list t2 (kW [z]) 1] 39)):= .aK hj;refine aFl (n:=n+3) (two:=two) hM hy (by omega) oP Qz (.one aB) (fun q hq=>by rcases List.mem_cons.1 hq with rfl | hq;exact hz;cases hq) fun t3=>?_;rw [l9 le,cE,l1 le,cE];refine aKL hM hy (x0:=x0) (by rw [kI,JZ];show l.length+1<_;omega) (fun q hq=>?_) (aB5 (bQ _)) Qz ?_
 ·rcases List.mem_append.1 hq with hq | hq
  ·rw [(List.mem_replicate.1 hq).2];exact Qz
  ·rcases List.mem_cons.1 hq with rfl | hq
   ·exact hz
   ·cases hq
 ·rw [l9 le,cE,uX]
  refine bL le ?_
  have:decide (1<if List.replicate l.length x0++[z]=[]then 0 else if(List.replicate l.length x0++[z]).all (fun q=>decide (q=x0)) || (List.replicate l.length x0++[z]).length==1 then 1 else 2)=l.any fun q=> !decide (q.2=[z]):=by
   rw [aG (by simp)];cases l with
   | nil=>simp
   | cons b l=>
    have hb0:=oP b (.head _);by_cases c:x0=z
    ·subst c
     have e1:(List.replicate (b::l).length x0++[x0]).all (fun q=>decide (q=x0))=true:=by
      rw [HZ];intro q hq;rcases List.mem_append.1 hq with hq | hq
      ·rw [(List.mem_replicate.1 hq).2];simp
      ·rcases List.mem_cons.1 hq with rfl | hq
       ·simp
       ·cases hq
     have e2:((b::l).any fun q=> !decide (q.2=[x0]))=false:=by
      rw [List.any_eq_false];intro q hq;rw [oP q hq];simp
     rw [e1,e2];rfl
    ·have e1:(List.replicate (b::l).length x0++[z]).all (fun q=>decide (q=x0))=false:=by
      rw [List.all_eq_false];exact⟨z,by simp,by simpa using fun h=>c h.symm⟩
     have e2:((b::l).any fun q=> !decide (q.2=[z]))=true:=by
      rw [List.any_eq_true];exact⟨b,.head _,by rw [hb0];simpa using c⟩
     have e3:((List.replicate (b::l).length x0++[z]).length==1)=false:=by simp
     rw [e1,e2,e3];rfl
  rw [this];exact hK
theorem aB6{y:VE}{SB S1:Hp}{cells:List V}{j i e m:Nat}{f:V}{p:Bool} (rj:SB j=some (.row cells 231)) (hl:cells.length=10) (hi:i<5) (hc:(cells.drop (i*2)).take 2=[f,ni e]) (hfo:gB f=true) (hf:∀S2 (K:KV),bU SB S2->K (.bool p) S2->mH y f [] S2 K)
 (hs:bU SB S1) (h0:bU S SB) (hT:p=true->K (ni e) S) (hF:p=false->∀S2,bU SB S2->lQ y m (.own j 0 5 5) (ni 5) (ni (i+1)) S2 K):lQ y (m+1) (.own j 0 5 5) (ni 5) (ni i) S1 K:=by
 rw [HU];unfold yM;refine tJ SB hs ?_;rw [aQ,zJ hi,bW];refine⟨hi,?_⟩;dsimp only;rw [tE rj,eJ,dR (by omega),hc];refine cG (l:=[.Hh,ni 0]) rfl fun d hd=>?_;refine iH (n:=2) (i:=d) aB (by simp only [UG,List.all_nil,hfo];rfl) rfl rfl ?_;rw [fD];have le:bU SB (aL SB d (.row [f,ni e] 231)):= .aK hd;have rd:aL SB d (.row [f,ni e] 231) d=some (.row [f,ni e] 231):=aB;generalize aL SB d (.row [f,ni e] 231)=S2 at le rd;rw [aY,cT (o:=0) rd rfl];refine hf S2 _ le ?_;cases p with
 | true=>
  rw [bW,aZ,cT (o:=0+1) rd rfl];exact bL (h0.trans le) (hT rfl)
 | false=>
  rw [bE,bG (by omega)];exact hF rfl S2 le
theorem XC{f:FuncId}{cs:List V}{e:Nat}{k:V->Prop} (hk:k (.agg [.func f [] cs,ni e])):cS [.nilFunc,(.int .i64 (.ofNat 0))] [(0,1,(.func f [] cs)),(1,1,ni e)] k:=by
 refine⟨rfl,by simp,?_⟩;exact⟨rfl,by simp [bA],hk⟩
theorem aKM (hM:1000000<M) (hx:Deep PP bK gM M (n+11) x){O O2z:Tag}{l:List (Int×List Int)} (hl:l.length<999999){x0 id:Int}{z:List Int} (Ky:z.length<1000000) (oP:∀a∈l,a.2=[x0]) (Qz:Ls x0)
 (hK:K (ni (GB l id z)) S):x.call AX [.agg (pv two),.list O (aD l) l.length,.int .i64 id,.list O2z (kW z) z.length] S K:=by
 refine hx.call aUo fun y hy=>?_;rw [Ss];unfold ZQ;refine cC jN fun p hp=>?_;have dL:bU S (aL S p (.row (pv two) 29)):= .aK hp;have rp:aL S p (.row (pv two) 29) p=some (.row (pv two) 29):=aB;generalize aL S p (.row (pv two) 29)=S1 at dL rp;intro a ha;have fO:bU S1 (aL S1 a (.row [.list O (aD l) l.length] 34)):= .aK ha;have ra:aL S1 a (.row [.list O (aD l) l.length] 34) a=some (.row [.list O (aD l) l.length] 34):=aB;generalize aL S1 a (.row [.list O (aD l) l.length] 34)=S2 at fO ra;intro b hb;have pR:bU S2 (aL S2 b (.row [.int .i64 id] 3)):= .aK hb;have rb:aL S2 b (.row [.int .i64 id] 3) b=some (.row [.int .i64 id] 3):=aB;generalize aL S2 b (.row [.int .i64 id] 3)=S3 at pR rb;intro d hd;have IS:bU S3 (aL S3 d (.row [.list O2z (kW z) z.length] 39)):= .aK hd;have rd:aL S3 d (.row [.list O2z (kW z) z.length] 39) d=some (.row [.list O2z (kW z) z.length] 39):=aB;generalize aL S3 d (.row [.list O2z (kW z) z.length] 39)=S4 at IS rd;have rp4:=IS _ _ (pR _ _ (fO _ _ rp));dsimp only;rw [lA rp4,cT rd rfl];refine aMW (n:=n+4) (two:=two) hM hy Ky ?_;refine cG (l:=[ni 0]) rfl fun e he=>?_;refine MX (i:=e) aB rfl (by decide) ?_;rw [fD];have EW:bU S4 (aL S4 e (.row [ni (qF z)] 46)):= .aK he;have re:aL S4 e (.row [ni (qF z)] 46) e=some (.row [ni (qF z)] 46):=aB;show cS [.nilFunc,(.int .i64 (.ofNat 0))] _ _;have hse:bA 0 [ni (qF z)] [ni 0]=[ni (qF z)]:=rfl;rw [hse];generalize aL S4 e (.row [ni (qF z)] 46)=S5 at EW re;refine XC ?_;rw [cT re rfl];refine XC (XC (XC (XC ?_)))
 have hbs:∀{f1 f2 f3 f4 f5 e1 e2 e3 e4 e5:V} {K:KV},gB f1=true->gB e1=true->gB f2=true->gB e2=true->gB f3=true->gB e3=true->gB f4=true->gB e4=true->gB f5=true->gB e5=true->(∀j,S5 j=none->K (.own j 0 5 5) (aL S5 j (.row [f1,e1,f2,e2,f3,e3,f4,e4,f5,e5] 231)))->aS 231 5 [.nilFunc,(.int .i64 (.ofNat 0))] [(0,2,.agg [f1,e1]),(2,2,.agg [f2,e2]),(4,2,.agg [f3,e3]),(6,2,.agg [f4,e4]),(8,2,.agg [f5,e5])] S5 K:=by
  intro f1 f2 f3 f4 f5 e1 e2 e3 e4 e5 K h1 g1 h2 g2 h3 g3 h4 g4 h5 g5 hk;refine⟨by simp [h1,g1],rfl,by simp,⟨by simp [h2,g2],rfl,by simp [bA],⟨by simp [h3,g3],rfl,by simp [bA],⟨by simp [h4,g4],rfl,by simp [bA],⟨by simp [h5,g5],rfl,by simp [bA],?_⟩⟩⟩⟩⟩;exact fun j hj=>hk j hj
 refine hbs rfl rfl rfl rfl rfl rfl rfl rfl rfl rfl fun j hj=>?_;have UA:bU S5 (aL S5 j (.row [.func lW [] [.ptr e 0,.ptr b 0],ni 4,.func lX [] [.ptr e 0],ni (qF z),.func lY [] [.ptr a 0,.ptr b 0],ni 6,.func lZ [] [.ptr a 0],ni 41,.func mA [] [.ptr p 0,.ptr a 0,.ptr d 0],ni 22] 231)):= .aK hj;have rj:aL S5 j (.row [.func lW [] [.ptr e 0,.ptr b 0],ni 4,.func lX [] [.ptr e 0],ni (qF z),.func lY [] [.ptr a 0,.ptr b 0],ni 6,.func lZ [] [.ptr a 0],ni 41,.func mA [] [.ptr p 0,.ptr a 0,.ptr d 0],ni 22] 231) j=some (.row [.func lW [] [.ptr e 0,.ptr b 0],ni 4,.func lX [] [.ptr e 0],ni (qF z),.func lY [] [.ptr a 0,.ptr b 0],ni 6,.func lZ [] [.ptr a 0],ni 41,.func mA [] [.ptr p 0,.ptr a 0,.ptr d 0],ni 22] 231):=aB;generalize aL S5 j (.row [.func lW [] [.ptr e 0,.ptr b 0],ni 4,.func lX [] [.ptr e 0],ni (qF z),.func lY [] [.ptr a 0,.ptr b 0],ni 6,.func lZ [] [.ptr a 0],ni 41,.func mA [] [.ptr p 0,.ptr a 0,.ptr d 0],ni 22] 231)=S6 at UA rj;have re6:=UA _ _ re;have rd6:=UA _ _ (EW _ _ rd);have rb6:=UA _ _ (EW _ _ (IS _ _ rb));have ra6:=UA _ _ (EW _ _ (IS _ _ (pR _ _ ra)));have rp6:=UA _ _ (EW _ _ rp4);have EN:bU S S6:=((((dL.trans fO).trans pR).trans IS).trans EW).trans UA;show lQ y y.most (.own j 0 5 5) (ni 5) (ni 0) S6 K;obtain⟨M',EM⟩:∃k,M=k+1+1+1+1+1+1:=⟨M-6,by omega⟩;rw [hy.most,EM];rw [EM]at hy hM;refine aB6 (p:=decide (qF z=4) || (decide (id<1) || decide (1099511627776<id))) rj rfl (by decide) rfl rfl (fun S2 K h hk=>aSo (n:=n+9) hy (h _ _ re6) (h _ _ rb6) hk) (.refl _) EN (fun h=>?_) fun h1 S7 hs7=>?_
 ·have:GB l id z=4:=by unfold GB;rw [aO (by simpa using h)]
  rw [this]at hK;exact hK
 have n1:¬(qF z=4\/id<1\/1099511627776<id):=by simpa using h1
 refine aB6 (p:= !decide (qF z=0)) rj rfl (by decide) rfl rfl (fun S2 K h hk=>aSp (n:=n+9) hy (h _ _ re6) hk) hs7 EN (fun h=>?_) fun h2 S8 hs8=>?_
 ·have:GB l id z=qF z:=by unfold GB;rw [aG n1,aO (by simpa using h)]
  rw [this]at hK;exact hK
 have n2:¬qF z≠0:=by simpa using h2
 refine aB6 (p:=l.any fun q=>decide (q.1=id)) rj rfl (by decide) rfl rfl (fun S2 K h hk=>aSq (n:=n+6) hM hy (by omega) (h _ _ ra6) (h _ _ rb6) hk) hs8 EN (fun h=>?_) fun h3 S9 hs9=>?_
 ·have:GB l id z=6:=by unfold GB;rw [aG n1,aG n2,aO h]
  rw [this]at hK;exact hK
 refine aB6 (p:=decide (8<=l.length)) rj rfl (by decide) rfl rfl (fun S2 K h hk=>aSr (n:=n+9) hy (h _ _ ra6) hk) hs9 EN (fun h=>?_) fun h4 S10 aUp=>?_
 ·have:GB l id z=41:=by unfold GB;rw [aG n1,aG n2,aG (by rw [h3];decide),aO (by simpa using h)]
  rw [this]at hK;exact hK
 obtain⟨q,rfl,hq⟩:∃q,z=[q]/\Ls q:=by
  have c2:qF z=0:=Classical.not_not.1 n2;unfold qF at c2;split at c2
  ·rename_i Gi
   split at c2
   ·cases c2
   ·rename_i hn
    match z,Gi with
    | [q],_=>exact⟨q,rfl,by unfold Ls;simp at hn;omega⟩
  ·cases c2
 refine aB6 (p:=l.any fun u=> !decide (u.2=[q])) rj rfl (by decide) rfl rfl (fun S2 K h hk=>aSs (n:=n+1) (two:=two) hM hy hl oP Qz hq (h _ _ rp6) (h _ _ ra6) (h _ _ rd6) hk) aUp EN (fun h=>?_) fun h5 S11 aUq=>?_
 ·have:GB l id [q]=22:=by unfold GB;rw [aG n1,aG n2,aG (by rw [h3];decide),aG (by simpa using h4),aO h]
  rw [this]at hK;exact hK
 rw [HU];unfold yM;refine aF ?_;rw [aQ,jM (by decide),bE];have:GB l id [q]=0:=by unfold GB;rw [aG n1,aG n2,aG (by rw [h3];decide),aG (by simpa using h4),aG (by rw [h5];decide)]
 rw [this]at hK;exact bL (EN.trans aUq) hK
theorem aQh (hM:1000000<M) (hx:Deep PP bK gM M (n+12) x){O O2z:Tag}{l:List (Int×List Int)} (hl:l.length<999999){x0 id:Int}{z:List Int} (Ky:z.length<1000000) (oP:∀a∈l,a.2=[x0]) (Qz:Ls x0)
 (hK:GB l id z≠0->K (.tuple [.nil,ni (GB l id z)]) S) (hK0:GB l id z=0->∀O,K (.tuple [.list O (aD (l++[(id,z)])) (l++[(id,z)]).length,ni 0]) S):x.call NH [.agg (pv two),.list O (aD l) l.length,.int .i64 id,.list O2z (kW z) z.length] S K:=by
 refine hx.call aQg fun y hy=>?_;rw [aBW];unfold Jk;refine cC jN fun p hp=>?_;have dL:bU S (aL S p (.row (pv two) 29)):= .aK hp;have rp:aL S p (.row (pv two) 29) p=some (.row (pv two) 29):=aB;generalize aL S p (.row (pv two) 29)=S1 at dL rp;rw [lA rp];refine aKM (two:=two) hM hy hl Ky oP Qz ?_;rw [yB];by_cases c:GB l id z=0
 ·rw [bI c,fL,bE]
  have hK0:=hK0 c;refine aFf hM hy (by omega) (fun a ha=>by rw [oP a ha];exact(by decide:1<1000000)) fun w S2 fO hw=>?_;refine Qr hy Ky fun t2=>?_;rw [show(V.list t2 (kW z) z.length)=T t2 (.list (kW z) z.length)from rfl,Oz];have tso:Jz [.int .i64 id,T t2 (.list (kW z) z.length)] [.int .i64 id,.list (kW z) z.length]:= .cons t2 (.int .i64 id) (.cons t2 (.list (kW z) z.length) .nil);refine hw.app fO (by omega) (aKw l) (zv:=[ni 0,.nil]) rfl rfl tso rfl (by decide) fun u2 S3 hs3 _ _ hm3=>?_;have e2:aD l++[.int .i64 id,.list (kW z) z.length]=aD (l++[(id,z)]):=by rw [aKx];rfl
  rw [e2]at hm3;have fu:=(hm3.base dL).Bd;rw [show l.length+1=(l++[(id,z)]).length by simp]at fu;refine⟨S,fun O=> .tuple [.list (O 0) (aD (l++[(id,z)])) (l++[(id,z)]).length,ni 0],dL.trans hs3,fun O=> .tup ⟨rfl,fun j v u a b=>?_⟩,fun O=>hK0 _⟩
  match j with
  | 0=>injection a with a;injection b with b;subst a b;exact .ZG fu
  | 1=>injection a with a;injection b with b;subst a b;exact .mF _
  | j+2=>simp at a
 ·rw [bO c,DB,bW]
  exact bL dL (hK c)
end
end Go.Am
