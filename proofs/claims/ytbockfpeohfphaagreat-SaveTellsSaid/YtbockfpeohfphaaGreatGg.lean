/- save: the reference's writer: truth values, texts, lists of numbers, how many there are. -/
import Derived.Test.YtbockfpeohfphaaGreatGf
import Derived.Test.YtbockfpeohfphaaGreatGd
import Derived.Test.YtbockfpeohfphaaGreatGe
import Derived.Test.YtbockfpeohfphaaGreatGc

set_option linter.unusedVariables false
set_option maxRecDepth 100000
namespace Go.Am
open Go.RowKit Go.MapKept Go.Proofs Go.Proofs.jB
variable{most:Nat}
theorem QU{Sz:St}{C:Nat->Prop}{it:It}{el:TypeId}{vs:List Value}{ds:List D} (hl:vs.length=ds.length) (hC:∀i,C i->i<Sz.n) (hN:vs.length<=1000) (h:∀(i:Nat) (v:Value) (d:D),vs[i]? =some v->ds[i]? =some d->Rd Sz C it v d):
 Rd (Sz.new (.cells vs el .exact)) C (.list [it]) (.slice (some ⟨Sz.n,0,none⟩) vs.length vs.length) (.l (ds.map fun d=>[d])):=by
 refine .row (ck:= .exact) rfl (Nat.lt_succ_self _) (fun h=>Nat.lt_irrefl _ (hC _ h)) aF (.inr (.inl rfl)) (by simp [hl]) (by simp) (fun d hd=>?_) (by omega) (Nat.le_refl _) fun k d j it' v d' a b c g=>?_
 ·obtain⟨x,_,rfl⟩:=List.mem_map.1 hd;rfl
 ·rw [List.getElem?_map]at a
  cases q:ds[k]? with
  | none=>rw [q]at a;cases a
  | some x=>
   rw [q]at a;injection a with a;subst a
   match j,b,g with
   | 0,b,g=>
    injection b with b;injection g with g;subst b g;simp only [List.length_cons,List.length_nil,Nat.mul_one,Nat.zero_add,Nat.add_zero]at c;exact(h k v x c q).fr ((aZ.new Sz _).fr C)
   | j+1,b,g=>simp at b
theorem Ox{Sz:St}{C:Nat->Prop}{it:It}{el:TypeId}{v:Value}{d:D} (hC:∀i,C i->i<Sz.n) (h:Rd Sz C it v d):Rd (Sz.new (.cells [v] el .exact)) C (.list [it]) (.slice (some ⟨Sz.n,0,none⟩) 1 1) (.l [[d]]):=
 QU (vs:=[v]) (ds:=[d]) rfl hC (by simp) fun i v' d' a b=>by
  match i,a,b with
  | 0,a,b=>injection a with a;injection b with b;subst a b;exact h
  | i+1,a,_=>simp at a
section
variable{n b:Nat}{S0 Sz:St}{v:Value}{es:List (List D)}{st:pE}{K:VK}
theorem sK.C1 (h:sK Sz b st):∀i,Row1 b i->i<Sz.n:=fun i hi=>by rw [hi];exact h.lt
theorem NQ (ho:sK Sz b st){v:Value}{op:Value->St->VK->Bool}{c:Bool}{kk:St->Bool} (hop:∀k:VK,op v Sz k=k (.bool c) Sz) (hK:∀S',sK S' b (st.1,st.2 || c)->cM (Row1 b) Sz S' (Row1 b)->kk S'=true):
 (bI PP (pt b 0) fun v12=>aC 1 v12 fun v13=>aN v13 Sz fun v14 S'=>
  shut most (aA false v14 (fun k=>k v S') S' fun v15 S'=>
  shut most (aA false v14 (fun k=>op v15 S' k) S' fun v17 S'=>
  shut most (bY v14 (.bool true) v17 fun v18=>bI PP (pt b 0) fun v19=>aC 1 v19 fun v20=>cQ 1 v20 v18 S' kk))))=true:=by
 rw [aH,aB,ho.ld1];simp only [cL];cases q:st.2 with
 | true=>
  rw [cS,cS,bL,aH,aB];obtain⟨S',h1,h2,h3⟩:=ho.set2 true kk;rw [Nat.zero_add,h3];exact hK S' (by rw [q,Bool.true_or];exact h1) h2
 | false=>
  simp only [cH,hop,bJ,aH,aB,Nat.zero_add];obtain⟨S',h1,h2,h3⟩:=ho.set2 c kk;rw [h3];exact hK S' (by rw [q,Bool.false_or];exact h1) h2
theorem SP (el:TypeId) (z v:Value) (h:oneCell v=true) (Sz:St) (K:VK):aM el 1 [z] [(0,1,v)] Sz K=K (.slice (some ⟨Sz.n,0,none⟩) 1 1) (Sz.new (.cells [v] el .exact)):=
 gP el z [v] (by simpa using h) Sz K
theorem Rs (hM:140737488355329<most) (ho:sK Sz b st){N:Nat} (hN:N<=140737488355328) (hl:st.1.length+8<=vO) (hK:∀S',sK S' b (st.1++pH 8 N,st.2 || decide (1048576<N))->cM (Row1 b) Sz S' (Row1 b)->K (.tuple ⟨[]⟩) S'=true):
 (X most (n+4)).C dN [pt b 0,.int .i64 (.ofNat N)] Sz K=true:=by
 rw [aT (by rfl),SQ];unfold ES
 refine NQ (most:=(X most (n+3)).most) (v:= .int .i64 (.ofNat N)) (op:=fun v3 Sz k=>aK PP .gtr 3 v3 (.int .i64 (.ofNat 1048576)) fun v4=>k v4 Sz) (c:=decide (1048576<N)) ho (fun k=>by
  show aK PP .gtr 3 _ _ _=_;rw [nJ]) fun S1z h1 f1=>?_
 rw [SP _ _ _ rfl];have hr:Rd S1z (Row1 b) .int (.int .i64 (.ofNat N)) (.n (N:Int)):= .int (by show(-9223372036854775808:Int)<=(N:Int);omega) (by show(N:Int)<9223372036854775808;omega);refine QS hM (h1.ext (.new S1z _)) (Ox h1.C1 hr) (by simpa using hl) fun S2z h2 f2=>?_;refine hK S2z ?_ ((f1.trans ((aZ.new S1z _).fr _)).trans f2);have:u64 (N:Int)=N:=by unfold u64;omega
 simpa [qU,fJ,encR,this]using h2
theorem aAo (hM:140737488355329<most) (hv:Rd S0 (Row1 b) (.list [.is]) v (.l es)) (hl:st.1.length+8*es.length<=vO) (hK:∀S',sK S' b (qU .is es st)->cM (Row1 b) S0 S' (Row1 b)->K (.tuple ⟨[]⟩) S'=true):
 ∀(r i m:Nat) (Sz:St),i+r=es.length->r<m->sK Sz b (qU .is (es.take i) st)->(qU .is (es.take i) st).1.length<=st.1.length+8*i->cM (Row1 b) S0 Sz (Row1 b)->qA (X most (n+3)) m (pt b 0) v (.int .i64 (.ofNat i)) Sz K=true:=by
 intro r;induction r with
 | zero=>
  intro i m Sz hi hm ho hle hf;obtain⟨m,rfl⟩:=Nat.exists_eq_succ_of_ne_zero (show m≠0 by omega);rw [BK];unfold tM;rw [hv.bD.2,aG,show decide (i<bH (.l es))=false from decide_eq_false (show ¬i<es.length by omega),cA];rw [List.take_of_length_le (by omega)]at ho;exact hK Sz ho hf
 | succ r ih=>
  intro i m Sz hi hm ho hle hf;obtain⟨m,rfl⟩:=Nat.exists_eq_succ_of_ne_zero (show m≠0 by omega);have hlt:i<es.length:=by omega
  have hm0:(X most (n+3)).most≠0:=by rw [bP];omega
  rw [BK];unfold tM;obtain⟨u,d,ed,hu,b2,o2,hix,hld⟩:=Rr (hv.fr hf) hlt;obtain⟨t,rfl,rfl⟩:=hu.NH;rw [hv.bD.2,aG,show decide (i<bH (.l es))=true from decide_eq_true (show i<es.length from hlt),bS,hix,hld]
  have e2:qU .is (es.take (i+1)) st=((qU .is (es.take i) st).1++pH 8 (if t then 1 else 0),(qU .is (es.take i) st).2):=by
   rw [List.take_succ_eq_append_getElem hlt,SO,ed];rfl
  have next:∀(z:Nat),z=(if t then 1 else 0)->(aM 3 1 [zI] [(0,1,(.int .i64 (.ofNat z)))] Sz fun v4 Sz=>(X most (n+3)).C bR [pt b 0,v4] Sz fun v5 Sz=>mC (X most (n+3)) m (pt b 0) v (.int .i64 (.ofNat i)) Sz K)=true:=by
   intro z hz;have hz1:z<=1:=by rw [hz];split<;>omega
   rw [SP _ _ _ rfl];have hr:Rd Sz (Row1 b) .int (.int .i64 (.ofNat z)) (.n (z:Int)):= .int (by show(-9223372036854775808:Int)<=(z:Int);omega) (by show(z:Int)<9223372036854775808;omega);refine QS (n:=n) hM (ho.ext (.new Sz _)) (Ox ho.C1 hr) (by simp;omega) fun S2z h2 f2=>?_;rw [IA _ hm0];unfold pV;rw [aP _ _ _ _ (by have:=hv.bD.1;simp only [bH]at this;omega)];have hu64:u64 (z:Int)=z:=by unfold u64;omega
   refine ih (i+1) m S2z (by omega) (by omega) ?_ (by rw [e2];simp only [List.length_append,bK];omega) ((hf.trans ((aZ.new Sz _).fr _)).trans f2);rw [e2,<-hz];simpa [qU,fJ,encR,hu64]using h2
  cases t with
  | true=>rw [bS];exact next 1 rfl
  | false=>rw [cA];exact next 0 rfl
theorem aFp (hM:140737488355329<most) (ho:sK S0 b st) (hv:Rd S0 (Row1 b) (.list [.is]) v (.l es)) (hl:st.1.length+8*es.length<=vO) (hK:∀S',sK S' b (qU .is es st)->cM (Row1 b) S0 S' (Row1 b)->K (.tuple ⟨[]⟩) S'=true):
 (X most (n+4)).C fN [pt b 0,v] S0 K=true:=by
 rw [aT (by rfl),ZY];unfold KF;have h1:=hv.bD.1;simp only [bH]at h1;exact aAo hM hv hl hK es.length 0 _ S0 (by omega) (by rw [bP];omega) (by simpa [qU]using ho) (by simp [qU]) (.refl _ _)
theorem Vh (t:List UInt8):decide (¬(kB t).2=0)=decide (2048<t.length):=by
 unfold kB;by_cases h:2048<t.length
 ·rw [if_pos h];simp [h]
 ·rw [if_neg h];simp [h]
theorem Vi (ns:List Nat):decide (¬(kT ns).2=0)=decide (1024<ns.length):=by
 unfold kT;by_cases h:1024<ns.length
 ·rw [if_pos h];simp [h]
 ·rw [if_neg h];simp [h]
theorem Oy (hM:140737488355329<most) (hv:Rd S0 (Row1 b) (.list [.text]) v (.l es)) (hl:st.1.length+2050*es.length<=vO) (hK:∀S',sK S' b (qU .text es st)->cM (Row1 b) S0 S' (Row1 b)->K (.tuple ⟨[]⟩) S'=true):
 ∀(r i m:Nat) (Sz:St),i+r=es.length->r<m->sK Sz b (qU .text (es.take i) st)->(qU .text (es.take i) st).1.length<=st.1.length+2050*i->cM (Row1 b) S0 Sz (Row1 b)->kO (X most (n+2)) m (pt b 0) v (.int .i64 (.ofNat i)) Sz K=true:=by
 intro r;induction r with
 | zero=>
  intro i m Sz hi hm ho hle hf;obtain⟨m,rfl⟩:=Nat.exists_eq_succ_of_ne_zero (show m≠0 by omega);rw [yE];unfold qV;rw [hv.bD.2,aG,show decide (i<bH (.l es))=false from decide_eq_false (show ¬i<es.length by omega),cA];rw [List.take_of_length_le (by omega)]at ho;exact hK Sz ho hf
 | succ r ih=>
  intro i m Sz hi hm ho hle hf;obtain⟨m,rfl⟩:=Nat.exists_eq_succ_of_ne_zero (show m≠0 by omega);have hlt:i<es.length:=by omega
  rw [yE];unfold qV;obtain⟨u,d,ed,hu,b2,o2,hix,hld⟩:=Rr (hv.fr hf) hlt;obtain⟨t,rfl,rfl,ht⟩:=hu.uU;rw [hv.bD.2,aG,show decide (i<bH (.l es))=true from decide_eq_true (show i<es.length from hlt),bS,aH,aB,Nat.zero_add,ho.Ow,hix,hld];refine aCf ht (by omega) fun S1z hx1=>?_;simp only [fV,fH,jL];rw [aH,aB,Nat.zero_add]
  obtain⟨S2z,ho2,hf2,h2⟩:=(ho.ext hx1).set1 ((qU .text (es.take i) st).1++(kB t).1) (fun Sz=>bI PP (pt b 0) fun v12=>aC 1 v12 fun v13=>aN v13 Sz fun v14 Sz=>
   shut (X most (n+2)).most (aA false v14 (fun k=>k (.int .i64 (.ofNat (kB t).2)) Sz) Sz fun v15 Sz=>
   shut (X most (n+2)).most (aA false v14 (fun k=>aK PP .neq 37 v15 zI fun v16=>k v16 Sz) Sz fun v17 Sz=>
   shut (X most (n+2)).most (bY v14 (.bool true) v17 fun v18=>bI PP (pt b 0) fun v19=>aC 1 v19 fun v20=>cQ 1 v20 v18 Sz fun Sz=>
   aK PP .add 3 (.int .i64 (.ofNat i)) (.int .i64 (.ofNat 1)) fun v21=>kO (X most (n+2)) m (pt b 0) v v21 Sz K))))
  refine Eq.trans h2 ?_
  have e2:qU .text (es.take (i+1)) st=((qU .text (es.take i) st).1++(kB t).1,(qU .text (es.take i) st).2 || decide (2048<t.length)):=by
   rw [List.take_succ_eq_append_getElem hlt,SO,ed];rfl
  refine NQ (Sz:=S2z) (most:=(X most (n+2)).most) (v:= .int .i64 (.ofNat (kB t).2)) (op:=fun v15 Sz k=>aK PP .neq 37 v15 zI fun v16=>k v16 Sz) (c:=decide (2048<t.length)) ho2 (fun k=>by
   show aK PP .neq 37 _ _ _=_;rw [dM,<-Vh,decide_not]) fun S3z h3 f3=>?_
  rw [aP _ _ _ _ (by have:=hv.bD.1;simp only [bH]at this;omega)];have hle2:=GK t;exact ih (i+1) m S3z (by omega) (by omega) (by rw [e2];exact h3) (by rw [e2];simp only [List.length_append];omega) (((hf.trans (hx1.fr _)).trans hf2).trans f3)
theorem Rt (hM:140737488355329<most) (ho:sK S0 b st) (hv:Rd S0 (Row1 b) (.list [.text]) v (.l es)) (hl:st.1.length+2050*es.length<=vO) (hK:∀S',sK S' b (qU .text es st)->cM (Row1 b) S0 S' (Row1 b)->K (.tuple ⟨[]⟩) S'=true):
 (X most (n+3)).C eL [pt b 0,v] S0 K=true:=by
 rw [aT (by rfl),SS];unfold ET;have h1:=hv.bD.1;simp only [bH]at h1;exact Oy hM hv hl hK es.length 0 _ S0 (by omega) (by rw [bP];omega) (by simpa [qU]using ho) (by simp [qU]) (.refl _ _)
theorem Ru (hM:140737488355329<most) (ho:sK Sz b st){d:D} (hv:Rd Sz (Row1 b) .nums v d) (hl:st.1.length+8194<=vO) (hK:∀S',sK S' b (encR .nums d st)->cM (Row1 b) Sz S' (Row1 b)->K (.tuple ⟨[]⟩) S'=true):
 (X most (n+3)).C fZ [pt b 0,v] Sz K=true:=by
 rw [aT (by rfl),ST];unfold EU;have hv':∃es,d= .l es/\Rd Sz (Row1 b) (.list [.num]) v (.l es):=by cases hv with | nums h=>exact⟨_,rfl,h⟩
 obtain⟨es,rfl,hr⟩:=hv';obtain⟨ns,rfl⟩:=Dl hr;rw [aH,aB,Nat.zero_add,ho.Ow];refine aCg (by omega) ho.C1 hr (by omega) fun S1z hx1=>?_;simp only [fV,fH,jL];rw [aH,aB,Nat.zero_add]
 obtain⟨S2z,ho2,hf2,h2⟩:=(ho.ext hx1).set1 (st.1++(kT ns).1) (fun Sz=>bI PP (pt b 0) fun v12=>aC 1 v12 fun v13=>aN v13 Sz fun v14 Sz=>
  shut (X most (n+2)).most (aA false v14 (fun k=>k (.int .i64 (.ofNat (kT ns).2)) Sz) Sz fun v15 Sz=>
  shut (X most (n+2)).most (aA false v14 (fun k=>aK PP .neq 37 v15 zI fun v16=>k v16 Sz) Sz fun v17 Sz=>
  shut (X most (n+2)).most (bY v14 (.bool true) v17 fun v18=>bI PP (pt b 0) fun v19=>aC 1 v19 fun v20=>cQ 1 v20 v18 Sz fun Sz=>K (.tuple ⟨[]⟩) Sz))))
 refine Eq.trans h2 ?_;have em:(ns.map fun z:Nat=>[D.n (z:Int)]).map numOf=ns:=Vj ns
 refine NQ (Sz:=S2z) (most:=(X most (n+2)).most) (v:= .int .i64 (.ofNat (kT ns).2)) (op:=fun v15 Sz k=>aK PP .neq 37 v15 zI fun v16=>k v16 Sz) (c:=decide (1024<ns.length)) ho2 (fun k=>by
  show aK PP .neq 37 _ _ _=_;rw [dM,<-Vi,decide_not]) fun S3z h3 f3=>?_
 refine hK S3z ?_ (((hx1.fr _).trans hf2).trans f3);simpa [encR,em]using h3
end
end Go.Am
set_option maxRecDepth 100000
namespace Go.Am
noncomputable def CQ (x:EV) (a0 a1:Value) (Sz:St) (K:VK):Bool:=
 bO a1 fun v0=>
 x.C dN [a0,v0] Sz fun v1 Sz=>
 x.C eL [a0,a1] Sz fun v2 Sz=>
 K (.tuple ⟨[]⟩) Sz
theorem QW (x:EV) (a0 a1:Value) (Sz:St) (K:VK):hZ PP dD qB (x.E PP) [a0,a1] Sz K=CQ x a0 a1 Sz K:=by kernel_rfl
noncomputable def jA (x:EV) (m:Nat) (t0 t1 t4:Value) (Sz:St) (K:VK):Bool:=gJ PP dD mD (x.E PP) [.r,.r,.d] m [] [t0,t1,t4] Sz K
noncomputable def CP (x:EV) (a0 a1:Value) (Sz:St) (K:VK):Bool:=
 bO a1 fun v0=>
 x.C dN [a0,v0] Sz fun v1 Sz=>
 jA x x.most a0 a1 zI Sz K
theorem QV (x:EV) (a0 a1:Value) (Sz:St) (K:VK):hZ PP dD mD (x.E PP) [a0,a1] Sz K=CP x a0 a1 Sz K:=by kernel_rfl
noncomputable def pF (x:EV) (m0:Nat) (t0 t1 t4:Value) (Sz:St) (K:VK):Bool:=
 bO t1 fun v0=>
 aK PP .lss 3 t4 v0 fun v1=>
 gD v1 (bI PP t0 fun v2=>
 aC 0 v2 fun v3=>
 aN v3 Sz fun v4 Sz=>
 dC 2 t1 t4 fun v5=>
 aC 0 v5 fun v6=>
 aN v6 Sz fun v7 Sz=>
 dC 2 t1 t4 fun v8=>
 aC 1 v8 fun v9=>
 aN v9 Sz fun v10 Sz=>
 x.C CN [v4,v7] Sz fun v11 Sz=>
 aN v9 Sz fun v12 Sz=>
 aU v12 v10 (x.C CN [v11,v10] Sz fun v13 Sz=>
 bI PP t0 fun v14=>
 aC 0 v14 fun v15=>
 cQ 1 v15 v13 Sz fun Sz=>
 aK PP .add 3 t4 (.int .i64 (.ofNat 1)) fun v16=>
 jA x m0 t0 t1 v16 Sz K)) (K (.tuple ⟨[]⟩) Sz)
theorem vI (x:EV) (m0:Nat) (t0 t1 t4:Value) (Sz:St) (K:VK):jA x (m0+1) t0 t1 t4 Sz K=pF x m0 t0 t1 t4 Sz K:=by kernel_rfl
noncomputable def mF (x:EV) (m:Nat) (t0 t1 t4:Value) (Sz:St) (K:VK):Bool:=gJ PP dD nU (x.E PP) [.r,.r,.d] m [] [t0,t1,t4] Sz K
noncomputable def EX (x:EV) (a0 a1:Value) (Sz:St) (K:VK):Bool:=
 bO a1 fun v0=>
 x.C dN [a0,v0] Sz fun v1 Sz=>
 mF x x.most a0 a1 zI Sz K
theorem SW (x:EV) (a0 a1:Value) (Sz:St) (K:VK):hZ PP dD nU (x.E PP) [a0,a1] Sz K=EX x a0 a1 Sz K:=by kernel_rfl
noncomputable def pX (x:EV) (m0:Nat) (t0 t1 t4:Value) (Sz:St) (K:VK):Bool:=
 bO t1 fun v0=>
 aK PP .lss 3 t4 v0 fun v1=>
 gD v1 (dC 11 t1 t4 fun v2=>
 aR 11 v2 Sz fun v3 Sz=>
 cC [(.int .u8 (.ofNat 0)),zI,zI,zI,zI,zI,zI,zI,zI,zS,zL] 62 Sz fun v4 Sz=>
 cQ 11 v4 v3 Sz fun Sz=>
 bI PP t0 fun v5=>
 aC 0 v5 fun v6=>
 aN v6 Sz fun v7 Sz=>
 aC 0 v4 fun v8=>
 aN v8 Sz fun v9 Sz=>
 x.C vH [v7,v9] Sz fun v10 Sz=>
 bI PP t0 fun v11=>
 aC 0 v11 fun v12=>
 cQ 1 v12 v10 Sz fun Sz=>
 aC 1 v4 fun v13=>
 aN v13 Sz fun v14 Sz=>
 aC 2 v4 fun v15=>
 aN v15 Sz fun v16 Sz=>
 aC 3 v4 fun v17=>
 aN v17 Sz fun v18 Sz=>
 aC 4 v4 fun v19=>
 aN v19 Sz fun v20 Sz=>
 aC 5 v4 fun v21=>
 aN v21 Sz fun v22 Sz=>
 aC 6 v4 fun v23=>
 aN v23 Sz fun v24 Sz=>
 aC 7 v4 fun v25=>
 aN v25 Sz fun v26 Sz=>
 aC 8 v4 fun v27=>
 aN v27 Sz fun v28 Sz=>
 aM 3 8 [zI] [(0,1,v14),(1,1,v16),(2,1,v18),(3,1,v20),(4,1,v22),(5,1,v24),(6,1,v26),(7,1,v28)] Sz fun v29 Sz=>
 x.C bR [t0,v29] Sz fun v30 Sz=>
 aC 9 v4 fun v31=>
 aN v31 Sz fun v32 Sz=>
 aM 9 1 [zS] [(0,1,v32)] Sz fun v33 Sz=>
 x.C eL [t0,v33] Sz fun v34 Sz=>
 aC 10 v4 fun v35=>
 aN v35 Sz fun v36 Sz=>
 x.C fZ [t0,v36] Sz fun v37 Sz=>
 aK PP .add 3 t4 (.int .i64 (.ofNat 1)) fun v38=>
 mF x m0 t0 t1 v38 Sz K) (K (.tuple ⟨[]⟩) Sz)
theorem vY (x:EV) (m0:Nat) (t0 t1 t4:Value) (Sz:St) (K:VK):mF x (m0+1) t0 t1 t4 Sz K=pX x m0 t0 t1 t4 Sz K:=by kernel_rfl
noncomputable def mE (x:EV) (m:Nat) (t0 t1 t4:Value) (Sz:St) (K:VK):Bool:=gJ PP dD nS (x.E PP) [.r,.r,.d] m [] [t0,t1,t4] Sz K
noncomputable def EW (x:EV) (a0 a1:Value) (Sz:St) (K:VK):Bool:=
 bO a1 fun v0=>
 x.C dN [a0,v0] Sz fun v1 Sz=>
 mE x x.most a0 a1 zI Sz K
theorem SU (x:EV) (a0 a1:Value) (Sz:St) (K:VK):hZ PP dD nS (x.E PP) [a0,a1] Sz K=EW x a0 a1 Sz K:=by kernel_rfl
noncomputable def pW (x:EV) (m0:Nat) (t0 t1 t4:Value) (Sz:St) (K:VK):Bool:=
 bO t1 fun v0=>
 aK PP .lss 3 t4 v0 fun v1=>
 gD v1 (dC 2 t1 t4 fun v2=>
 aC 0 v2 fun v3=>
 aN v3 Sz fun v4 Sz=>
 aM 3 1 [zI] [(0,1,v4)] Sz fun v5 Sz=>
 x.C bR [t0,v5] Sz fun v6 Sz=>
 dC 2 t1 t4 fun v7=>
 aC 1 v7 fun v8=>
 aN v8 Sz fun v9 Sz=>
 x.C fZ [t0,v9] Sz fun v10 Sz=>
 aK PP .add 3 t4 (.int .i64 (.ofNat 1)) fun v11=>
 mE x m0 t0 t1 v11 Sz K) (K (.tuple ⟨[]⟩) Sz)
theorem vX (x:EV) (m0:Nat) (t0 t1 t4:Value) (Sz:St) (K:VK):mE x (m0+1) t0 t1 t4 Sz K=pW x m0 t0 t1 t4 Sz K:=by kernel_rfl
end Go.Am
set_option maxRecDepth 100000
namespace Go.Am
open Go.RowKit Go.MapKept Go.Proofs Go.Proofs.jB
variable{most:Nat}
def Bu (its:List It) (es:List (List D)) (st:pE):pE:=es.foldl (fun st ds=>fJ its ds st) st
def sL (its:List It) (es:List (List D)):Nat:=es.foldl (fun c ds=>c+costs its ds) 0
theorem Vk (its:List It) (es:List (List D)) (ds:List D) (st:pE):Bu its (es++[ds]) st=fJ its ds (Bu its es st):=by unfold Bu;rw [List.foldl_append];rfl
theorem Oz (its:List It) (es:List (List D)) (ds:List D):sL its (es++[ds])=sL its es+costs its ds:=by unfold sL;rw [List.foldl_append];rfl
theorem Pa (its:List It) (es:List (List D)):∀i,i<=es.length->sL its (es.take i)<=sL its es:=by
 intro i hi
 have:sL its es=sL its (es.take i)+sL its (es.drop i):=by
  conv=>lhs;rw [<-List.take_append_drop i es]
  unfold sL;rw [List.foldl_append,mN]
 omega
theorem Kw (its:List It):∀(es:List (List D)) (st:pE),(Bu its es st).1.length<=st.1.length+sL its es:=by
 intro es;induction es with
 | nil=>intro st;exact Nat.le_add_right _ _
 | cons ds es ih=>
  intro st;have h1:=ih (fJ its ds st);have h2:=wS its ds st
  have h3:sL its (ds::es)=costs its ds+sL its es:=by
   unfold sL;rw [List.foldl_cons,mN,Nat.zero_add]
  show(Bu its es (fJ its ds st)).1.length<=_;omega
theorem ZZ (its:List It) (es:List (List D)):cost (.list its) (.l es)=8+sL its es:=by
 unfold cost sL;rw [mN]
section
variable{n b:Nat}{S0 Sz:St}{v:Value}{es:List (List D)}{its:List It}{st st1:pE}{K:VK}
theorem Vl (hl:st1.1.length+sL its es<=vO){L:Nat->Nat->St->Bool}
 (step:∀(i m:Nat) (Sz:St) (st:pE) (h:i<es.length),sK Sz b st->st.1.length+costs its es[i]<=vO->cM (Row1 b) S0 Sz (Row1 b)->(∀S',sK S' b (fJ its es[i] st)->cM (Row1 b) Sz S' (Row1 b)->L m (i+1) S'=true)->L (m+1) i Sz=true)
 (fin:∀(m:Nat) (Sz:St),sK Sz b (Bu its es st1)->cM (Row1 b) S0 Sz (Row1 b)->L (m+1) es.length Sz=true):
 ∀(r i m:Nat) (Sz:St),i+r=es.length->r<m->sK Sz b (Bu its (es.take i) st1)->cM (Row1 b) S0 Sz (Row1 b)->L m i Sz=true:=by
 intro r;induction r with
 | zero=>
  intro i m Sz hi hm ho hf;obtain⟨m,rfl⟩:=Nat.exists_eq_succ_of_ne_zero (show m≠0 by omega);obtain rfl:i=es.length:=by omega
  rw [List.take_length]at ho;exact fin m Sz ho hf
 | succ r ih=>
  intro i m Sz hi hm ho hf;obtain⟨m,rfl⟩:=Nat.exists_eq_succ_of_ne_zero (show m≠0 by omega);have hlt:i<es.length:=by omega
  have h1:=Kw its (es.take i) st1;have h2:=Pa its es (i+1) (by omega);rw [List.take_succ_eq_append_getElem hlt,Oz]at h2;refine step i m Sz _ hlt ho (by omega) hf fun S' h3 f3=>ih (i+1) m S' (by omega) (by omega) ?_ (hf.trans f3);rw [List.take_succ_eq_append_getElem hlt,Vk];exact h3
theorem list_fn (hM:140737488355329<most) (ho:sK Sz b st) (hv:Rd Sz (Row1 b) (.list its) v (.l es)) (hl:st.1.length+cost (.list its) (.l es)<=vO){L:Nat->Nat->St->Bool}
 (step:∀(S0:St) (i m:Nat) (S1z:St) (st:pE) (h:i<es.length),cM (Row1 b) Sz S1z (Row1 b)->sK S1z b st->st.1.length+costs its es[i]<=vO->(∀S',sK S' b (fJ its es[i] st)->cM (Row1 b) S1z S' (Row1 b)->L m (i+1) S'=true)->L (m+1) i S1z=true)
 (fin:∀(m:Nat) (S1z:St),sK S1z b (encR (.list its) (.l es) st)->cM (Row1 b) Sz S1z (Row1 b)->L (m+1) es.length S1z=true):
 (bO v fun v0=>(X most (n+4)).C dN [pt b 0,v0] Sz fun v1 Sz=>L most 0 Sz)=true:=by
 rw [ZZ]at hl;have h1:=hv.bD.1;simp only [bH]at h1;rw [hv.bD.2];refine Rs hM ho h1 (by omega) fun S1z ho1 f1=>?_;have aG4:sK S1z b (Bu its (es.take 0) (st.1++pH 8 es.length,st.2 || decide (1048576<es.length))):=ho1;refine Vl (S0:=Sz) (es:=es) (its:=its) (st1:=(st.1++pH 8 es.length,st.2 || decide (1048576<es.length))) (by simp only [List.length_append,bK];omega) (fun i m S2z st2 h w l f k=>step Sz i m S2z st2 h f w l k) (fun m S2z w f=>fin m S2z w f) es.length 0 most S1z (by omega) (by omega) aG4 f1
theorem Kx (hM:140737488355329<most) (ho:sK Sz b st) (hv:Rd Sz (Row1 b) (.list aY) v (.l es)) (hl:st.1.length+cost (.list aY) (.l es)<=vO) (hK:∀S',sK S' b (encR (.list aY) (.l es) st)->cM (Row1 b) Sz S' (Row1 b)->K (.tuple ⟨[]⟩) S'=true):
 (X most (n+5)).C mD [pt b 0,v] Sz K=true:=by
 rw [aT (by rfl),QV];unfold CP;rw [bP];have h1:=hv.bD.1;simp only [bH]at h1;refine list_fn (n:=n) hM ho hv hl (L:=fun m i Sz=>jA (X most (n+4)) m (pt b 0) v (.int .i64 (.ofNat i)) Sz K) (fun _ i m S1z st1 h f w l k=>?_) fun m S1z w f=>?_
 ·rw [vI]
  unfold pF;have hv1:=hv.fr f;obtain⟨b2,o2,hst,hix⟩:=hv1.at h 2 rfl;obtain⟨u0,r0,g0⟩:=hst.fK 0 (it:= .num) rfl;obtain⟨u1,r1,g1⟩:=hst.fK 1 (it:= .num) rfl;obtain⟨z0,rfl,e0,hz0⟩:=r0.num_inv;obtain⟨z1,rfl,e1,hz1⟩:=r1.num_inv;have hdl:es[i].length=2:=hst.len
  have hds:es[i]=[.n z0,.n z1]:=by
   match q:es[i],hdl with
   | [d0,d1],_=>
    rw [q]at e0 e1;have e0:d0= .n z0:=e0;have e1:d1= .n z1:=e1;rw [e0,e1]
  have hc:costs aY es[i]=16:=by rw [hds];rfl
  rw [hv1.bD.2,aG,show decide (i<bH (.l es))=true from decide_eq_true (show i<es.length from h),bS,aH,aB,Nat.zero_add,w.Ow];rw [hix,aB,g0 S1z (.refl _ _),hix,aB,g1 S1z (.refl _ _)];refine aAm (by omega) hz0 (by omega) fun S2z x2=>?_;rw [g1 S2z (x2.fr _),aQ (pQ _ _)];refine aAm (by omega) hz1 (by rw [List.length_append,bK];omega) fun S3z x3=>?_;rw [aH,aB,Nat.zero_add];obtain⟨S4,w4,f4,h4⟩:=(w.ext (x2.trans x3)).set1 (st1.1++pH 8 z0++pH 8 z1) (fun Sz=>aK PP .add 3 (.int .i64 (.ofNat i)) (.int .i64 (.ofNat 1)) fun v16=>jA (X most (n+4)) m (pt b 0) v v16 Sz K);rw [h4,aP _ _ _ _ (by omega)];exact k S4 (by rw [hds];exact w4) (((x2.trans x3).fr _).trans f4)
 ·rw [vI]
  unfold pF;rw [(hv.fr f).bD.2,aG,show decide (es.length<bH (.l es))=false from decide_eq_false (Nat.lt_irrefl _),cA];exact hK S1z w f
theorem aDQ (it:It) (es:List (List D)) (st:pE):qU it es st=Bu [it] es st:=rfl
theorem Ky (hM:140737488355329<most) (ho:sK Sz b st) (hv:Rd Sz (Row1 b) (.list bA) v (.l es)) (hl:st.1.length+cost (.list bA) (.l es)<=vO) (hK:∀S',sK S' b (encR (.list bA) (.l es) st)->cM (Row1 b) Sz S' (Row1 b)->K (.tuple ⟨[]⟩) S'=true):
 (X most (n+5)).C qB [pt b 0,v] Sz K=true:=by
 rw [aT (by rfl),QW];unfold CQ;have h1:=hv.bD.1;simp only [bH]at h1
 have hc:cost (.list bA) (.l es)=8+2050*es.length:=by
  rw [ZZ]
  have:∀es:List (List D),(∀ds∈es,ds.length=1)->sL bA es=2050*es.length:=by
   intro es;induction es with
   | nil=>intro _;rfl
   | cons ds es ih=>
    intro hd
    have h2:sL bA (ds::es)=costs bA ds+sL bA es:=by
     unfold sL;rw [List.foldl_cons,mN,Nat.zero_add]
    rw [h2,ih fun x hx=>hd x (.tail _ hx),List.length_cons]
    match ds,hd ds (.head _)with
    | [d],_=>
     have:costs bA [d]=2050:=by show cost .text d+0=2050;rw [nR]
     omega
  rw [this];cases hv with
  | empty=>intro ds h;cases h
  | wK=>intro ds h;cases h
  | row _ _ _ _ _ _ _ hd _ _ _=>exact hd
 rw [hv.bD.2];refine Rs (n:=n) hM ho h1 (by omega) fun S1z w1 f1=>?_;refine Rt (n:=n+1) hM w1 (hv.fr f1) (by simp only [List.length_append,bK];omega) fun S2z w2 f2=>?_;exact hK S2z w2 (f1.trans f2)
theorem Rv (hM:140737488355329<most) (ho:sK Sz b st) (hv:Rd Sz (Row1 b) (.list bB) v (.l es)) (hl:st.1.length+cost (.list bB) (.l es)<=vO) (hK:∀S',sK S' b (encR (.list bB) (.l es) st)->cM (Row1 b) Sz S' (Row1 b)->K (.tuple ⟨[]⟩) S'=true):
 (X most (n+5)).C nS [pt b 0,v] Sz K=true:=by
 rw [aT (by rfl),SU];unfold EW;rw [bP];have h1:=hv.bD.1;simp only [bH]at h1;refine list_fn (n:=n) hM ho hv hl (L:=fun m i Sz=>mE (X most (n+4)) m (pt b 0) v (.int .i64 (.ofNat i)) Sz K) (fun _ i m S1z st1 h f w l k=>?_) fun m S1z w f=>?_
 ·rw [vX]
  unfold pW;have hv1:=hv.fr f;obtain⟨b2,o2,hst,hix⟩:=hv1.at h 2 rfl;obtain⟨u0,r0,g0⟩:=hst.fK 0 (it:= .int) rfl;obtain⟨u1,r1,g1⟩:=hst.fK 1 (it:= .nums) rfl;have hdl:es[i].length=2:=hst.len
  have hds:es[i]=[ats es[i] 0,ats es[i] 1]:=by
   match q:es[i],hdl with
   | [d0,d1],_=>rfl
  have hc:costs bB es[i]=8202:=by
   rw [hds];show cost .int _+(cost .nums _+0)=_;rw [jP,nT]
  rw [hv1.bD.2,aG,show decide (i<bH (.l es))=true from decide_eq_true (show i<es.length from h),bS,hix,aB,g0 S1z (.refl _ _),SP _ _ _ r0.one];refine QS (n:=n+1) hM (w.ext (.new S1z _)) (Ox w.C1 r0) (by simp;omega) fun S2z w2 f2=>?_;have f12:=((aZ.new S1z (.cells [u0] 3 .exact)).fr (Row1 b)).trans f2;rw [hix,aB,g1 S2z f12];refine Ru (n:=n+1) hM w2 (r1.fr f12) (by have:=Kw [.int] [[ats es[i] 0]] st1;rw [aDQ];simp only [sL,List.foldl_cons,List.foldl_nil,costs,jP]at this;omega) fun S3z w3 f3=>?_;rw [aP _ _ _ _ (by omega)];exact k S3z (by rw [hds];exact w3) (f12.trans f3)
 ·rw [vX]
  unfold pW;rw [(hv.fr f).bD.2,aG,show decide (es.length<bH (.l es))=false from decide_eq_false (Nat.lt_irrefl _),cA];exact hK S1z w f
end
set_option maxRecDepth 100000
variable{most:Nat}
theorem NR (it:It):∀(its:List It) (ds:List D) (st:pE),(∀x∈its,x=it)->its.length=ds.length->Bu [it] (ds.map fun d=>[d]) st=fJ its ds st:=by
 intro its;induction its with
 | nil=>intro ds st _ h;match ds,h with | [],_=>rfl
 | cons x its ih=>
  intro ds st hx h
  match ds,h with
  | d::ds,h=>
   obtain rfl:=hx x (.head _);exact ih ds (encR x d st) (fun y hy=>hx y (.tail _ hy)) (by simpa using h)
theorem NS (it:It) (c:Nat) (hc:∀d,cost it d=c):∀(its:List It) (ds:List D),(∀x∈its,x=it)->its.length=ds.length->costs its ds=c*ds.length:=by
 intro its;induction its with
 | nil=>intro ds _ h;match ds,h with | [],_=>rfl
 | cons x its ih=>
  intro ds hx h
  match ds,h with
  | d::ds,h=>
   obtain rfl:=hx x (.head _);have:=ih ds (fun y hy=>hx y (.tail _ hy)) (by simpa using h);show cost x d+costs its ds=_;rw [hc,this,List.length_cons,Nat.mul_add];omega
section
variable{n b:Nat}{Sz:St}{C:Nat->Prop}{st:pE}{K:VK}{its:List It}{vs:List Value}{ds:List D}
theorem WY{z cs:List Value}{N:Nat}{t:TypeId} (h:lL Sz C its cs ds) (hN:N=its.length) (hz:z.length=N) (hC:∀i,C i->i<Sz.n){kk:Value->St->Bool} (hK:∀S',aZ Sz S'->qO S' C its Sz.n 0 ds->kk (pt Sz.n 0) S'=true):
 (cC z t Sz fun v Sz=>cQ N v (.agg ⟨cs⟩) Sz (kk v))=true:=by
 have h1:cs.all oneCell=true:=by
  rw [List.all_eq_true];intro v hv;obtain⟨j,hj⟩:=List.getElem?_of_mem hv;have hlt:=(List.getElem?_eq_some_iff.1 hj).1;have hl:=h.len;have hd:=h.jK;exact(h.rd j _ v _ (List.getElem?_eq_getElem (by omega)) hj (List.getElem?_eq_getElem (by omega))).one
 rw [eB];have hl:=h.len;rw [kR (vs:=z) (cs:=cs) aF (by omega) h1 N (by omega)];have hx:aZ Sz ((Sz.new (.cells z t .exact)).set Sz.n (.cells cs t .exact)):=⟨Nat.le_succ _,fun i hi=>by rw [aJ (by omega),aL (by omega)]⟩;refine hK _ hx ⟨⟨cs,t,.exact,aX,.inr (.inl rfl),by omega,fun j it v d a c e=>?_⟩,Nat.lt_succ_self _,fun hc=>Nat.lt_irrefl _ (hC _ hc),h.jK⟩;rw [Nat.zero_add]at c;exact(h.rd j it v d a c e).fr (hx.fr C)
theorem aCO{cs:List Value}{t:TypeId} (h:lL Sz C its cs ds) (hC:∀i,C i->i<Sz.n){kk:VK} (hK:∀S',aZ Sz S'->qO S' C its Sz.n 0 ds->kk (pt Sz.n 0) S'=true):iP t (.agg ⟨cs⟩) Sz kk=true:=by
 have h1:cs.all oneCell=true:=by
  rw [List.all_eq_true];intro v hv;obtain⟨j,hj⟩:=List.getElem?_of_mem hv;have hlt:=(List.getElem?_eq_some_iff.1 hj).1;have hl:=h.len;have hd:=h.jK;exact(h.rd j _ v _ (List.getElem?_eq_getElem (by omega)) hj (List.getElem?_eq_getElem (by omega))).one
 rw [eI h1];have hl:=h.len;refine hK _ (.new Sz _) ⟨⟨cs,t,.exact,aF,.inr (.inl rfl),by omega,fun j it v d a c e=>?_⟩,Nat.lt_succ_self _,fun hc=>Nat.lt_irrefl _ (hC _ hc),h.jK⟩;rw [Nat.zero_add]at c;exact(h.rd j it v d a c e).fr ((aZ.new Sz _).fr C)
theorem DI (hM:140737488355329<most) (w:sK Sz b st) (h:lL Sz (Row1 b) its vs ds) (hi:∀x∈its,x= .int) (hN:vs.length<=1000) (hl:st.1.length+8*vs.length<=vO){kk:VK}
 (hK:∀S' st',st'=fJ its ds st->st'.1.length<=st.1.length+8*vs.length->sK S' b st'->cM (Row1 b) Sz S' (Row1 b)->kk (.tuple ⟨[]⟩) S'=true):
 (aM 3 vs.length [zI] (partsOf vs 0) Sz fun v Sz=>(X most (n+3)).C bR [pt b 0,v] Sz kk)=true:=by
 have hlen:=h.len;have hdl:=h.jK
 have hone:∀v∈vs,oneCell v=true:=fun v hv=>by
  obtain⟨j,hj⟩:=List.getElem?_of_mem hv;have hlt:=(List.getElem?_eq_some_iff.1 hj).1;exact(h.rd j _ v _ (List.getElem?_eq_getElem (by omega)) hj (List.getElem?_eq_getElem (by omega))).one
 rw [gP _ _ _ hone];refine QS hM (w.ext (.new Sz _)) (QU (ds:=ds) (by omega) w.C1 hN fun i v d a c=>?_) (by rw [List.length_map];omega) fun S' w' f'=>?_
 ·have hlt:=(List.getElem?_eq_some_iff.1 a).1
  have hit:its[i]? =some .int:=by rw [List.getElem?_eq_getElem (by omega),hi _ (List.getElem_mem _)]
  exact h.rd i .int v d hit a c
 ·have e:=NR .int its ds st hi (by omega)
  have e2:=wS its ds st;rw [NS .int 8 jP its ds hi (by omega)]at e2;exact hK S' _ rfl (by rw [hlen,<-hdl];exact e2) (by rw [<-e];exact w') (((aZ.new Sz _).fr _).trans f')
theorem WZ (hM:140737488355329<most) (w:sK Sz b st) (h:lL Sz (Row1 b) its vs ds) (hi:∀x∈its,x= .is) (hN:vs.length<=1000) (hl:st.1.length+8*vs.length<=vO){kk:VK}
 (hK:∀S' st',st'=fJ its ds st->st'.1.length<=st.1.length+8*vs.length->sK S' b st'->cM (Row1 b) Sz S' (Row1 b)->kk (.tuple ⟨[]⟩) S'=true):
 (aM 4 vs.length [zF] (partsOf vs 0) Sz fun v Sz=>(X most (n+4)).C fN [pt b 0,v] Sz kk)=true:=by
 have hlen:=h.len;have hdl:=h.jK
 have hone:∀v∈vs,oneCell v=true:=fun v hv=>by
  obtain⟨j,hj⟩:=List.getElem?_of_mem hv;have hlt:=(List.getElem?_eq_some_iff.1 hj).1;exact(h.rd j _ v _ (List.getElem?_eq_getElem (by omega)) hj (List.getElem?_eq_getElem (by omega))).one
 rw [gP _ _ _ hone];refine aFp hM (w.ext (.new Sz _)) (QU (ds:=ds) (by omega) w.C1 hN fun i v d a c=>?_) (by rw [List.length_map];omega) fun S' w' f'=>?_
 ·have hlt:=(List.getElem?_eq_some_iff.1 a).1
  have hit:its[i]? =some .is:=by rw [List.getElem?_eq_getElem (by omega),hi _ (List.getElem_mem _)]
  exact h.rd i .is v d hit a c
 ·have e:=NR .is its ds st hi (by omega)
  have e2:=wS its ds st;rw [NS .is 8 LH its ds hi (by omega)]at e2;exact hK S' _ rfl (by rw [hlen,<-hdl];exact e2) (by rw [<-e];exact w') (((aZ.new Sz _).fr _).trans f')
theorem SV (hM:140737488355329<most) (w:sK Sz b st) (h:lL Sz (Row1 b) its vs ds) (hi:∀x∈its,x= .text) (hN:vs.length<=1000) (hl:st.1.length+2050*vs.length<=vO){kk:VK}
 (hK:∀S' st',st'=fJ its ds st->st'.1.length<=st.1.length+2050*vs.length->sK S' b st'->cM (Row1 b) Sz S' (Row1 b)->kk (.tuple ⟨[]⟩) S'=true):
 (aM 9 vs.length [zS] (partsOf vs 0) Sz fun v Sz=>(X most (n+3)).C eL [pt b 0,v] Sz kk)=true:=by
 have hlen:=h.len;have hdl:=h.jK
 have hone:∀v∈vs,oneCell v=true:=fun v hv=>by
  obtain⟨j,hj⟩:=List.getElem?_of_mem hv;have hlt:=(List.getElem?_eq_some_iff.1 hj).1;exact(h.rd j _ v _ (List.getElem?_eq_getElem (by omega)) hj (List.getElem?_eq_getElem (by omega))).one
 rw [gP _ _ _ hone];refine Rt hM (w.ext (.new Sz _)) (QU (ds:=ds) (by omega) w.C1 hN fun i v d a c=>?_) (by rw [List.length_map];omega) fun S' w' f'=>?_
 ·have hlt:=(List.getElem?_eq_some_iff.1 a).1
  have hit:its[i]? =some .text:=by rw [List.getElem?_eq_getElem (by omega),hi _ (List.getElem_mem _)]
  exact h.rd i .text v d hit a c
 ·have e:=NR .text its ds st hi (by omega)
  have e2:=wS its ds st;rw [NS .text 2050 nR its ds hi (by omega)]at e2;exact hK S' _ rfl (by rw [hlen,<-hdl];exact e2) (by rw [<-e];exact w') (((aZ.new Sz _).fr _).trans f')
theorem Aa (hM:140737488355329<most) (w:sK Sz b st){v:Value}{d:D} (h:Rd Sz (Row1 b) .nums v d) (hl:st.1.length+8194<=vO){kk:VK}
 (hK:∀S' st',st'=encR .nums d st->st'.1.length<=st.1.length+8194->sK S' b st'->cM (Row1 b) Sz S' (Row1 b)->kk (.tuple ⟨[]⟩) S'=true):(X most (n+3)).C fZ [pt b 0,v] Sz kk=true:=
 Ru hM w h hl fun S' w' f'=>hK S' _ rfl (by have:=mB .nums d st;rwa [nT]at this) w' f'
theorem aAp (w:sK Sz b st){v:Value}{d:D} (h:Rd Sz (Row1 b) .kind v d) (hl:st.1.length+1<=vO){kk:St->Bool}
 (hK:∀S' st',st'=encR .kind d st->st'.1.length<=st.1.length+1->sK S' b st'->cM (Row1 b) Sz S' (Row1 b)->kk S'=true):
 ((X most (n+1)).C vH [.string ⟨⟨st.1⟩⟩,v] Sz fun v10 Sz=>bI PP (pt b 0) fun v11=>aC 0 v11 fun v12=>cQ 1 v12 v10 Sz kk)=true:=by
 obtain⟨z,rfl,rfl,hz⟩:=h.DX;refine aCe hz (by omega) fun S1z x1=>?_;rw [aH,aB,Nat.zero_add];obtain⟨S2z,w2,f2,h2⟩:=(w.ext x1).set1 (st.1++pH 1 z) kk;rw [h2];exact hK S2z (st.1++pH 1 z,st.2) rfl (by simp [bK]) w2 ((x1.fr _).trans f2)
theorem aDR{α:Type}{l:List α} (h:l.length=11):∃c0 c1 c2 c3 c4 c5 c6 c7 c8 c9 c10:α,l=[c0,c1,c2,c3,c4,c5,c6,c7,c8,c9,c10]:=by
 match l,h with
 | [c0,c1,c2,c3,c4,c5,c6,c7,c8,c9,c10],_=>exact⟨_,_,_,_,_,_,_,_,_,_,_,rfl⟩
theorem Rw (hM:140737488355329<most) (ho:sK Sz b st){v:Value}{es:List (List D)} (hv:Rd Sz (Row1 b) (.list aV) v (.l es)) (hl:st.1.length+cost (.list aV) (.l es)<=vO) (hK:∀S',sK S' b (encR (.list aV) (.l es) st)->cM (Row1 b) Sz S' (Row1 b)->K (.tuple ⟨[]⟩) S'=true):
 (X most (n+5)).C nU [pt b 0,v] Sz K=true:=by
 rw [aT (by rfl),SW];unfold EX;rw [bP];have h1:=hv.bD.1;simp only [bH]at h1;refine list_fn (n:=n) hM ho hv hl (L:=fun m i Sz=>mF (X most (n+4)) m (pt b 0) v (.int .i64 (.ofNat i)) Sz K) (fun _ i m S1z st1 h f w l k=>?_) fun m S1z w f=>?_
 ·rw [vY]
  unfold pX;have hv1:=hv.fr f;obtain⟨b2,o2,hst,hix⟩:=hv1.at h 11 rfl;obtain⟨cs,hcs,hld⟩:=hst.ldf 11 rfl;rw [hv1.bD.2,aG,show decide (i<bH (.l es))=true from decide_eq_true (show i<es.length from h),bS,hix,hld S1z (.refl _ _)];obtain⟨d0,d1,d2,d3,d4,d5,d6,d7,d8,d9,d10,hds⟩:=aDR (show es[i].length=11 from hst.len);rw [hds]at hcs l k
  have hc:costs aV [d0,d1,d2,d3,d4,d5,d6,d7,d8,d9,d10]=10309:=by
   simp only [aV,costs,LI,jP,nR,nT]
  rw [hc]at l;refine WY hcs rfl rfl w.C1 fun S2z x2 s2=>?_;have w2:=w.ext x2;obtain⟨u0,r0,g0⟩:=s2.fK 0 (it:= .kind) rfl;obtain⟨u1,r1,g1⟩:=s2.fK 1 (it:= .int) rfl;obtain⟨u2,r2,g2⟩:=s2.fK 2 (it:= .int) rfl;obtain⟨u3,r3,g3⟩:=s2.fK 3 (it:= .int) rfl;obtain⟨u4,r4,g4⟩:=s2.fK 4 (it:= .int) rfl;obtain⟨u5,r5,g5⟩:=s2.fK 5 (it:= .int) rfl;obtain⟨u6,r6,g6⟩:=s2.fK 6 (it:= .int) rfl;obtain⟨u7,r7,g7⟩:=s2.fK 7 (it:= .int) rfl;obtain⟨u8,r8,g8⟩:=s2.fK 8 (it:= .int) rfl;obtain⟨u9,r9,g9⟩:=s2.fK 9 (it:= .text) rfl;obtain⟨u10,r10,g10⟩:=s2.fK 10 (it:= .nums) rfl;simp only [aH,aB,Nat.zero_add];simp only [Nat.zero_add]at g0 g1 g2 g3 g4 g5 g6 g7 g8 g9 g10;rw [w2.Ow,g0 S2z (.refl _ _)];refine aAp (n:=n+3) w2 r0 (by omega) fun S3z st3 e3 l3 w3 f3=>?_;rw [g1 S3z f3,g2 S3z f3,g3 S3z f3,g4 S3z f3,g5 S3z f3,g6 S3z f3,g7 S3z f3,g8 S3z f3];refine DI (n:=n+1) (vs:=[u1,u2,u3,u4,u5,u6,u7,u8]) hM w3 (.cons (r1.fr f3) (.cons (r2.fr f3) (.cons (r3.fr f3) (.cons (r4.fr f3) (.cons (r5.fr f3) (.cons (r6.fr f3) (.cons (r7.fr f3) (.cons (r8.fr f3) .nil)))))))) (by simp) (by simp) (by simp only [List.length_cons,List.length_nil];omega) fun S4 st4 e4 l4 w4 f4=>?_;simp only [List.length_cons,List.length_nil]at l4;have f24:=f3.trans f4;rw [g9 S4 f24];refine SV (n:=n+1) (vs:=[u9]) hM w4 (.cons (r9.fr f24) .nil) (by simp) (by simp) (by simp only [List.length_cons,List.length_nil];omega) fun S5 XA e5 l5 w5 f5=>?_;simp only [List.length_cons,List.length_nil]at l5;have f25:=f24.trans f5;rw [g10 S5 f25];refine Aa (n:=n+1) hM w5 (r10.fr f25) (by omega) fun S6 Ws e6 l6 w6 f6=>?_;rw [aP _ _ _ _ (by omega)];refine k S6 ?_ (((x2.fr _).trans f25).trans f6);have:Ws=fJ aV [d0,d1,d2,d3,d4,d5,d6,d7,d8,d9,d10] st1:=by rw [e6,e5,e4,e3];rfl
  rw [<-this];exact w6
 ·rw [vY]
  unfold pX;rw [(hv.fr f).bD.2,aG,show decide (es.length<bH (.l es))=false from decide_eq_false (Nat.lt_irrefl _),cA];exact hK S1z w f
end
end Go.Am
set_option maxRecDepth 100000
namespace Go.Am
noncomputable def fF (x:EV) (m:Nat) (t0 t3 t4 t5:Value) (Sz:St) (K:VK):Bool:=gJ PP dD mG (x.E PP) [.r,.r,.r,.r,.r,.r,.r,.r,.r,.r,.r,.l,.r,.d] m [] [t0,t3,t4,t5] Sz K
noncomputable def eW (x:EV) (m:Nat) (t0 t3 t7:Value) (Sz:St) (K:VK):Bool:=gJ PP dD mG (x.E PP) [.r,.r,.r,.r,.r,.r,.r,.r,.r,.r,.r,.r,.r,.l,.r,.d] m [] [t0,t3,t7] Sz K
noncomputable def CR (x:EV) (a0 a1:Value) (Sz:St) (K:VK):Bool:=
 iP 45 a1 Sz fun v0 Sz=>
 aC 0 v0 fun v1=>
 aN v1 Sz fun v2 Sz=>
 aM 3 1 [zI] [(0,1,v2)] Sz fun v3 Sz=>
 x.C bR [a0,v3] Sz fun v4 Sz=>
 aC 1 v0 fun v5=>
 aN v5 Sz fun v6 Sz=>
 aM 9 1 [zS] [(0,1,v6)] Sz fun v7 Sz=>
 x.C eL [a0,v7] Sz fun v8 Sz=>
 aC 2 v0 fun v9=>
 aN v9 Sz fun v10 Sz=>
 aM 4 1 [zF] [(0,1,v10)] Sz fun v11 Sz=>
 x.C fN [a0,v11] Sz fun v12 Sz=>
 aC 3 v0 fun v13=>
 aR 15 v13 Sz fun v14 Sz=>
 cC [zI,zI,zI,zI,zI,zI,zI,zS,zS,zI,zI,zF,zF,zS,zL] 42 Sz fun v15 Sz=>
 cQ 15 v15 v14 Sz fun Sz=>
 aC 0 v15 fun v16=>
 aN v16 Sz fun v17 Sz=>
 aC 1 v15 fun v18=>
 aN v18 Sz fun v19 Sz=>
 aC 2 v15 fun v20=>
 aN v20 Sz fun v21 Sz=>
 aC 3 v15 fun v22=>
 aN v22 Sz fun v23 Sz=>
 aC 4 v15 fun v24=>
 aN v24 Sz fun v25 Sz=>
 aC 5 v15 fun v26=>
 aN v26 Sz fun v27 Sz=>
 aC 6 v15 fun v28=>
 aN v28 Sz fun v29 Sz=>
 aM 3 7 [zI] [(0,1,v17),(1,1,v19),(2,1,v21),(3,1,v23),(4,1,v25),(5,1,v27),(6,1,v29)] Sz fun v30 Sz=>
 x.C bR [a0,v30] Sz fun v31 Sz=>
 aC 7 v15 fun v32=>
 aN v32 Sz fun v33 Sz=>
 aC 8 v15 fun v34=>
 aN v34 Sz fun v35 Sz=>
 aM 9 2 [zS] [(0,1,v33),(1,1,v35)] Sz fun v36 Sz=>
 x.C eL [a0,v36] Sz fun v37 Sz=>
 aC 9 v15 fun v38=>
 aN v38 Sz fun v39 Sz=>
 aC 10 v15 fun v40=>
 aN v40 Sz fun v41 Sz=>
 aM 3 2 [zI] [(0,1,v39),(1,1,v41)] Sz fun v42 Sz=>
 x.C bR [a0,v42] Sz fun v43 Sz=>
 aC 11 v15 fun v44=>
 aN v44 Sz fun v45 Sz=>
 aC 12 v15 fun v46=>
 aN v46 Sz fun v47 Sz=>
 aM 4 2 [zF] [(0,1,v45),(1,1,v47)] Sz fun v48 Sz=>
 x.C fN [a0,v48] Sz fun v49 Sz=>
 aC 13 v15 fun v50=>
 aN v50 Sz fun v51 Sz=>
 aM 9 1 [zS] [(0,1,v51)] Sz fun v52 Sz=>
 x.C eL [a0,v52] Sz fun v53 Sz=>
 aC 14 v15 fun v54=>
 aN v54 Sz fun v55 Sz=>
 bO v55 fun v56=>
 x.C dN [a0,v56] Sz fun v57 Sz=>
 fF x x.most a0 v0 v15 zI Sz K
theorem QX (x:EV) (a0 a1:Value) (Sz:St) (K:VK):hZ PP dD mG (x.E PP) [a0,a1] Sz K=CR x a0 a1 Sz K:=by kernel_rfl
noncomputable def hH (x:EV) (m0:Nat) (t0 t3 t4 t5:Value) (Sz:St) (K:VK):Bool:=
 aC 14 t4 fun v0=>
 aN v0 Sz fun v1 Sz=>
 bO v1 fun v2=>
 aK PP .lss 3 t5 v2 fun v3=>
 gD v3 (aC 14 t4 fun v4=>
 aN v4 Sz fun v5 Sz=>
 dC 5 v5 t5 fun v6=>
 aR 5 v6 Sz fun v7 Sz=>
 cC [zI,zI,(.int .u8 (.ofNat 0)),zI,zS] 130 Sz fun v8 Sz=>
 cQ 5 v8 v7 Sz fun Sz=>
 aC 0 v8 fun v9=>
 aN v9 Sz fun v10 Sz=>
 aC 1 v8 fun v11=>
 aN v11 Sz fun v12 Sz=>
 aM 3 2 [zI] [(0,1,v10),(1,1,v12)] Sz fun v13 Sz=>
 x.C bR [t0,v13] Sz fun v14 Sz=>
 bI PP t0 fun v15=>
 aC 0 v15 fun v16=>
 aN v16 Sz fun v17 Sz=>
 aC 2 v8 fun v18=>
 aN v18 Sz fun v19 Sz=>
 x.C vH [v17,v19] Sz fun v20 Sz=>
 bI PP t0 fun v21=>
 aC 0 v21 fun v22=>
 cQ 1 v22 v20 Sz fun Sz=>
 aC 3 v8 fun v23=>
 aN v23 Sz fun v24 Sz=>
 aM 3 1 [zI] [(0,1,v24)] Sz fun v25 Sz=>
 x.C bR [t0,v25] Sz fun v26 Sz=>
 aC 4 v8 fun v27=>
 aN v27 Sz fun v28 Sz=>
 aM 9 1 [zS] [(0,1,v28)] Sz fun v29 Sz=>
 x.C eL [t0,v29] Sz fun v30 Sz=>
 aK PP .add 3 t5 (.int .i64 (.ofNat 1)) fun v31=>
 fF x m0 t0 t3 t4 v31 Sz K) (aC 18 t3 fun v32=>
 aN v32 Sz fun v33 Sz=>
 bO v33 fun v34=>
 x.C dN [t0,v34] Sz fun v35 Sz=>
 eW x x.most t0 t3 zI Sz K)
theorem lM (x:EV) (m0:Nat) (t0 t3 t4 t5:Value) (Sz:St) (K:VK):fF x (m0+1) t0 t3 t4 t5 Sz K=hH x m0 t0 t3 t4 t5 Sz K:=by kernel_rfl
noncomputable def gN (x:EV) (m0:Nat) (t0 t3 t7:Value) (Sz:St) (K:VK):Bool:=
 aC 18 t3 fun v0=>
 aN v0 Sz fun v1 Sz=>
 bO v1 fun v2=>
 aK PP .lss 3 t7 v2 fun v3=>
 gD v3 (aC 18 t3 fun v4=>
 aN v4 Sz fun v5 Sz=>
 dC 2 v5 t7 fun v6=>
 aC 0 v6 fun v7=>
 aN v7 Sz fun v8 Sz=>
 aM 3 1 [zI] [(0,1,v8)] Sz fun v9 Sz=>
 x.C bR [t0,v9] Sz fun v10 Sz=>
 aC 18 t3 fun v11=>
 aN v11 Sz fun v12 Sz=>
 dC 2 v12 t7 fun v13=>
 aC 1 v13 fun v14=>
 aN v14 Sz fun v15 Sz=>
 aM 9 1 [zS] [(0,1,v15)] Sz fun v16 Sz=>
 x.C eL [t0,v16] Sz fun v17 Sz=>
 aK PP .add 3 t7 (.int .i64 (.ofNat 1)) fun v18=>
 eW x m0 t0 t3 v18 Sz K) (aC 19 t3 fun v19=>
 aN v19 Sz fun v20 Sz=>
 x.C nU [t0,v20] Sz fun v21 Sz=>
 K (.tuple ⟨[]⟩) Sz)
theorem kZ (x:EV) (m0:Nat) (t0 t3 t7:Value) (Sz:St) (K:VK):eW x (m0+1) t0 t3 t7 Sz K=gN x m0 t0 t3 t7 Sz K:=by kernel_rfl
noncomputable def jH (x:EV) (m:Nat) (t0 t1 t4:Value) (Sz:St) (K:VK):Bool:=gJ PP dD gU (x.E PP) [.r,.r,.d] m [] [t0,t1,t4] Sz K
noncomputable def eV (x:EV) (m:Nat) (m0:Nat) (t0 t1 t4 t5 t6:Value) (Sz:St) (K:VK):Bool:=gJ PP dD gU (x.E PP) [.r,.r,.d,.d,.r,.l,.d,.r,.r,.r,.l,.r,.d] m [m0] [t0,t1,t4,t5,t6] Sz K
noncomputable def yF (x:EV) (a0 a1:Value) (Sz:St) (K:VK):Bool:=
 bO a1 fun v0=>
 x.C dN [a0,v0] Sz fun v1 Sz=>
 jH x x.most a0 a1 zI Sz K
theorem KG (x:EV) (a0 a1:Value) (Sz:St) (K:VK):hZ PP dD gU (x.E PP) [a0,a1] Sz K=yF x a0 a1 Sz K:=by kernel_rfl
noncomputable def lO (x:EV) (m0:Nat) (t0 t1 t4:Value) (Sz:St) (K:VK):Bool:=
 bO t1 fun v0=>
 aK PP .lss 3 t4 v0 fun v1=>
 gD v1 (dC 8 t1 t4 fun v2=>
 aR 8 v2 Sz fun v3 Sz=>
 cC [zI,zI,zL,zL,zL,zL,zL,zF] 137 Sz fun v4 Sz=>
 cQ 8 v4 v3 Sz fun Sz=>
 aC 0 v4 fun v5=>
 aN v5 Sz fun v6 Sz=>
 aC 1 v4 fun v7=>
 aN v7 Sz fun v8 Sz=>
 aM 3 2 [zI] [(0,1,v6),(1,1,v8)] Sz fun v9 Sz=>
 x.C bR [t0,v9] Sz fun v10 Sz=>
 aC 2 v4 fun v11=>
 aN v11 Sz fun v12 Sz=>
 bO v12 fun v13=>
 x.C dN [t0,v13] Sz fun v14 Sz=>
 eV x x.most m0 t0 t1 t4 v4 zI Sz K) (K (.tuple ⟨[]⟩) Sz)
theorem rI (x:EV) (m0:Nat) (t0 t1 t4:Value) (Sz:St) (K:VK):jH x (m0+1) t0 t1 t4 Sz K=lO x m0 t0 t1 t4 Sz K:=by kernel_rfl
noncomputable def gM (x:EV) (m1:Nat) (m0:Nat) (t0 t1 t4 t5 t6:Value) (Sz:St) (K:VK):Bool:=
 aC 2 t5 fun v0=>
 aN v0 Sz fun v1 Sz=>
 bO v1 fun v2=>
 aK PP .lss 3 t6 v2 fun v3=>
 gD v3 (aC 2 t5 fun v4=>
 aN v4 Sz fun v5 Sz=>
 dC 1 v5 t6 fun v6=>
 aN v6 Sz fun v7 Sz=>
 x.C fZ [t0,v7] Sz fun v8 Sz=>
 aK PP .add 3 t6 (.int .i64 (.ofNat 1)) fun v9=>
 eV x m1 m0 t0 t1 t4 t5 v9 Sz K) (aC 3 t5 fun v10=>
 aN v10 Sz fun v11 Sz=>
 x.C fZ [t0,v11] Sz fun v12 Sz=>
 aC 4 t5 fun v13=>
 aN v13 Sz fun v14 Sz=>
 x.C nS [t0,v14] Sz fun v15 Sz=>
 aC 5 t5 fun v16=>
 aN v16 Sz fun v17 Sz=>
 x.C nS [t0,v17] Sz fun v18 Sz=>
 aC 6 t5 fun v19=>
 aN v19 Sz fun v20 Sz=>
 x.C fZ [t0,v20] Sz fun v21 Sz=>
 aC 7 t5 fun v22=>
 aN v22 Sz fun v23 Sz=>
 aM 4 1 [zF] [(0,1,v23)] Sz fun v24 Sz=>
 x.C fN [t0,v24] Sz fun v25 Sz=>
 aK PP .add 3 t4 (.int .i64 (.ofNat 1)) fun v26=>
 jH x m0 t0 t1 v26 Sz K)
theorem kY (x:EV) (m1:Nat) (m0:Nat) (t0 t1 t4 t5 t6:Value) (Sz:St) (K:VK):eV x (m1+1) m0 t0 t1 t4 t5 t6 Sz K=gM x m1 m0 t0 t1 t4 t5 t6 Sz K:=by kernel_rfl
noncomputable def gI (x:EV) (m:Nat) (t1 t4 t5:Value) (Sz:St) (K:VK):Bool:=gJ PP dD nV (x.E PP) [.r,.r,.r,.r,.r,.r,.r,.r,.r,.r,.r,.l,.r,.d] m [] [t1,t4,t5] Sz K
noncomputable def KI (x:EV) (a0:Value) (Sz:St) (K:VK):Bool:=
 iP 49 a0 Sz fun v0 Sz=>
 dK [zS,zF] [] fun v1=>
 iP 77 v1 Sz fun v2 Sz=>
 aC 0 v0 fun v3=>
 aN v3 Sz fun v4 Sz=>
 aM 3 1 [zI] [(0,1,v4)] Sz fun v5 Sz=>
 x.C bR [v2,v5] Sz fun v6 Sz=>
 aC 1 v0 fun v7=>
 aN v7 Sz fun v8 Sz=>
 x.C qB [v2,v8] Sz fun v9 Sz=>
 aC 2 v0 fun v10=>
 aR 20 v10 Sz fun v11 Sz=>
 x.C mG [v2,v11] Sz fun v12 Sz=>
 aC 22 v0 fun v13=>
 aN v13 Sz fun v14 Sz=>
 x.C qB [v2,v14] Sz fun v15 Sz=>
 aC 23 v0 fun v16=>
 aN v16 Sz fun v17 Sz=>
 x.C mD [v2,v17] Sz fun v18 Sz=>
 aC 24 v0 fun v19=>
 aN v19 Sz fun v20 Sz=>
 x.C mD [v2,v20] Sz fun v21 Sz=>
 aC 25 v0 fun v22=>
 aN v22 Sz fun v23 Sz=>
 aM 4 1 [zF] [(0,1,v23)] Sz fun v24 Sz=>
 x.C fN [v2,v24] Sz fun v25 Sz=>
 aC 26 v0 fun v26=>
 aN v26 Sz fun v27 Sz=>
 x.C gU [v2,v27] Sz fun v28 Sz=>
 aC 27 v0 fun v29=>
 aN v29 Sz fun v30 Sz=>
 bO v30 fun v31=>
 x.C dN [v2,v31] Sz fun v32 Sz=>
 gI x x.most v0 v2 zI Sz K
theorem Ab (x:EV) (a0:Value) (Sz:St) (K:VK):hZ PP dD nV (x.E PP) [a0] Sz K=KI x a0 Sz K:=by kernel_rfl
noncomputable def jE (x:EV) (m0:Nat) (t1 t4 t5:Value) (Sz:St) (K:VK):Bool:=
 aC 27 t1 fun v0=>
 aN v0 Sz fun v1 Sz=>
 bO v1 fun v2=>
 aK PP .lss 3 t5 v2 fun v3=>
 gD v3 (aC 27 t1 fun v4=>
 aN v4 Sz fun v5 Sz=>
 dC 3 v5 t5 fun v6=>
 aC 0 v6 fun v7=>
 aN v7 Sz fun v8 Sz=>
 aC 27 t1 fun v9=>
 aN v9 Sz fun v10 Sz=>
 dC 3 v10 t5 fun v11=>
 aC 1 v11 fun v12=>
 aN v12 Sz fun v13 Sz=>
 aN v12 Sz fun v14 Sz=>
 aU v14 v13 (aN v9 Sz fun v15 Sz=>
 aU v15 v10 (aN v7 Sz fun v16 Sz=>
 aU v16 v8 (aN v4 Sz fun v17 Sz=>
 aU v17 v5 (cR (aM 3 2 [zI] [(0,1,v8),(1,1,v13)] Sz fun v18 Sz=>
 true) (aM 3 2 [zI] [(0,1,v8),(1,1,v13)] Sz fun v19 Sz=>
 x.C bR [t4,v19] Sz fun v20 Sz=>
 aN v9 Sz fun v21 Sz=>
 aU v21 v10 (aN v4 Sz fun v22 Sz=>
 aU v22 v5 (aC 27 t1 fun v23=>
 aN v23 Sz fun v24 Sz=>
 dC 3 v24 t5 fun v25=>
 aC 2 v25 fun v26=>
 aN v26 Sz fun v27 Sz=>
 x.C fZ [t4,v27] Sz fun v28 Sz=>
 aK PP .add 3 t5 (.int .i64 (.ofNat 1)) fun v29=>
 gI x m0 t1 t4 v29 Sz K))) false))))) (aC 28 t1 fun v30=>
 aN v30 Sz fun v31 Sz=>
 x.C nU [t4,v31] Sz fun v32 Sz=>
 aC 29 t1 fun v33=>
 aN v33 Sz fun v34 Sz=>
 x.C gU [t4,v34] Sz fun v35 Sz=>
 bI PP t4 fun v36=>
 aC 1 v36 fun v37=>
 aN v37 Sz fun v38 Sz=>
 gD v38 (K (.tuple ⟨[zS,(.int .i64 (.ofNat 40))]⟩) Sz) (bI PP t4 fun v39=>
 aC 0 v39 fun v40=>
 aN v40 Sz fun v41 Sz=>
 K (.tuple ⟨[v41,zI]⟩) Sz))
theorem nX (x:EV) (m0:Nat) (t1 t4 t5:Value) (Sz:St) (K:VK):gI x (m0+1) t1 t4 t5 Sz K=jE x m0 t1 t4 t5 Sz K:=by kernel_rfl
end Go.Am
set_option maxRecDepth 100000
namespace Go.Am
open Go.RowKit Go.MapKept Go.Proofs Go.Proofs.jB
variable{most:Nat}
theorem aFq{α:Type}{l:List α} (h:l.length=8):∃c0 c1 c2 c3 c4 c5 c6 c7:α,l=[c0,c1,c2,c3,c4,c5,c6,c7]:=by
 match l,h with
 | [c0,c1,c2,c3,c4,c5,c6,c7],_=>exact⟨_,_,_,_,_,_,_,_,rfl⟩
section
variable{n b:Nat}{Sz:St}{st:pE}{K:VK}
theorem US (hM:140737488355329<most) (ho:sK Sz b st){v:Value}{es:List (List D)} (hv:Rd Sz (Row1 b) (.list aD) v (.l es)) (hl:st.1.length+cost (.list aD) (.l es)<=vO) (hK:∀S',sK S' b (encR (.list aD) (.l es) st)->cM (Row1 b) Sz S' (Row1 b)->K (.tuple ⟨[]⟩) S'=true):
 (X most (n+6)).C gU [pt b 0,v] Sz K=true:=by
 rw [aT (by rfl),KG];unfold yF;rw [bP];have h1:=hv.bD.1;simp only [bH]at h1;refine list_fn (n:=n+1) hM ho hv hl (L:=fun m i Sz=>jH (X most (n+5)) m (pt b 0) v (.int .i64 (.ofNat i)) Sz K) (fun _ i m S1z st1 h f w l k=>?_) fun m S1z w f=>?_
 ·rw [rI]
  unfold lO;have hv1:=hv.fr f;obtain⟨b2,o2,hst,hix⟩:=hv1.at h 8 rfl;obtain⟨cs,hcs,hld⟩:=hst.ldf 8 rfl;rw [hv1.bD.2,aG,show decide (i<bH (.l es))=true from decide_eq_true (show i<es.length from h),bS,hix,hld S1z (.refl _ _)];obtain⟨d0,d1,d2,d3,d4,d5,d6,d7,hds⟩:=aFq (show es[i].length=8 from hst.len);rw [hds]at hcs l k;refine WY hcs rfl rfl w.C1 fun S2z x2 s2=>?_;have w2:=w.ext x2;obtain⟨u0,r0,g0⟩:=s2.fK 0 (it:= .int) rfl;obtain⟨u1,r1,g1⟩:=s2.fK 1 (it:= .int) rfl;obtain⟨u2,r2,g2⟩:=s2.fK 2 (it:= .list cO) rfl;obtain⟨u3,r3,g3⟩:=s2.fK 3 (it:= .nums) rfl;obtain⟨u4,r4,g4⟩:=s2.fK 4 (it:= .list bB) rfl;obtain⟨u5,r5,g5⟩:=s2.fK 5 (it:= .list bB) rfl;obtain⟨u6,r6,g6⟩:=s2.fK 6 (it:= .nums) rfl;obtain⟨u7,r7,g7⟩:=s2.fK 7 (it:= .is) rfl;have q2:Rd S2z (Row1 b) (.list cO) u2 d2:=r2;have q4:Rd S2z (Row1 b) (.list bB) u4 d4:=r4;have q5:Rd S2z (Row1 b) (.list bB) u5 d5:=r5;obtain⟨es2,rfl⟩:=q2.iW;obtain⟨es4,rfl⟩:=q4.iW;obtain⟨es5,rfl⟩:=q5.iW
  have hc:costs aD [d0,d1,.l es2,d3,.l es4,.l es5,d6,d7]=16+cost (.list cO) (.l es2)+8194+cost (.list bB) (.l es4)+cost (.list bB) (.l es5)+8194+8:=by
   simp only [aD,costs,jP,nT,LH];omega
  rw [hc]at l;simp only [aB,Nat.zero_add];simp only [Nat.zero_add]at g0 g1 g2 g3 g4 g5 g6 g7;rw [g0 S2z (.refl _ _),g1 S2z (.refl _ _)];refine DI (n:=n+2) (vs:=[u0,u1]) hM w2 (.cons r0 (.cons r1 .nil)) (by simp) (by simp) (by simp only [List.length_cons,List.length_nil];omega) fun S3z st3 e3 l3 w3 f3=>?_;simp only [List.length_cons,List.length_nil]at l3;rw [g2 S3z f3];have h2:=q2.bD.1;simp only [bH]at h2;rw [bP];refine list_fn (Sz:=S3z) (n:=n+1) hM w3 (q2.fr f3) (by omega) (L:=fun m1 i2 Sz=>eV (X most (n+5)) m1 m (pt b 0) v (.int .i64 (.ofNat i)) (pt S1z.n 0) (.int .i64 (.ofNat i2)) Sz K) (fun _ i2 m1 S4 st4 h4 f4 w4 l4 k4=>?_) fun m1 S4 w4 f4=>?_
  ·rw [kY]
   unfold gM;have f24:=f3.trans f4;have hv4:=q2.fr f24;simp only [aB,Nat.zero_add];rw [g2 S4 f24,hv4.bD.2,aG,show decide (i2<bH (.l es2))=true from decide_eq_true (show i2<es2.length from h4),bS,g2 S4 f24];obtain⟨u,d,ed,hu,b3,o3,hix3,aAq⟩:=Rr hv4 h4;rw [hix3,aAq];have hcc:costs cO es2[i2]=8194:=by rw [ed];show cost .nums d+0=_;rw [nT]
   refine Aa (n:=n+2) hM w4 hu (by omega) fun S5 XA e5 l5 w5 f5=>?_;rw [aP _ _ _ _ (by omega)];refine k4 S5 ?_ f5;rw [ed];have:XA=fJ cO [d] st4:=e5;rw [<-this];exact w5
  ·rw [kY]
   unfold gM;have f24:=f3.trans f4;have hv4:=q2.fr f24;have ll4:=mB (.list cO) (.l es2) st3;obtain⟨st4,e4⟩:∃st4,st4=encR (.list cO) (.l es2) st3:=⟨_,rfl⟩;rw [<-e4]at w4 ll4;simp only [aB,Nat.zero_add];rw [g2 S4 f24,hv4.bD.2,aG,show decide (es2.length<bH (.l es2))=false from decide_eq_false (Nat.lt_irrefl _),cA,g3 S4 f24];refine Aa (n:=n+2) hM w4 (r3.fr f24) (by omega) fun S5 XA e5 l5 w5 f5=>?_;have f25:=f24.trans f5;rw [g4 S5 f25];refine Rv (n:=n) hM w5 (q4.fr f25) (by omega) fun S6 w6 f6=>?_;have ll6:=mB (.list bB) (.l es4) XA;obtain⟨Ws,e6⟩:∃Ws,Ws=encR (.list bB) (.l es4) XA:=⟨_,rfl⟩;rw [<-e6]at w6 ll6;have f26:=f25.trans f6;rw [g5 S6 f26];refine Rv (n:=n) hM w6 (q5.fr f26) (by omega) fun S7 w7 f7=>?_;have ll7:=mB (.list bB) (.l es5) Ws;obtain⟨st7,e7⟩:∃st7,st7=encR (.list bB) (.l es5) Ws:=⟨_,rfl⟩;rw [<-e7]at w7 ll7;have f27:=f26.trans f7;rw [g6 S7 f27];refine Aa (n:=n+2) hM w7 (r6.fr f27) (by omega) fun S8 st8 e8 l8 w8 f8=>?_;have f28:=f27.trans f8;rw [g7 S8 f28];refine WZ (n:=n+1) (vs:=[u7]) hM w8 (.cons (r7.fr f28) .nil) (by simp) (by simp) (by simp only [List.length_cons,List.length_nil];omega) fun S9 st9 e9 l9 w9 f9=>?_;rw [aP _ _ _ _ (by omega)];refine k S9 ?_ (((x2.fr _).trans f28).trans f9);have:st9=fJ aD [d0,d1,.l es2,d3,.l es4,.l es5,d6,d7] st1:=by rw [e9,e8,e7,e6,e5,e4,e3];rfl
   rw [<-this];exact w9
 ·rw [rI]
  unfold lO;rw [(hv.fr f).bD.2,aG,show decide (es.length<bH (.l es))=false from decide_eq_false (Nat.lt_irrefl _),cA];exact hK S1z w f
end
set_option maxRecDepth 100000
variable{most:Nat}
theorem aFr{α:Type}{l:List α} (h:l.length=5):∃c0 c1 c2 c3 c4:α,l=[c0,c1,c2,c3,c4]:=by
 match l,h with
 | [c0,c1,c2,c3,c4],_=>exact⟨_,_,_,_,_,rfl⟩
theorem qO.sub{Sz:St}{C:Nat->Prop}{its:List It}{b o:Nat}{ds:List D} (h:qO Sz C its b o ds) (k len:Nat) (hk:k+len<=its.length):qO Sz C ((its.drop k).take len) b (o+k) ((ds.drop k).take len):=by
 obtain⟨vs,e,ck,h1,h2,h3,h4⟩:=h.row;have hl:=h.len;have el:((its.drop k).take len).length=len:=by rw [List.length_take,List.length_drop];omega
 refine⟨⟨vs,e,ck,h1,h2,by rw [el];omega,fun j it v d a c g=>?_⟩,h.lt,h.nC,by rw [el,List.length_take,List.length_drop];omega⟩;have hj:j<len:=by have:=(List.getElem?_eq_some_iff.1 a).1;omega
 rw [List.getElem?_take,if_pos hj,List.getElem?_drop]at a g;exact h4 (k+j) it v d a (by rw [<-Nat.add_assoc];exact c) g
section
variable{n b:Nat}{Sz:St}{st:pE}{K:VK}
theorem aAr (hM:140737488355329<most) (ho:sK Sz b st){cs:List Value}{ds:List D} (hv:lL Sz (Row1 b) bZ cs ds) (hl:st.1.length+costs bZ ds<=vO) (hK:∀S',sK S' b (fJ bZ ds st)->cM (Row1 b) Sz S' (Row1 b)->K (.tuple ⟨[]⟩) S'=true):
 (X most (n+6)).C mG [pt b 0,.agg ⟨cs⟩] Sz K=true:=by
 rw [aT (by rfl),QX];unfold CR;obtain⟨d0,d1,d2,d3,d4,d5,d6,d7,d8,d9,d10,d11,d12,d13,Vm,Vn,Vo,Vp,d18,Vq,rfl⟩:=Gr (show ds.length=20 from hv.jK);refine aCO hv ho.C1 fun S1z x1 s1=>?_;have w1:=ho.ext x1;obtain⟨u0,r0,g0⟩:=s1.fK 0 (it:= .int) rfl;obtain⟨u1,r1,g1⟩:=s1.fK 1 (it:= .text) rfl;obtain⟨u2,r2,g2⟩:=s1.fK 2 (it:= .is) rfl;obtain⟨u18,r18,g18⟩:=s1.fK 18 (it:= .list bC) rfl;obtain⟨u19,r19,g19⟩:=s1.fK 19 (it:= .list aV) rfl;have q18:Rd S1z (Row1 b) (.list bC) u18 d18:=r18;have q19:Rd S1z (Row1 b) (.list aV) u19 Vq:=r19;obtain⟨KH,rfl⟩:=q18.iW;obtain⟨aCh,rfl⟩:=q19.iW;have sb:qO S1z (Row1 b) bQ Sz.n (0+3) [d3,d4,d5,d6,d7,d8,d9,d10,d11,d12,d13,Vm,Vn,Vo,Vp]:=s1.sub 3 15 (by decide);obtain⟨cb,hcb,aAs⟩:=sb.ldf 15 rfl
 have q17:∃SX,Vp= .l SX:=by
  obtain⟨u,r,_⟩:=sb.fK 14 (it:= .list aW) rfl;have r':Rd S1z (Row1 b) (.list aW) u Vp:=r;exact r'.iW
 obtain⟨SX,rfl⟩:=q17
 have hc:costs bZ [d0,d1,d2,d3,d4,d5,d6,d7,d8,d9,d10,d11,d12,d13,Vm,Vn,Vo,.l SX,.l KH,.l aCh]=8+2050+8+56+4100+16+16+2050+cost (.list aW) (.l SX)+cost (.list bC) (.l KH)+cost (.list aV) (.l aCh):=by
  simp only [bZ,costs,jP,nR,LH];omega
 rw [hc]at hl;simp only [aB,Nat.zero_add];simp only [Nat.zero_add]at g0 g1 g2 g18 g19 aAs;rw [g0 S1z (.refl _ _)];refine DI (n:=n+2) (vs:=[u0]) hM w1 (.cons r0 .nil) (by simp) (by simp) (by simp only [List.length_cons,List.length_nil];omega) fun S2z st2 e2 l2 w2 f2=>?_;simp only [List.length_cons,List.length_nil]at l2;rw [g1 S2z f2];refine SV (n:=n+2) (vs:=[u1]) hM w2 (.cons (r1.fr f2) .nil) (by simp) (by simp) (by simp only [List.length_cons,List.length_nil];omega) fun S3z st3 e3 l3 w3 f3=>?_;simp only [List.length_cons,List.length_nil]at l3;have f13:=f2.trans f3;rw [g2 S3z f13];refine WZ (n:=n+1) (vs:=[u2]) hM w3 (.cons (r2.fr f13) .nil) (by simp) (by simp) (by simp only [List.length_cons,List.length_nil];omega) fun S4 st4 e4 l4 w4 f4=>?_;simp only [List.length_cons,List.length_nil]at l4;have f14:=f13.trans f4;rw [aAs S4 f14];refine WY (hcb.fr f14) rfl rfl w4.C1 fun S5 x5 s5=>?_;have w5:=w4.ext x5;have f15:=f14.trans (x5.fr (Row1 b));obtain⟨t0,p0,y0⟩:=s5.fK 0 (it:= .int) rfl;obtain⟨t1,p1,y1⟩:=s5.fK 1 (it:= .int) rfl;obtain⟨t2,p2,y2⟩:=s5.fK 2 (it:= .int) rfl;obtain⟨t3,p3,y3⟩:=s5.fK 3 (it:= .int) rfl;obtain⟨t4,p4,y4⟩:=s5.fK 4 (it:= .int) rfl;obtain⟨t5,p5,y5⟩:=s5.fK 5 (it:= .int) rfl;obtain⟨t6,p6,y6⟩:=s5.fK 6 (it:= .int) rfl;obtain⟨t7,p7,y7⟩:=s5.fK 7 (it:= .text) rfl;obtain⟨t8,p8,y8⟩:=s5.fK 8 (it:= .text) rfl;obtain⟨t9,p9,y9⟩:=s5.fK 9 (it:= .int) rfl;obtain⟨t10,p10,y10⟩:=s5.fK 10 (it:= .int) rfl;obtain⟨t11,p11,y11⟩:=s5.fK 11 (it:= .is) rfl;obtain⟨t12,p12,y12⟩:=s5.fK 12 (it:= .is) rfl;obtain⟨t13,p13,y13⟩:=s5.fK 13 (it:= .text) rfl;obtain⟨t14,p14,y14⟩:=s5.fK 14 (it:= .list aW) rfl;have p14:Rd S5 (Row1 b) (.list aW) t14 (.l SX):=p14;simp only [aB,Nat.zero_add];simp only [Nat.zero_add]at y0 y1 y2 y3 y4 y5 y6 y7 y8 y9 y10 y11 y12 y13 y14;rw [y0 S5 (.refl _ _),y1 S5 (.refl _ _),y2 S5 (.refl _ _),y3 S5 (.refl _ _),y4 S5 (.refl _ _),y5 S5 (.refl _ _),y6 S5 (.refl _ _)];refine DI (n:=n+2) (vs:=[t0,t1,t2,t3,t4,t5,t6]) hM w5 (.cons p0 (.cons p1 (.cons p2 (.cons p3 (.cons p4 (.cons p5 (.cons p6 .nil))))))) (by simp) (by simp) (by simp only [List.length_cons,List.length_nil];omega) fun S6 Ws e6 l6 w6 f6=>?_;simp only [List.length_cons,List.length_nil]at l6;rw [y7 S6 f6,y8 S6 f6];refine SV (n:=n+2) (vs:=[t7,t8]) hM w6 (.cons (p7.fr f6) (.cons (p8.fr f6) .nil)) (by simp) (by simp) (by simp only [List.length_cons,List.length_nil];omega) fun S7 st7 e7 l7 w7 f7=>?_;simp only [List.length_cons,List.length_nil]at l7;have f57:=f6.trans f7;rw [y9 S7 f57,y10 S7 f57];refine DI (n:=n+2) (vs:=[t9,t10]) hM w7 (.cons (p9.fr f57) (.cons (p10.fr f57) .nil)) (by simp) (by simp) (by simp only [List.length_cons,List.length_nil];omega) fun S8 st8 e8 l8 w8 f8=>?_;simp only [List.length_cons,List.length_nil]at l8;have f58:=f57.trans f8;rw [y11 S8 f58,y12 S8 f58];refine WZ (n:=n+1) (vs:=[t11,t12]) hM w8 (.cons (p11.fr f58) (.cons (p12.fr f58) .nil)) (by simp) (by simp) (by simp only [List.length_cons,List.length_nil];omega) fun S9 st9 e9 l9 w9 f9=>?_;simp only [List.length_cons,List.length_nil]at l9;have f59:=f58.trans f9;rw [y13 S9 f59];refine SV (n:=n+2) (vs:=[t13]) hM w9 (.cons (p13.fr f59) .nil) (by simp) (by simp) (by simp only [List.length_cons,List.length_nil];omega) fun S10 Pb e10 l10 w10 f10=>?_;simp only [List.length_cons,List.length_nil]at l10;have f5a:=f59.trans f10;have h14:=p14.bD.1;simp only [bH]at h14;rw [y14 S10 f5a,bP];refine list_fn (Sz:=S10) (n:=n+1) hM w10 (p14.fr f5a) (by omega) (L:=fun m i S'=>fF (X most (n+5)) m (pt b 0) (pt Sz.n 0) (pt S4.n 0) (.int .i64 (.ofNat i)) S' K) (fun _ i m S11 SY h f11 JZ l11 k=>?_) fun m S11 JZ f11=>?_
 ·rw [lM]
  unfold hH;have f5b:=f5a.trans f11;have hv1:=p14.fr f5b;obtain⟨b2,o2,hst,hix⟩:=hv1.at h 5 rfl;obtain⟨cs2,hcs2,Kz⟩:=hst.ldf 5 rfl;simp only [aH,aB,Nat.zero_add];rw [y14 S11 f5b,hv1.bD.2,aG,show decide (i<bH (.l SX))=true from decide_eq_true (show i<SX.length from h),bS,y14 S11 f5b,hix,Kz S11 (.refl _ _)];obtain⟨c0,c1,c2,c3,c4,hds⟩:=aFr (show SX[i].length=5 from hst.len);rw [hds]at hcs2 l11 k;have hc2:costs aW [c0,c1,c2,c3,c4]=2075:=by simp only [aW,costs,LI,jP,nR]
  rw [hc2]at l11;refine WY hcs2 rfl rfl JZ.C1 fun S12 x12 s12=>?_;have w12:=JZ.ext x12;obtain⟨v0,z0,a0⟩:=s12.fK 0 (it:= .int) rfl;obtain⟨v1,z1,a1⟩:=s12.fK 1 (it:= .int) rfl;obtain⟨v2,z2,a2⟩:=s12.fK 2 (it:= .kind) rfl;obtain⟨v3,z3,a3⟩:=s12.fK 3 (it:= .int) rfl;obtain⟨v4,z4,a4⟩:=s12.fK 4 (it:= .text) rfl;simp only [aB,Nat.zero_add];simp only [Nat.zero_add]at a0 a1 a2 a3 a4;rw [a0 S12 (.refl _ _),a1 S12 (.refl _ _)];refine DI (n:=n+2) (vs:=[v0,v1]) hM w12 (.cons z0 (.cons z1 .nil)) (by simp) (by simp) (by simp only [List.length_cons,List.length_nil];omega) fun S13 La e13 l13 HA Bv=>?_;simp only [List.length_cons,List.length_nil]at l13;rw [HA.Ow,a2 S13 Bv];refine aAp (n:=n+4) HA (z2.fr Bv) (by omega) fun S14 aFs e14 l14 RJ aDS=>?_;have k14:=Bv.trans aDS;rw [a3 S14 k14];refine DI (n:=n+2) (vs:=[v3]) hM RJ (.cons (z3.fr k14) .nil) (by simp) (by simp) (by simp only [List.length_cons,List.length_nil];omega) fun S15 aHy e15 l15 VU aG5=>?_;simp only [List.length_cons,List.length_nil]at l15;have k15:=k14.trans aG5;rw [a4 S15 k15];refine SV (n:=n+2) (vs:=[v4]) hM VU (.cons (z4.fr k15) .nil) (by simp) (by simp) (by simp only [List.length_cons,List.length_nil];omega) fun S16 aG6 e16 l16 w16 aG7=>?_;rw [aP _ _ _ _ (by omega)];refine k S16 ?_ (((x12.fr _).trans k15).trans aG7);have:aG6=fJ aW [c0,c1,c2,c3,c4] SY:=by rw [e16,e15,e14,e13];rfl
  rw [<-this];exact w16
 ·rw [lM]
  unfold hH;have f5b:=f5a.trans f11;have hv1:=p14.fr f5b;have aG8:=mB (.list aW) (.l SX) Pb;obtain⟨SY,e11⟩:∃SY,SY=encR (.list aW) (.l SX) Pb:=⟨_,rfl⟩;rw [<-e11]at JZ aG8;have f1b:=f15.trans f5b;simp only [aH,aB,Nat.zero_add];have h18:=q18.bD.1;simp only [bH]at h18;rw [y14 S11 f5b,hv1.bD.2,aG,show decide (SX.length<bH (.l SX))=false from decide_eq_false (Nat.lt_irrefl _),cA,g18 S11 f1b,bP];refine list_fn (Sz:=S11) (n:=n+1) hM JZ (q18.fr f1b) (by omega) (L:=fun m i S'=>eW (X most (n+5)) m (pt b 0) (pt Sz.n 0) (.int .i64 (.ofNat i)) S' K) (fun _ i m S12 Bw h f12 w12 l12 k=>?_) fun m S12 w12 f12=>?_
  ·rw [kZ]
   unfold gN;have f1c:=f1b.trans f12;have hv2:=q18.fr f1c;obtain⟨b2,o2,hst,hix⟩:=hv2.at h 2 rfl;obtain⟨v0,z0,a0⟩:=hst.fK 0 (it:= .int) rfl;obtain⟨v1,z1,a1⟩:=hst.fK 1 (it:= .text) rfl;have hdl:KH[i].length=2:=hst.len
   have hds:KH[i]=[ats KH[i] 0,ats KH[i] 1]:=by
    match q:KH[i],hdl with
    | [d0,d1],_=>rfl
   have hcc:costs bC KH[i]=2058:=by
    rw [hds];show cost .int _+(cost .text _+0)=_;rw [jP,nR]
   simp only [aB,Nat.zero_add];rw [g18 S12 f1c,hv2.bD.2,aG,show decide (i<bH (.l KH))=true from decide_eq_true (show i<KH.length from h),bS,g18 S12 f1c,hix,aB,a0 S12 (.refl _ _)];refine DI (n:=n+2) (vs:=[v0]) hM w12 (.cons z0 .nil) (by simp) (by simp) (by simp only [List.length_cons,List.length_nil];omega) fun S13 La e13 l13 HA Bv=>?_;simp only [List.length_cons,List.length_nil]at l13;rw [g18 S13 (f1c.trans Bv),hix,aB,a1 S13 Bv];refine SV (n:=n+2) (vs:=[v1]) hM HA (.cons (z1.fr Bv) .nil) (by simp) (by simp) (by simp only [List.length_cons,List.length_nil];omega) fun S14 aFs e14 l14 RJ aDS=>?_;rw [aP _ _ _ _ (by omega)];refine k S14 ?_ (Bv.trans aDS);rw [hds];have:aFs=fJ bC [ats KH[i] 0,ats KH[i] 1] Bw:=by rw [e14,e13];rfl
   rw [<-this];exact RJ
  ·rw [kZ]
   unfold gN;have f1c:=f1b.trans f12;have hv2:=q18.fr f1c;have aG9:=mB (.list bC) (.l KH) SY;obtain⟨Bw,e12⟩:∃Bw,Bw=encR (.list bC) (.l KH) SY:=⟨_,rfl⟩;rw [<-e12]at w12 aG9;simp only [aB,Nat.zero_add];rw [g18 S12 f1c,hv2.bD.2,aG,show decide (KH.length<bH (.l KH))=false from decide_eq_false (Nat.lt_irrefl _),cA,g19 S12 f1c];refine Rw (n:=n) hM w12 (q19.fr f1c) (by omega) fun S13 HA Bv=>?_;refine hK S13 ?_ (((x1.fr _).trans f1c).trans Bv)
   have:encR (.list aV) (.l aCh) Bw=fJ bZ [d0,d1,d2,d3,d4,d5,d6,d7,d8,d9,d10,d11,d12,d13,Vm,Vn,Vo,.l SX,.l KH,.l aCh] st:=by
    rw [e12,e11,e10,e9,e8,e7,e6,e4,e3,e2];rfl
   rw [<-this];exact HA
end
set_option maxRecDepth 100000
variable{most:Nat}
theorem aFt{α:Type}{l:List α} (h:l.length=3):∃c0 c1 c2:α,l=[c0,c1,c2]:=by
 match l,h with
 | [c0,c1,c2],_=>exact⟨_,_,_,rfl⟩
theorem Dm:∀(its dJ:List It) (ds ds':List D),its.length=ds.length->costs (its++dJ) (ds++ds')=costs its ds+costs dJ ds':=by
 intro its;induction its with
 | nil=>intro dJ ds ds' h;match ds,h with | [],_=>show costs dJ ds'=0+_;omega
 | cons it its ih=>
  intro dJ ds ds' h
  match ds,h with
  | d::ds,h=>
   show cost it d+costs (its++dJ) (ds++ds')=cost it d+costs its ds+_;rw [ih dJ ds ds' (by simpa using h)];omega
theorem Pc (it:It) (its:List It) (d:D) (ds:List D):costs (it::its) (d::ds)=cost it d+costs its ds:=rfl
theorem Vr:costs [] []=0:=rfl
section
variable{n:Nat}{Sz:St}{K:VK}
set_option maxHeartbeats 400000 in
theorem SZ (hM:140737488355329<most){C0:Nat->Prop}{cs:List Value}{ds:List D} (hv:lL Sz C0 bN cs ds) (hl:costs bN ds<=vO) (hK:∀S',aZ Sz S'->K (.tuple ⟨[.string ⟨⟨(encode ds).1⟩⟩,.int .i64 (.ofNat (encode ds).2)]⟩) S'=true):
 (X most (n+7)).C nV [.agg ⟨cs⟩] Sz K=true:=by
 rw [aT (by rfl),Ab];unfold KI;obtain⟨d0,d1,d2,d3,d4,d5,d6,d7,d8,d9,d10,d11,d12,d13,Vm,Vn,Vo,Vp,d18,Vq,d20,d21,d22,d23,d24,d25,d26,d27,d28,d29,rfl⟩:=aAg (show ds.length=30 from hv.jK);have hv0:lL Sz (fun _=>False) bN cs _:=hv.fr ⟨Nat.le_refl _,fun _ _ _=>rfl,fun _ h=>h.elim⟩;refine aCO hv0 (fun _ h=>h.elim) fun S1z x1 s1=>?_;rw [dR,eI rfl];obtain⟨S2z,e2⟩:∃S2z,S2z=S1z.new (.cells [.string ⟨⟨[]⟩⟩,.bool false] 77 .exact):=⟨_,rfl⟩;obtain⟨b,eb⟩:∃b,b=S1z.n:=⟨_,rfl⟩;have x12:aZ S1z S2z:=by rw [e2];exact .new S1z _
 have w2:sK S2z b ([],false):=⟨by rw [e2,eb];exact Nat.lt_succ_self _,by rw [e2,eb];exact aF⟩;rw [<-e2,<-eb]
 have s2:qO S2z (Row1 b) bN Sz.n 0 [d0,d1,d2,d3,d4,d5,d6,d7,d8,d9,d10,d11,d12,d13,Vm,Vn,Vo,Vp,d18,Vq,d20,d21,d22,d23,d24,d25,d26,d27,d28,d29]:=
  s1.fr ⟨x12.n,fun i hi _=>x12.same i hi,fun i hi=> .inr (by show S1z.n<=i;have:i=b:=hi;omega)⟩
 have xb:Sz.n<=b:=by rw [eb];exact x1.n
 clear s1 hv hv0;obtain⟨u0,r0,g0⟩:=s2.fK 0 (it:= .int) rfl;obtain⟨u1,r1,g1⟩:=s2.fK 1 (it:= .list bA) rfl;obtain⟨u22,r22,g22⟩:=s2.fK 22 (it:= .list bA) rfl;obtain⟨u23,r23,g23⟩:=s2.fK 23 (it:= .list aY) rfl;obtain⟨u24,r24,g24⟩:=s2.fK 24 (it:= .list aY) rfl;obtain⟨u25,r25,g25⟩:=s2.fK 25 (it:= .is) rfl;obtain⟨u26,r26,g26⟩:=s2.fK 26 (it:= .list aD) rfl;obtain⟨u27,r27,g27⟩:=s2.fK 27 (it:= .list bE) rfl;obtain⟨u28,r28,g28⟩:=s2.fK 28 (it:= .list aV) rfl;obtain⟨u29,r29,g29⟩:=s2.fK 29 (it:= .list aD) rfl;have q1:Rd S2z (Row1 b) (.list bA) u1 d1:=r1;have q22:Rd S2z (Row1 b) (.list bA) u22 d22:=r22;have q23:Rd S2z (Row1 b) (.list aY) u23 d23:=r23;have q24:Rd S2z (Row1 b) (.list aY) u24 d24:=r24;have q26:Rd S2z (Row1 b) (.list aD) u26 d26:=r26;have q27:Rd S2z (Row1 b) (.list bE) u27 d27:=r27;have q28:Rd S2z (Row1 b) (.list aV) u28 d28:=r28;have q29:Rd S2z (Row1 b) (.list aD) u29 d29:=r29;clear r1 r22 r23 r24 r26 r27 r28 r29;obtain⟨es1,rfl⟩:=q1.iW;obtain⟨Pd,rfl⟩:=q22.iW;obtain⟨Pe,rfl⟩:=q23.iW;obtain⟨Pf,rfl⟩:=q24.iW;obtain⟨Pg,rfl⟩:=q26.iW;obtain⟨VV,rfl⟩:=q27.iW;obtain⟨Ph,rfl⟩:=q28.iW;obtain⟨Vs,rfl⟩:=q29.iW;have sb:qO S2z (Row1 b) bZ Sz.n (0+2) [d2,d3,d4,d5,d6,d7,d8,d9,d10,d11,d12,d13,Vm,Vn,Vo,Vp,d18,Vq,d20,d21]:=s2.sub 2 20 (by decide);obtain⟨cb,hcb,aAs⟩:=sb.ldf 20 rfl
 have hc:costs bN [d0,.l es1,d2,d3,d4,d5,d6,d7,d8,d9,d10,d11,d12,d13,Vm,Vn,Vo,Vp,d18,Vq,d20,d21,.l Pd,.l Pe,.l Pf,d25,.l Pg,.l VV,.l Ph,.l Vs]=
  8+cost (.list bA) (.l es1)+costs bZ [d2,d3,d4,d5,d6,d7,d8,d9,d10,d11,d12,d13,Vm,Vn,Vo,Vp,d18,Vq,d20,d21]+cost (.list bA) (.l Pd)+cost (.list aY) (.l Pe)+cost (.list aY) (.l Pf)+8+cost (.list aD) (.l Pg)+cost (.list bE) (.l VV)+cost (.list aV) (.l Ph)+cost (.list aD) (.l Vs):=by
  have ei:bN=[.int,.list bA]++(bZ++[.list bA,.list aY,.list aY,.is,.list aD,.list bE,.list aV,.list aD]):=rfl;have ed:[d0,D.l es1,d2,d3,d4,d5,d6,d7,d8,d9,d10,d11,d12,d13,Vm,Vn,Vo,Vp,d18,Vq,d20,d21,D.l Pd,D.l Pe,D.l Pf,d25,D.l Pg,D.l VV,D.l Ph,D.l Vs]=[d0,D.l es1]++([d2,d3,d4,d5,d6,d7,d8,d9,d10,d11,d12,d13,Vm,Vn,Vo,Vp,d18,Vq,d20,d21]++[D.l Pd,D.l Pe,D.l Pf,d25,D.l Pg,D.l VV,D.l Ph,D.l Vs]):=rfl;rw [ei,ed];rw [Dm _ _ _ _ rfl,Dm _ _ _ _ rfl];simp only [Pc,Vr,jP,LH,Nat.add_zero];simp only [Nat.add_assoc]
 rw [hc]at hl;simp only [aB,Nat.zero_add];simp only [Nat.zero_add]at g0 g1 g22 g23 g24 g25 g26 g27 g28 g29 aAs;rw [g0 S2z (.refl _ _)];refine DI (n:=n+3) (vs:=[u0]) hM w2 (.cons r0 .nil) (by simp) (by simp) (by simp only [List.length_cons,List.length_nil];omega) fun S3z st3 e3 l3 w3 f3=>?_;simp only [List.length_cons,List.length_nil]at l3;rw [g1 S3z f3];refine Ky (n:=n+1) hM w3 (q1.fr f3) (by omega) fun S4 w4 f4=>?_;have l4:=mB (.list bA) (.l es1) st3;obtain⟨st4,e4⟩:∃st4,st4=encR (.list bA) (.l es1) st3:=⟨_,rfl⟩;rw [<-e4]at w4 l4;have f24:=f3.trans f4;rw [aAs S4 f24];refine aAr (n:=n) hM w4 (hcb.fr f24) (by omega) fun S5 w5 f5=>?_;have l5:=wS bZ [d2,d3,d4,d5,d6,d7,d8,d9,d10,d11,d12,d13,Vm,Vn,Vo,Vp,d18,Vq,d20,d21] st4;obtain⟨XA,e5⟩:∃XA,XA=fJ bZ [d2,d3,d4,d5,d6,d7,d8,d9,d10,d11,d12,d13,Vm,Vn,Vo,Vp,d18,Vq,d20,d21] st4:=⟨_,rfl⟩;rw [<-e5]at w5 l5;have f25:=f24.trans f5;rw [g22 S5 f25];refine Ky (n:=n+1) hM w5 (q22.fr f25) (by omega) fun S6 w6 f6=>?_;have l6:=mB (.list bA) (.l Pd) XA;obtain⟨Ws,e6⟩:∃Ws,Ws=encR (.list bA) (.l Pd) XA:=⟨_,rfl⟩;rw [<-e6]at w6 l6;have f26:=f25.trans f6;rw [g23 S6 f26];refine Kx (n:=n+1) hM w6 (q23.fr f26) (by omega) fun S7 w7 f7=>?_;have l7:=mB (.list aY) (.l Pe) Ws;obtain⟨st7,e7⟩:∃st7,st7=encR (.list aY) (.l Pe) Ws:=⟨_,rfl⟩;rw [<-e7]at w7 l7;have f27:=f26.trans f7;rw [g24 S7 f27];refine Kx (n:=n+1) hM w7 (q24.fr f27) (by omega) fun S8 w8 f8=>?_;have l8:=mB (.list aY) (.l Pf) st7;obtain⟨st8,e8⟩:∃st8,st8=encR (.list aY) (.l Pf) st7:=⟨_,rfl⟩;rw [<-e8]at w8 l8;have f28:=f27.trans f8;rw [g25 S8 f28];refine WZ (n:=n+2) (vs:=[u25]) hM w8 (.cons (r25.fr f28) .nil) (by simp) (by simp) (by simp only [List.length_cons,List.length_nil];omega) fun S9 st9 e9 l9 w9 f9=>?_;simp only [List.length_cons,List.length_nil]at l9;have f29:=f28.trans f9;rw [g26 S9 f29];refine US (n:=n) hM w9 (q26.fr f29) (by omega) fun S10 w10 f10=>?_;have l10:=mB (.list aD) (.l Pg) st9;obtain⟨Pb,e10⟩:∃Pb,Pb=encR (.list aD) (.l Pg) st9:=⟨_,rfl⟩;rw [<-e10]at w10 l10;have f2a:=f29.trans f10;have h27:=q27.bD.1;simp only [bH]at h27;rw [g27 S10 f2a,bP];refine list_fn (Sz:=S10) (n:=n+2) hM w10 (q27.fr f2a) (by omega) (L:=fun m i S'=>gI (X most (n+6)) m (pt Sz.n 0) (pt b 0) (.int .i64 (.ofNat i)) S' K) (fun _ i m S11 SY h f11 JZ l11 k=>?_) fun m S11 JZ f11=>?_
 ·rw [nX]
  unfold jE;have Vt:=f2a.trans f11;have hv1:=q27.fr Vt;obtain⟨b2,o2,hst,hix⟩:=hv1.at h 3 rfl;obtain⟨v0,z0,a0⟩:=hst.fK 0 (it:= .int) rfl;obtain⟨v1,z1,a1⟩:=hst.fK 1 (it:= .int) rfl;obtain⟨v2,z2,a2⟩:=hst.fK 2 (it:= .nums) rfl;obtain⟨c0,c1,c2,hds⟩:=aFt (show VV[i].length=3 from hst.len);rw [hds]at l11 k z0 z1 z2;have hc2:costs bE [c0,c1,c2]=8210:=by simp only [bE,costs,jP,nT]
  rw [hc2]at l11;have sv:gF u27 u27=true:=hv1.pB;have sv0:gF v0 v0=true:=z0.pB;have sv1:gF v1 v1=true:=z1.pB;simp only [aH,aB,Nat.zero_add];rw [g27 S11 Vt,hv1.bD.2,aG,show decide (i<bH (.l VV))=true from decide_eq_true (show i<VV.length from h),bS,g27 S11 Vt,hix,aB,a0 S11 (.refl _ _),g27 S11 Vt,hix,aB,a1 S11 (.refl _ _),a1 S11 (.refl _ _),aQ sv1,g27 S11 Vt,aQ sv,a0 S11 (.refl _ _),aQ sv0,g27 S11 Vt,aQ sv]
  have hb:∀K:VK,aM 3 2 [zI] [(0,1,v0),(1,1,v1)] S11 K=K (.slice (some ⟨S11.n,0,none⟩) 2 2) (S11.new (.cells [v0,v1] 3 .exact)):=fun K=>gP 3 zI [v0,v1] (fun v hv=>by
   rcases List.mem_cons.1 hv with e | hv
   ·rw [e];exact z0.one
   ·rcases List.mem_cons.1 hv with e | hv
    ·rw [e];exact z1.one
    ·cases hv) S11 K
  rw [hb,fX];refine DI (n:=n+3) (vs:=[v0,v1]) hM JZ (.cons z0 (.cons z1 .nil)) (by simp) (by simp) (by simp only [List.length_cons,List.length_nil];omega) fun S12 Bw e12 l12 w12 f12=>?_;simp only [List.length_cons,List.length_nil]at l12;have f2c:=Vt.trans f12;rw [g27 S12 f2c,aQ sv,g27 S12 f2c,aQ sv,g27 S12 f2c,hix,aB,a2 S12 f12];refine Aa (n:=n+3) hM w12 (z2.fr f12) (by omega) fun S13 La e13 l13 HA f13=>?_;rw [aP _ _ _ _ (by omega)];refine k S13 ?_ (f12.trans f13);have:La=fJ bE [c0,c1,c2] SY:=by rw [e13,e12];rfl
  rw [<-this];exact HA
 ·rw [nX]
  unfold jE;have Vt:=f2a.trans f11;have hv1:=q27.fr Vt;have l11:=mB (.list bE) (.l VV) Pb;obtain⟨SY,e11⟩:∃SY,SY=encR (.list bE) (.l VV) Pb:=⟨_,rfl⟩;rw [<-e11]at JZ l11;simp only [aH,aB,Nat.zero_add];rw [g27 S11 Vt,hv1.bD.2,aG,show decide (VV.length<bH (.l VV))=false from decide_eq_false (Nat.lt_irrefl _),cA,g28 S11 Vt];refine Rw (n:=n+1) hM JZ (q28.fr Vt) (by omega) fun S12 w12 f12=>?_;have l12:=mB (.list aV) (.l Ph) SY;obtain⟨Bw,e12⟩:∃Bw,Bw=encR (.list aV) (.l Ph) SY:=⟨_,rfl⟩;rw [<-e12]at w12 l12;have f2c:=Vt.trans f12;rw [g29 S12 f2c];refine US (n:=n) hM w12 (q29.fr f2c) (by omega) fun S13 HA f13=>?_;obtain⟨La,e13⟩:∃La,La=encR (.list aD) (.l Vs) Bw:=⟨_,rfl⟩;rw [<-e13]at HA
  have et:La=fJ bN [d0,.l es1,d2,d3,d4,d5,d6,d7,d8,d9,d10,d11,d12,d13,Vm,Vn,Vo,Vp,d18,Vq,d20,d21,.l Pd,.l Pe,.l Pf,d25,.l Pg,.l VV,.l Ph,.l Vs] ([],false):=by
   rw [e13,e12,e11,e10,e9,e8,e7,e6,e5,e4,e3];rfl
  have f2d:=f2c.trans f13;have hx:aZ Sz S13:=f2d.ext (x1.trans x12) fun i hi=>by have:i=b:=hi;omega
  have hk:=hK S13 hx;rw [Oq,<-et]at hk;rw [HA.ld1,iX];cases q:La.2 with
  | true=>rw [q]at hk;exact hk
  | false=>
   rw [q]at hk;rw [if_neg (by simp),HA.Ow];exact hk
end
end Go.Am
set_option maxRecDepth 100000
namespace Go.Am
noncomputable def QZ (x:EV) (a0:Value) (Sz:St) (K:VK):Bool:=
 dK [zS,zI] [(0,1,a0)] fun v0=>
 iP 177 v0 Sz fun v1 Sz=>
 K v1 Sz
theorem Hd (x:EV) (a0:Value) (Sz:St) (K:VK):hZ PP dD GM (x.E PP) [a0] Sz K=QZ x a0 Sz K:=by kernel_rfl
noncomputable def yG (x:EV) (a0 a1:Value) (Sz:St) (K:VK):Bool:=
 bI PP a0 fun v0=>
 aC 0 v0 fun v1=>
 cQ 1 v1 zS Sz fun Sz=>
 bI PP a0 fun v2=>
 aC 1 v2 fun v3=>
 cQ 1 v3 a1 Sz fun Sz=>
 K a1 Sz
theorem KJ (x:EV) (a0 a1:Value) (Sz:St) (K:VK):hZ PP dD eQ (x.E PP) [a0,a1] Sz K=yG x a0 a1 Sz K:=by kernel_rfl
noncomputable def iJ (x:EV) (m:Nat) (t0 t1 t6 t7:Value) (Sz:St) (K:VK):Bool:=gJ PP dD dX (x.E PP) [.r,.r,.r,.r,.l,.r,.d] m [] [t0,t1,t6,t7] Sz K
noncomputable def BL (x:EV) (a0 a1:Value) (Sz:St) (K:VK):Bool:=
 bI PP a0 fun v0=>
 aC 1 v0 fun v1=>
 aN v1 Sz fun v2 Sz=>
 aK PP .neq 37 v2 zI fun v3=>
 gD v3 (bI PP a0 fun v4=>
 aC 1 v4 fun v5=>
 aN v5 Sz fun v6 Sz=>
 K (.tuple ⟨[(.int .u64 (.ofNat 0)),v6]⟩) Sz) (bI PP a0 fun v7=>
 aC 0 v7 fun v8=>
 aN v8 Sz fun v9 Sz=>
 nI v9 fun v10=>
 aK PP .lss 3 v10 a1 fun v11=>
 gD v11 (x.C eQ [a0,(.int .i64 (.ofNat 8))] Sz fun v12 Sz=>
 K (.tuple ⟨[(.int .u64 (.ofNat 0)),v12]⟩) Sz) (iJ x x.most a0 a1 (.int .u64 (.ofNat 0)) zI Sz K))
theorem NT (x:EV) (a0 a1:Value) (Sz:St) (K:VK):hZ PP dD dX (x.E PP) [a0,a1] Sz K=BL x a0 a1 Sz K:=by kernel_rfl
noncomputable def kU (x:EV) (m0:Nat) (t0 t1 t6 t7:Value) (Sz:St) (K:VK):Bool:=
 aK PP .lss 3 t7 t1 fun v0=>
 gD v0 (aK PP .mul 57 t6 (.int .u64 (.ofNat 256)) fun v1=>
 bI PP t0 fun v2=>
 aC 0 v2 fun v3=>
 aN v3 Sz fun v4 Sz=>
 YM v4 t7 fun v5=>
 AW .u64 v5 fun v6=>
 aK PP .add 57 v1 v6 fun v7=>
 aK PP .add 3 t7 (.int .i64 (.ofNat 1)) fun v8=>
 iJ x m0 t0 t1 v7 v8 Sz K) (bI PP t0 fun v9=>
 aC 0 v9 fun v10=>
 aN v10 Sz fun v11 Sz=>
 wA PP 9 v11 (some t1) none none Sz fun v12=>
 bI PP t0 fun v13=>
 aC 0 v13 fun v14=>
 cQ 1 v14 v12 Sz fun Sz=>
 K (.tuple ⟨[t6,zI]⟩) Sz)
theorem qC (x:EV) (m0:Nat) (t0 t1 t6 t7:Value) (Sz:St) (K:VK):iJ x (m0+1) t0 t1 t6 t7 Sz K=kU x m0 t0 t1 t6 t7 Sz K:=by kernel_rfl
noncomputable def zK (x:EV) (a0:Value) (Sz:St) (K:VK):Bool:=
 x.C dX [a0,(.int .i64 (.ofNat 1))] Sz fun v0 Sz=>
 fB 0 v0 fun v1=>
 fB 1 v0 fun v2=>
 AW .u8 v1 fun v3=>
 K (.tuple ⟨[v3,v2]⟩) Sz
theorem LW (x:EV) (a0:Value) (Sz:St) (K:VK):hZ PP dD rY (x.E PP) [a0] Sz K=zK x a0 Sz K:=by kernel_rfl
noncomputable def BM (x:EV) (a0:Value) (Sz:St) (K:VK):Bool:=
 x.C dX [a0,(.int .i64 (.ofNat 8))] Sz fun v0 Sz=>
 fB 0 v0 fun v1=>
 fB 1 v0 fun v2=>
 K (.tuple ⟨[v1,v2]⟩) Sz
theorem NU (x:EV) (a0:Value) (Sz:St) (K:VK):hZ PP dD tN (x.E PP) [a0] Sz K=BM x a0 Sz K:=by kernel_rfl
noncomputable def BN (x:EV) (a0:Value) (Sz:St) (K:VK):Bool:=
 x.C dX [a0,(.int .i64 (.ofNat 8))] Sz fun v0 Sz=>
 fB 0 v0 fun v1=>
 fB 1 v0 fun v2=>
 AW .i64 v1 fun v3=>
 K (.tuple ⟨[v3,v2]⟩) Sz
theorem NV (x:EV) (a0:Value) (Sz:St) (K:VK):hZ PP dD tO (x.E PP) [a0] Sz K=BN x a0 Sz K:=by kernel_rfl
noncomputable def yH (x:EV) (a0 a1:Value) (Sz:St) (K:VK):Bool:=
 x.C dX [a0,(.int .i64 (.ofNat 8))] Sz fun v0 Sz=>
 fB 0 v0 fun v1=>
 fB 1 v0 fun v2=>
 aK PP .neq 37 v2 zI fun v3=>
 gD v3 (K (.tuple ⟨[zI,v2]⟩) Sz) (aK PP .lss 3 a1 zI fun v4=>
 shut x.most (aA false v4 (fun k=>k v1 Sz) Sz fun v5 Sz=>
 shut x.most (aA false v4 (fun k=>k a1 Sz) Sz fun v6 Sz=>
 shut x.most (aA false v4 (fun k=>AW .u64 v6 fun v7=>
 k v7 Sz) Sz fun v8 Sz=>
 shut x.most (aA false v4 (fun k=>aK PP .gtr 57 v5 v8 fun v9=>
 k v9 Sz) Sz fun v10 Sz=>
 shut x.most (bY v4 (.bool true) v10 fun v11=>
 gD v11 (x.C eQ [a0,(.int .i64 (.ofNat 4))] Sz fun v12 Sz=>
 K (.tuple ⟨[zI,v12]⟩) Sz) (AW .i64 v1 fun v13=>
 K (.tuple ⟨[v13,zI]⟩) Sz)))))))
theorem KK (x:EV) (a0 a1:Value) (Sz:St) (K:VK):hZ PP dD mH (x.E PP) [a0,a1] Sz K=yH x a0 a1 Sz K:=by kernel_rfl
noncomputable def zM (x:EV) (a0:Value) (Sz:St) (K:VK):Bool:=
 x.C dX [a0,(.int .i64 (.ofNat 2))] Sz fun v0 Sz=>
 fB 0 v0 fun v1=>
 fB 1 v0 fun v2=>
 aK PP .neq 37 v2 zI fun v3=>
 gD v3 (K (.tuple ⟨[zS,v2]⟩) Sz) (aK PP .gtr 57 v1 (.int .u64 (.ofNat 2048)) fun v4=>
 gD v4 (x.C eQ [a0,(.int .i64 (.ofNat 40))] Sz fun v5 Sz=>
 K (.tuple ⟨[zS,v5]⟩) Sz) (AW .i64 v1 fun v6=>
 bI PP a0 fun v7=>
 aC 0 v7 fun v8=>
 aN v8 Sz fun v9 Sz=>
 nI v9 fun v10=>
 aK PP .gtr 3 v6 v10 fun v11=>
 gD v11 (x.C eQ [a0,(.int .i64 (.ofNat 8))] Sz fun v12 Sz=>
 K (.tuple ⟨[zS,v12]⟩) Sz) (bI PP a0 fun v13=>
 aC 0 v13 fun v14=>
 aN v14 Sz fun v15 Sz=>
 wA PP 9 v15 none (some v1) none Sz fun v16=>
 bI PP a0 fun v17=>
 aC 0 v17 fun v18=>
 aN v18 Sz fun v19 Sz=>
 wA PP 9 v19 (some v1) none none Sz fun v20=>
 bI PP a0 fun v21=>
 aC 0 v21 fun v22=>
 cQ 1 v22 v20 Sz fun Sz=>
 K (.tuple ⟨[v16,zI]⟩) Sz)))
theorem LX (x:EV) (a0:Value) (Sz:St) (K:VK):hZ PP dD rZ (x.E PP) [a0] Sz K=zM x a0 Sz K:=by kernel_rfl
noncomputable def gQ (x:EV) (m:Nat) (t0 t4 t6 t7:Value) (Sz:St) (K:VK):Bool:=gJ PP dD nD (x.E PP) [.r,.r,.r,.r,.r,.l,.r,.d] m [] [t0,t4,t6,t7] Sz K
noncomputable def zN (x:EV) (a0:Value) (Sz:St) (K:VK):Bool:=
 x.C dX [a0,(.int .i64 (.ofNat 2))] Sz fun v0 Sz=>
 fB 0 v0 fun v1=>
 fB 1 v0 fun v2=>
 aK PP .neq 37 v2 zI fun v3=>
 gD v3 (K (.tuple ⟨[zL,v2]⟩) Sz) (aK PP .gtr 57 v1 (.int .u64 (.ofNat 1024)) fun v4=>
 gD v4 (x.C eQ [a0,(.int .i64 (.ofNat 40))] Sz fun v5 Sz=>
 K (.tuple ⟨[zL,v5]⟩) Sz) (gQ x x.most a0 v1 zL zI Sz K))
theorem LY (x:EV) (a0:Value) (Sz:St) (K:VK):hZ PP dD nD (x.E PP) [a0] Sz K=zN x a0 Sz K:=by kernel_rfl
noncomputable def jQ (x:EV) (m0:Nat) (t0 t4 t6 t7:Value) (Sz:St) (K:VK):Bool:=
 AW .i64 t4 fun v0=>
 aK PP .lss 3 t7 v0 fun v1=>
 gD v1 (x.C dX [t0,(.int .i64 (.ofNat 8))] Sz fun v2 Sz=>
 fB 0 v2 fun v3=>
 fB 1 v2 fun v4=>
 aK PP .neq 37 v4 zI fun v5=>
 gD v5 (K (.tuple ⟨[zL,v4]⟩) Sz) (aM 57 1 [(.int .u64 (.ofNat 0))] [(0,1,v3)] Sz fun v6 Sz=>
 kJ PP 57 1 8 t6 v6 Sz fun v7 Sz=>
 aK PP .add 3 t7 (.int .i64 (.ofNat 1)) fun v8=>
 gQ x m0 t0 t4 v7 v8 Sz K)) (K (.tuple ⟨[t6,zI]⟩) Sz)
theorem oK (x:EV) (m0:Nat) (t0 t4 t6 t7:Value) (Sz:St) (K:VK):gQ x (m0+1) t0 t4 t6 t7 Sz K=jQ x m0 t0 t4 t6 t7 Sz K:=by kernel_rfl
noncomputable def BO (x:EV) (a0:Value) (Sz:St) (K:VK):Bool:=
 bI PP a0 fun v0=>
 aC 1 v0 fun v1=>
 aN v1 Sz fun v2 Sz=>
 aK PP .eql 37 v2 zI fun v3=>
 shut x.most (aA true v3 (fun k=>k a0 Sz) Sz fun v4 Sz=>
 shut x.most (aA true v3 (fun k=>bI PP v4 fun v5=>
 k v5 Sz) Sz fun v6 Sz=>
 shut x.most (aA true v3 (fun k=>aC 0 v6 fun v7=>
 k v7 Sz) Sz fun v8 Sz=>
 shut x.most (aA true v3 (fun k=>aN v8 Sz fun v9 Sz=>
 k v9 Sz) Sz fun v10 Sz=>
 shut x.most (aA true v3 (fun k=>aK PP .neq 9 v10 zS fun v11=>
 k v11 Sz) Sz fun v12 Sz=>
 shut x.most (bY v3 v12 zF fun v13=>
 gD v13 (x.C eQ [a0,(.int .i64 (.ofNat 10))] Sz fun v14 Sz=>
 K v14 Sz) (bI PP a0 fun v15=>
 aC 1 v15 fun v16=>
 aN v16 Sz fun v17 Sz=>
 K v17 Sz)))))))
theorem NW (x:EV) (a0:Value) (Sz:St) (K:VK):hZ PP dD pG (x.E PP) [a0] Sz K=BO x a0 Sz K:=by kernel_rfl
noncomputable def EZ (x:EV) (a0:Value) (Sz:St) (K:VK):Bool:=
 iP 108 a0 Sz fun v0 Sz=>
 aC 0 v0 fun v1=>
 aN v1 Sz fun v2 Sz=>
 x.C tO [v2] Sz fun v3 Sz=>
 fB 0 v3 fun v4=>
 fB 1 v3 fun v5=>
 K v4 Sz
theorem TA (x:EV) (a0:Value) (Sz:St) (K:VK):hZ PP dD aI (x.E PP) [a0] Sz K=EZ x a0 Sz K:=by kernel_rfl
noncomputable def MS (x:EV) (a0:Value) (Sz:St) (K:VK):Bool:=
 iP 108 a0 Sz fun v0 Sz=>
 aC 0 v0 fun v1=>
 aN v1 Sz fun v2 Sz=>
 x.C mH [v2,(.int .i64 (.ofNat 1))] Sz fun v3 Sz=>
 fB 0 v3 fun v4=>
 fB 1 v3 fun v5=>
 aK PP .eql 3 v4 (.int .i64 (.ofNat 1)) fun v6=>
 K v6 Sz
theorem Bx (x:EV) (a0:Value) (Sz:St) (K:VK):hZ PP dD jI (x.E PP) [a0] Sz K=MS x a0 Sz K:=by kernel_rfl
noncomputable def HI (x:EV) (a0:Value) (Sz:St) (K:VK):Bool:=
 iP 108 a0 Sz fun v0 Sz=>
 aC 0 v0 fun v1=>
 aN v1 Sz fun v2 Sz=>
 x.C rZ [v2] Sz fun v3 Sz=>
 fB 0 v3 fun v4=>
 fB 1 v3 fun v5=>
 K v4 Sz
theorem VX (x:EV) (a0:Value) (Sz:St) (K:VK):hZ PP dD cU (x.E PP) [a0] Sz K=HI x a0 Sz K:=by kernel_rfl
noncomputable def HK (x:EV) (a0:Value) (Sz:St) (K:VK):Bool:=
 iP 108 a0 Sz fun v0 Sz=>
 aC 0 v0 fun v1=>
 aN v1 Sz fun v2 Sz=>
 x.C nD [v2] Sz fun v3 Sz=>
 fB 0 v3 fun v4=>
 fB 1 v3 fun v5=>
 K v4 Sz
theorem VZ (x:EV) (a0:Value) (Sz:St) (K:VK):hZ PP dD cP (x.E PP) [a0] Sz K=HK x a0 Sz K:=by kernel_rfl
noncomputable def CS (x:EV) (a0:Value) (Sz:St) (K:VK):Bool:=
 iP 108 a0 Sz fun v0 Sz=>
 aC 0 v0 fun v1=>
 aN v1 Sz fun v2 Sz=>
 x.C tN [v2] Sz fun v3 Sz=>
 fB 0 v3 fun v4=>
 fB 1 v3 fun v5=>
 K v4 Sz
theorem QY (x:EV) (a0:Value) (Sz:St) (K:VK):hZ PP dD iK (x.E PP) [a0] Sz K=CS x a0 Sz K:=by kernel_rfl
noncomputable def HG (x:EV) (a0:Value) (Sz:St) (K:VK):Bool:=
 iP 108 a0 Sz fun v0 Sz=>
 aC 0 v0 fun v1=>
 aN v1 Sz fun v2 Sz=>
 x.C rY [v2] Sz fun v3 Sz=>
 fB 0 v3 fun v4=>
 fB 1 v3 fun v5=>
 K v4 Sz
theorem VW (x:EV) (a0:Value) (Sz:St) (K:VK):hZ PP dD kL (x.E PP) [a0] Sz K=HG x a0 Sz K:=by kernel_rfl
noncomputable def HJ (x:EV) (a0:Value) (Sz:St) (K:VK):Bool:=
 iP 108 a0 Sz fun v0 Sz=>
 aC 0 v0 fun v1=>
 aN v1 Sz fun v2 Sz=>
 x.C mH [v2,(.int .i64 (.ofNat 1048576))] Sz fun v3 Sz=>
 fB 0 v3 fun v4=>
 fB 1 v3 fun v5=>
 K v4 Sz
theorem VY (x:EV) (a0:Value) (Sz:St) (K:VK):hZ PP dD dH (x.E PP) [a0] Sz K=HJ x a0 Sz K:=by kernel_rfl
noncomputable def HL (x:EV) (a0:Value) (Sz:St) (K:VK):Bool:=
 iP 108 a0 Sz fun v0 Sz=>
 aC 0 v0 fun v1=>
 aN v1 Sz fun v2 Sz=>
 bI PP v2 fun v3=>
 aC 1 v3 fun v4=>
 aN v4 Sz fun v5 Sz=>
 aK PP .eql 37 v5 zI fun v6=>
 K v6 Sz
theorem WA (x:EV) (a0:Value) (Sz:St) (K:VK):hZ PP dD dO (x.E PP) [a0] Sz K=HL x a0 Sz K:=by kernel_rfl
end Go.Am
set_option maxRecDepth 100000
namespace Go.Am
open Go.RowKit Go.MapKept Go.Proofs Go.Proofs.jB
variable{most:Nat}
structure Ry (Sz:St) (rr:Nat) (st:RS):Prop where
 lt:rr<Sz.n
 obj:Sz.obj rr=some (.cells [.string ⟨⟨st.1⟩⟩,.int .i64 (.ofNat st.2)] 177 .exact)
 len:st.1.length<=1000000
theorem Ry.ext{Sz S':St}{rr:Nat}{st:RS} (h:Ry Sz rr st) (hx:aZ Sz S'):Ry S' rr st:=⟨Nat.lt_of_lt_of_le h.lt hx.n,by rw [hx.same rr h.lt];exact h.obj,h.len⟩
theorem Ry.Ow{Sz:St}{rr:Nat}{st:RS} (h:Ry Sz rr st) (K:VK):aN (pt rr 0) Sz K=K (.string ⟨⟨st.1⟩⟩) Sz:=cB h.obj rfl K
theorem Ry.ld1{Sz:St}{rr:Nat}{st:RS} (h:Ry Sz rr st) (K:VK):aN (pt rr 1) Sz K=K (.int .i64 (.ofNat st.2)) Sz:=cB h.obj rfl K
theorem Ry.set0{Sz:St}{rr:Nat}{st:RS} (h:Ry Sz rr st) (l:List UInt8) (hl:l.length<=st.1.length) (k:St->Bool):∃S',Ry S' rr (l,st.2)/\cM (Row1 rr) Sz S' (Row1 rr)/\cQ 1 (pt rr 0) (.string ⟨⟨l⟩⟩) Sz k=k S':=
 ⟨_,⟨by rw [gG];exact h.lt,by rw [aX];rfl,Nat.le_trans hl h.len⟩,⟨by rw [gG];exact Nat.le_refl _,fun i _ hb=>aJ hb,fun _ h=> .inl h⟩,fI h.obj (by simp) rfl k⟩
theorem Ry.set1{Sz:St}{rr:Nat}{st:RS} (h:Ry Sz rr st) (e:Nat) (k:St->Bool):∃S',Ry S' rr (st.1,e)/\cM (Row1 rr) Sz S' (Row1 rr)/\cQ 1 (pt rr 1) (.int .i64 (.ofNat e)) Sz k=k S':=
 ⟨_,⟨by rw [gG];exact h.lt,by rw [aX];rfl,h.len⟩,⟨by rw [gG];exact Nat.le_refl _,fun i _ hb=>aJ hb,fun _ h=> .inl h⟩,fI h.obj (by simp) rfl k⟩
theorem UT{P:Program}{t:TypeId} (ht:P.underlying t=some .string) (l:List UInt8) (m:Nat) (hm:m<=l.length) (j:IntKind) (Sz:St) (K:Value->Bool):wA P t (.string ⟨⟨l⟩⟩) (some (.int j (.ofNat m))) none none Sz K=K (.string ⟨⟨l.drop m⟩⟩):=by
 unfold wA;simp only [ht];rw [cV];unfold BY Mi;simp only [ED hm,ED (Nat.le_refl l.length)];rw [fL,if_pos (Nat.le_refl _),eH,if_pos (by rw [List.take_length];exact hm),List.take_length]
theorem aAt{l:List UInt8}{i:Nat} (h:i<l.length) (K:Value->Bool):YM (.string ⟨⟨l⟩⟩) (.int .i64 (.ofNat i)) K=K (.int .u8 (.ofNat l[i].toNat)):=by
 show xJ l i (fun b=>dW b.toNat fun n=>K (.int .u8 (.ofNat n)))=_;rw [El,List.getElem?_eq_getElem h];show dW _ _=_;rw [dE]
theorem Pi (t:TypeId) (a b:Nat) (h:a*b<18446744073709551616) (K:Value->Bool):aK PP .mul t (.int .u64 (.ofNat a)) (.int .u64 (.ofNat b)) K=K (.int .u64 (.ofNat (a*b))):=by
 rw [tG _ _ _ _ _ _ (by simp) (by simp)];show tD .u64 (.ofNat (a*b)) K=_;unfold tD;rw [iO,ER h]
theorem Pj (t:TypeId) (a b:Nat) (h:a+b<18446744073709551616) (K:Value->Bool):aK PP .add t (.int .u64 (.ofNat a)) (.int .u64 (.ofNat b)) K=K (.int .u64 (.ofNat (a+b))):=by
 rw [tG _ _ _ _ _ _ (by simp) (by simp)];show tD .u64 (.ofNat (a+b)) K=_;unfold tD;rw [iO,ER h]
theorem Ga (l:List UInt8) (b:UInt8):be (l++[b])=be l*256+b.toNat:=by unfold be;rw [List.foldl_append];rfl
section
variable{n rr:Nat}{Sz:St}{st:RS}{K:VK}
theorem EY (h:Ry Sz rr st){e:Nat} (hK:∀S',Ry S' rr ([],e)->cM (Row1 rr) Sz S' (Row1 rr)->K (.int .i64 (.ofNat e)) S'=true):(X most (n+1)).C eQ [pt rr 0,.int .i64 (.ofNat e)] Sz K=true:=by
 rw [aT (by rfl),KJ];unfold yG;simp only [aH,aB,Nat.zero_add];obtain⟨S1z,h1,f1,e1⟩:=h.set0 [] (Nat.zero_le _) (fun Sz=>cQ 1 (pt rr 1) (.int .i64 (.ofNat e)) Sz fun Sz=>K (.int .i64 (.ofNat e)) Sz);rw [e1];obtain⟨S2z,h2,f2,e2⟩:=h1.set1 e (fun Sz=>K (.int .i64 (.ofNat e)) Sz);rw [e2];exact hK S2z h2 (f1.trans f2)
theorem aAu{k:Nat} (hk:k<=8) (hkl:k<=st.1.length) (h:Ry Sz rr st) (h0:st.2=0) (hK:∀S',Ry S' rr (st.1.drop k,0)->cM (Row1 rr) Sz S' (Row1 rr)->K (.tuple ⟨[.int .u64 (.ofNat (be (st.1.take k))),.int .i64 (.ofNat 0)]⟩) S'=true):
 ∀(r i m:Nat),i+r=k->r<m->iJ (X most n) m (pt rr 0) (.int .i64 (.ofNat k)) (.int .u64 (.ofNat (be (st.1.take i)))) (.int .i64 (.ofNat i)) Sz K=true:=by
 intro r;induction r with
 | zero=>
  intro i m hi hm;obtain⟨m,rfl⟩:=Nat.exists_eq_succ_of_ne_zero (show m≠0 by omega);obtain rfl:i=k:=by omega
  rw [qC];unfold kU;simp only [aH,aB,Nat.zero_add];rw [aG,show decide (i<i)=false from decide_eq_false (Nat.lt_irrefl _),cA,h.Ow,UT aB5 _ _ hkl];obtain⟨S1z,h1,f1,e1⟩:=h.set0 (st.1.drop i) (by simp) (fun Sz=>K (.tuple ⟨[.int .u64 (.ofNat (be (st.1.take i))),.int .i64 (.ofNat 0)]⟩) Sz);rw [e1];exact hK S1z (by rw [h0]at h1;exact h1) f1
 | succ r ih=>
  intro i m hi hm;obtain⟨m,rfl⟩:=Nat.exists_eq_succ_of_ne_zero (show m≠0 by omega);have hlt:i<st.1.length:=by omega
  rw [qC];unfold kU;simp only [aH,aB,Nat.zero_add];have hb:=MH (st.1.take i);have hl:(st.1.take i).length=i:=by rw [List.length_take];omega
  rw [hl]at hb;have hp:256 ^ i<=256 ^ 7:=Nat.pow_le_pow_right (by decide) (by omega);have h7:(256:Nat) ^ 7=72057594037927936:=by decide
  have hu:st.1[i].toNat<256:=st.1[i].toNat_lt;rw [aG,show decide (i<k)=true from decide_eq_true (by omega),bS,Pi _ _ _ (by omega),h.Ow,aAt hlt,oP,ER (by omega),Pj _ _ _ (by omega),aP _ _ _ _ (by omega)];have:=ih (i+1) m (by omega) (by omega);rw [List.take_succ_eq_append_getElem hlt,Ga]at this;exact this
theorem Ac (hM:1000<most){k:Nat} (hk:k<=8) (h:Ry Sz rr st) (hK:∀S',Ry S' rr (gR k st).2->cM (Row1 rr) Sz S' (Row1 rr)->K (.tuple ⟨[.int .u64 (.ofNat (gR k st).1),.int .i64 (.ofNat (gR k st).2.2)]⟩) S'=true):
 (X most (n+2)).C dX [pt rr 0,.int .i64 (.ofNat k)] Sz K=true:=by
 rw [aT (by rfl),NT];unfold BL;unfold gR at hK;simp only [aH,aB,Nat.zero_add];rw [h.ld1,dM,iX];by_cases e:st.2=0
 ·rw [if_neg (by simp [e]),h.Ow,zV,aG,iX]
  rw [if_neg (by simp [e])]at hK;by_cases hl:k<=st.1.length
  ·rw [if_neg (by simp;omega),bP]
   rw [if_pos hl]at hK;have:=aAu (most:=most) (n:=n+1) (K:=K) hk hl h e hK k 0 most (by omega) (by omega);exact this
  ·rw [if_pos (by simp;omega)]
   rw [if_neg hl]at hK;exact EY (n:=n) h fun S' h' f'=>hK S' h' f'
 ·rw [if_pos (by simp [e]),h.ld1]
  rw [if_pos e]at hK;exact hK Sz h (.refl _ _)
end
set_option maxRecDepth 100000
variable{most:Nat}
theorem aDT (m:Nat) (st:RS):fD m st=if(gR 8 st).2.2≠0 then(0,(gR 8 st).2)else if(gR 8 st).1<=m then gR 8 st else(0,[],4):=by
 unfold fD gR;by_cases e:st.2=0
 ·simp only [ne_eq,e,not_true_eq_false,if_false]
  by_cases h:8<=st.1.length
  ·simp only [if_pos h,not_true_eq_false,if_false]
  ·simp only [if_neg h];simp
 ·simp [e]
theorem aDU (st:RS):IB st=if(gR 2 st).2.2≠0 then([],(gR 2 st).2)else if(gR 2 st).1<=2048 then(if(gR 2 st).1<=(gR 2 st).2.1.length then((gR 2 st).2.1.take (gR 2 st).1,(gR 2 st).2.1.drop (gR 2 st).1,0)else([],[],8))else([],[],40):=by
 unfold IB gR;by_cases e:st.2=0
 ·simp only [ne_eq,e,not_true_eq_false,if_false]
  by_cases h:2<=st.1.length
  ·simp only [if_pos h,not_true_eq_false,if_false]
  ·simp only [if_neg h];simp
 ·simp [e]
theorem Pk (k:Nat) (hk:k<=8) (st:RS):(gR k st).1<18446744073709551616:=by
 unfold gR;split
 ·show 0<_;omega
 ·split
  ·rename_i h
   have:=MH (st.1.take k);have h2:(st.1.take k).length<=8:=by rw [List.length_take];omega
   have h3:256 ^ (st.1.take k).length<=256 ^ 8:=Nat.pow_le_pow_right (by decide) h2;have h4:(256:Nat) ^ 8=18446744073709551616:=by decide
   show be _<_;omega
  ·show 0<_;omega
theorem Hb (st:RS):(gR 1 st).1<256:=by
 unfold gR;split
 ·show 0<_;omega
 ·split
  ·rename_i h
   have:=MH (st.1.take 1);have h2:(st.1.take 1).length=1:=by rw [List.length_take];omega
   rw [h2]at this;show be _<_;omega
  ·show 0<_;omega
section
variable{n rr:Nat}{Sz:St}{st:RS}{K:VK}
theorem aCi (hM:1000<most) (h:Ry Sz rr st) (hK:∀S',Ry S' rr (gR 1 st).2->cM (Row1 rr) Sz S' (Row1 rr)->K (.tuple ⟨[.int .u8 (.ofNat (gR 1 st).1),.int .i64 (.ofNat (gR 1 st).2.2)]⟩) S'=true):
 (X most (n+3)).C rY [pt rr 0] Sz K=true:=by
 rw [aT (by rfl),LW];unfold zK;refine Ac hM (k:=1) (by omega) h fun S1z h1 f1=>?_;simp only [fV,fH,jL];rw [oP,wrap_u8,Nat.mod_eq_of_lt (Hb st)];exact hK S1z h1 f1
theorem aDV (hM:1000<most) (h:Ry Sz rr st) (hK:∀S',Ry S' rr (gR 8 st).2->cM (Row1 rr) Sz S' (Row1 rr)->K (.tuple ⟨[.int .u64 (.ofNat (gR 8 st).1),.int .i64 (.ofNat (gR 8 st).2.2)]⟩) S'=true):
 (X most (n+3)).C tN [pt rr 0] Sz K=true:=by
 rw [aT (by rfl),NU];unfold BM;refine Ac hM (k:=8) (by omega) h fun S1z h1 f1=>?_;simp only [fV,fH,jL];exact hK S1z h1 f1
theorem aDW (hM:1000<most) (h:Ry Sz rr st) (hK:∀S',Ry S' rr (gR 8 st).2->cM (Row1 rr) Sz S' (Row1 rr)->K (.tuple ⟨[.int .i64 (i64 (gR 8 st).1),.int .i64 (.ofNat (gR 8 st).2.2)]⟩) S'=true):
 (X most (n+3)).C tO [pt rr 0] Sz K=true:=by
 rw [aT (by rfl),NV];unfold BN;refine Ac hM (k:=8) (by omega) h fun S1z h1 f1=>?_;simp only [fV,fH,jL];rw [oP,Db];exact hK S1z h1 f1
theorem Lb (hM:1000<most) (h:Ry Sz rr st){m:Nat} (hm:m<9223372036854775808) (hK:∀S',Ry S' rr (fD m st).2->cM (Row1 rr) Sz S' (Row1 rr)->K (.tuple ⟨[.int .i64 (.ofNat (fD m st).1),.int .i64 (.ofNat (fD m st).2.2)]⟩) S'=true):
 (X most (n+3)).C mH [pt rr 0,.int .i64 (.ofNat m)] Sz K=true:=by
 rw [aT (by rfl),KK];unfold yH;rw [aDT]at hK;have hlt:=Pk 8 (by omega) st;refine Ac hM (k:=8) (by omega) h fun S1z h1 f1=>?_;simp only [fV,fH,jL,cL];rw [dM,iX];by_cases e:(gR 8 st).2.2=0
 ·rw [if_neg (by simp [e]),aG,show decide (m<0)=false from decide_eq_false (Nat.not_lt_zero m)]
  rw [if_neg (by simp [e])]at hK;simp only [cH,oP,bJ];rw [ER (by omega),nJ,iX];by_cases hl:(gR 8 st).1<=m
  ·rw [if_neg (by simp;omega)]
   rw [if_pos hl]at hK;have e2:xL .i64 (.ofNat (gR 8 st).1)= .ofNat (gR 8 st).1:=wL (by omega);rw [e2];have:=hK S1z h1 f1;rw [e]at this;exact this
  ·rw [if_pos (by simp;omega)]
   rw [if_neg hl]at hK;exact EY (n:=n+1) h1 fun S' h' f'=>hK S' h' (f1.trans f')
 ·rw [if_pos (by simp [e])]
  rw [if_pos e]at hK;exact hK S1z h1 f1
theorem aCj (hM:1000<most) (h:Ry Sz rr st) (hK:∀S',Ry S' rr (IB st).2->cM (Row1 rr) Sz S' (Row1 rr)->K (.tuple ⟨[.string ⟨⟨(IB st).1⟩⟩,.int .i64 (.ofNat (IB st).2.2)]⟩) S'=true):
 (X most (n+3)).C rZ [pt rr 0] Sz K=true:=by
 rw [aT (by rfl),LX];unfold zM;rw [aDU]at hK;refine Ac hM (k:=2) (by omega) h fun S1z h1 f1=>?_;simp only [fV,fH,jL,aH,aB,Nat.zero_add];rw [dM,iX];by_cases e:(gR 2 st).2.2=0
 ·rw [if_neg (by simp [e]),nJ,iX]
  rw [if_neg (by simp [e])]at hK;by_cases hl:(gR 2 st).1<=2048
  ·rw [if_neg (by simp;omega),oP,wL (by omega),h1.Ow,zV,nJ,iX]
   rw [if_pos hl]at hK;by_cases h2:(gR 2 st).1<=(gR 2 st).2.1.length
   ·rw [if_neg (by simp;omega),h1.Ow,Kj aB5 _ _ h2,h1.Ow,UT aB5 _ _ h2]
    rw [if_pos h2]at hK;obtain⟨S2z,h2',f2,e2⟩:=h1.set0 ((gR 2 st).2.1.drop (gR 2 st).1) (by simp) (fun Sz=>K (.tuple ⟨[.string ⟨⟨(gR 2 st).2.1.take (gR 2 st).1⟩⟩,.int .i64 (.ofNat 0)]⟩) Sz);rw [e2];exact hK S2z (by rw [e]at h2';exact h2') (f1.trans f2)
   ·rw [if_pos (by simp;omega)]
    rw [if_neg h2]at hK;exact EY (n:=n+1) h1 fun S' h' f'=>hK S' h' (f1.trans f')
  ·rw [if_pos (by simp;omega)]
   rw [if_neg hl]at hK;exact EY (n:=n+1) h1 fun S' h' f'=>hK S' h' (f1.trans f')
 ·rw [if_pos (by simp [e])]
  rw [if_pos e]at hK;exact hK S1z h1 f1
theorem aDX (h:Ry Sz rr st) (hK:∀S',Ry S' rr (ZH st)->cM (Row1 rr) Sz S' (Row1 rr)->K (.int .i64 (.ofNat (ZH st).2)) S'=true):(X most (n+2)).C pG [pt rr 0] Sz K=true:=by
 rw [aT (by rfl),NW];unfold BO;unfold ZH at hK;simp only [aH,aB,Nat.zero_add,cL];rw [h.ld1,rB];by_cases e:st.2=0
 ·rw [show decide (st.2=0)=true from decide_eq_true e]
  simp only [cF,aH,aB,Nat.zero_add,bL];rw [h.Ow,SG,iX];rw [if_neg (by simp [e])]at hK;by_cases h2:st.1=[]
  ·rw [if_neg (by simp [h2]),h.ld1]
   rw [if_pos h2]at hK;have:=hK Sz (by have:=h;rw [show st=([],0)from Prod.ext h2 e]at this;exact this) (.refl _ _);rw [e];exact this
  ·rw [if_pos (by simp [h2])]
   rw [if_neg h2]at hK;exact EY (n:=n) h fun S' h' f'=>hK S' h' f'
 ·rw [show decide (st.2=0)=false from decide_eq_false e]
  rw [if_pos e]at hK;simp only [cG,bJ];rw [cA,h.ld1];exact hK Sz h (.refl _ _)
end
set_option maxRecDepth 100000
variable{most:Nat}
theorem aDY (st:RS):WV st=if(gR 2 st).2.2≠0 then([],(gR 2 st).2)else if(gR 2 st).1<=1024 then(if(gR 2 st).1*8<=(gR 2 st).2.1.length then(Jn (gR 2 st).2.1 (gR 2 st).1,(gR 2 st).2.1.drop (8*(gR 2 st).1),0)else([],[],8))else([],[],40):=by
 unfold WV gR;by_cases e:st.2=0
 ·simp only [ne_eq,e,not_true_eq_false,if_false]
  by_cases h:2<=st.1.length
  ·simp only [if_pos h,not_true_eq_false,if_false]
  ·simp only [if_neg h];simp
 ·simp [e]
def numsD (ws:List Nat):List (List D):=ws.map fun z:Nat=>[.n (z:Int)]
section
variable{n rr:Nat}{S0:St}{st:RS}{K:VK}{C:Nat->Prop}
theorem aDZ:cN PP 57=some 1:=by kernel_rfl
theorem Pl (hM:1000<most){l:List UInt8}{N:Nat} (hN:N<=1024) (hrr:C rr) (hC:∀i,C i->i<S0.n)
 (hok:N*8<=l.length->∀S' v,Ry S' rr (l.drop (8*N),0)->Fn S0.n (Row1 rr) S0 S'->Acc S' C S0.n [.num] 57 v (numsD (Jn l N))->K (.tuple ⟨[v,.int .i64 (.ofNat 0)]⟩) S'=true)
 (hno:¬N*8<=l.length->∀S',Ry S' rr ([],8)->Fn S0.n (Row1 rr) S0 S'->K (.tuple ⟨[.slice none 0 0,.int .i64 (.ofNat 8)]⟩) S'=true):
 ∀(r i m:Nat) (Sz:St) (a:Value),i+r=N->r<m->8*i<=l.length->Ry Sz rr (l.drop (8*i),0)->Fn S0.n (Row1 rr) S0 Sz->Acc Sz C S0.n [.num] 57 a (numsD (Jn l i))->
  gQ (X most (n+2)) m (pt rr 0) (.int .u64 (.ofNat N)) a (.int .i64 (.ofNat i)) Sz K=true:=by
 intro r;induction r with
 | zero=>
  intro i m Sz a hi hm hil hy hf ha;obtain⟨m,rfl⟩:=Nat.exists_eq_succ_of_ne_zero (show m≠0 by omega);obtain rfl:i=N:=by omega
  rw [oK];unfold jQ;rw [oP,wL (by omega),aG,show decide (i<i)=false from decide_eq_false (Nat.lt_irrefl _),cA];exact hok (by omega) Sz a hy hf ha
 | succ r ih=>
  intro i m Sz a hi hm hil hy hf ha;obtain⟨m,rfl⟩:=Nat.exists_eq_succ_of_ne_zero (show m≠0 by omega);rw [oK];unfold jQ;rw [oP,wL (by omega),aG,show decide (i<N)=true from decide_eq_true (by omega),bS];refine Ac hM (k:=8) (by omega) hy fun S1z h1 f1=>?_;simp only [fV,fH,jL];have hf1:Fn S0.n (Row1 rr) S0 S1z:=hf.trans (.of f1 hf.n);by_cases h8:8<=(l.drop (8*i)).length
  ·have hr:gR 8 (l.drop (8*i),0)=(be ((l.drop (8*i)).take 8),(l.drop (8*i)).drop 8,0):=by
    unfold gR;rw [if_neg (by simp),if_pos h8]
   rw [hr]at h1 ⊢
   have hlt:be ((l.drop (8*i)).take 8)<18446744073709551616:=by
    have:=Pk 8 (by omega) (l.drop (8*i),0);rw [hr]at this;exact this
   rw [dM,show(!decide (0=0))=false from by simp,cA,SP _ _ _ rfl];have ha1:Acc S1z C S0.n [.num] 57 a (numsD (Jn l i)):=ha.fr (f1.up fun i hi=>by rw [show i=rr from hi];exact hrr) hC;have hlen:(numsD (Jn l i)).length=i:=by unfold numsD;rw [List.length_map,wN]
   refine Acc.app (its:=[.num]) (ds:=[.n ((be ((l.drop (8*i)).take 8):Nat):Int)]) (new:=[.int .u64 (.ofNat (be ((l.drop (8*i)).take 8)))]) ha1 (.new S1z _) hf1.n (Src.single aF rfl (by simp [oneCell])) (fun C' hC'=> .cons (.num hlt) .nil) aDZ (by rw [hlen];omega) fun S2z a2 k1 k2 k3=>?_;rw [aP _ _ _ _ (by omega)];have aHa:rr<S0.n:=hC rr hrr;have hl8:8*(i+1)<=l.length:=by rw [List.length_drop]at h8;omega
   have hn1:S1z.n<=S2z.n:=Nat.le_trans (Nat.le_succ _) k2;refine ih (i+1) m S2z a2 (by omega) (by omega) hl8 ⟨Nat.lt_of_lt_of_le h1.lt hn1,?_,?_⟩ ⟨Nat.le_trans hf1.n hn1,fun j hj hb=>?_⟩ ?_
   ·rw [k1 rr aHa,aL (Nat.ne_of_lt h1.lt),h1.obj,List.drop_drop]
    rw [show 8*i+8=8*(i+1)by omega]
   ·have:=hy.len;simp only [List.length_drop]at this ⊢;omega
   ·rw [k1 j hj,aL (by have:=hf1.n;omega)];exact hf1.same j hj hb
   ·rw [Jy]
    have:numsD (Jn l i++[be ((l.drop (8*i)).take 8)])=numsD (Jn l i)++[[.n ((be ((l.drop (8*i)).take 8):Nat):Int)]]:=by unfold numsD;rw [List.map_append];rfl
    rw [this];exact k3
  ·have hr:gR 8 (l.drop (8*i),0)=(0,[],8):=by
    unfold gR;rw [if_neg (by simp),if_neg h8]
   rw [hr]at h1 ⊢;rw [dM,show(!decide (8=0))=true from by simp,bS];exact hno (by rw [List.length_drop]at h8;omega) S1z h1 hf1
theorem aCk (hM:2000<most) (h:Ry S0 rr st) (hrr:C rr) (hC:∀i,C i->i<S0.n) (hK:∀S' v,Ry S' rr (WV st).2->cM (Row1 rr) S0 S' (Row1 rr)->Rd S' C .nums v (.l (numsD (WV st).1))->K (.tuple ⟨[v,.int .i64 (.ofNat (WV st).2.2)]⟩) S'=true):
 (X most (n+3)).C nD [pt rr 0] S0 K=true:=by
 rw [aT (by rfl),LY];unfold zN;rw [aDY]at hK;refine Ac (by omega) (k:=2) (by omega) h fun S1z h1 f1=>?_;simp only [fV,fH,jL];have empty:∀S',Rd S' C .nums zL (.l (numsD [])):=fun S'=> .nums .empty;rw [dM,iX];by_cases e:(gR 2 st).2.2=0
 ·rw [if_neg (by simp [e]),nJ,iX]
  rw [if_neg (by simp [e])]at hK;by_cases hl:(gR 2 st).1<=1024
  ·rw [if_neg (by simp;omega),bP]
   rw [if_pos hl]at hK
   have h1':Ry S1z rr ((gR 2 st).2.1.drop (8*0),0):=by
    rw [Nat.mul_zero,List.drop_zero,<-e];exact h1
   refine Pl (S0:=S0) (by omega) hl hrr hC (fun hh S' v w f a=>?_) (fun hh S' w f=>?_) (gR 2 st).1 0 most S1z zL (by omega) (by omega) (by omega) h1' (.of f1 (Nat.le_refl _)) (.inl ⟨rfl,rfl⟩)
   ·rw [if_pos hh]at hK
    refine hK S' v w f.fr (.nums (a.rd hC ?_));unfold numsD;rw [List.length_map,wN];omega
   ·rw [if_neg hh]at hK
    exact hK S' _ w f.fr (empty S')
  ·rw [if_pos (by simp;omega)]
   rw [if_neg hl]at hK;exact EY (n:=n+1) h1 fun S' h' f'=>hK S' _ h' (f1.trans f') (empty S')
 ·rw [if_pos (by simp [e])]
  rw [if_pos e]at hK;exact hK S1z _ h1 f1 (empty S1z)
end
set_option maxRecDepth 100000
variable{most:Nat}
abbrev inn (rr:Nat):Value:= .agg ⟨[pt rr 0]⟩
section
variable{n rr:Nat}{Sz:St}{st:RS}{K:VK}
theorem inbox (h:Ry Sz rr st){kk:Value->St->Bool} (hK:∀S',Ry S' rr st->cM (Row1 rr) Sz S' (Row1 rr)->kk (pt rr 0) S'=true):(iP 108 (inn rr) Sz fun v0 Sz=>aC 0 v0 fun v1=>aN v1 Sz kk)=true:=by
 rw [eI rfl,aB,Nat.zero_add,cB aF rfl];exact hK _ (h.ext (.new Sz _)) ((aZ.new Sz _).fr _)
theorem vJ (hM:1000<most) (h:Ry Sz rr st) (hK:∀S',Ry S' rr (gR 8 st).2->cM (Row1 rr) Sz S' (Row1 rr)->K (.int .i64 (i64 (gR 8 st).1)) S'=true):(X most (n+4)).C aI [inn rr] Sz K=true:=by
 rw [aT (by rfl),TA];unfold EZ;refine inbox h fun S1z h1 f1=>?_;refine aDW hM h1 fun S2z h2 f2=>?_;simp only [fV,fH,jL];exact hK S2z h2 (f1.trans f2)
theorem Vu (hM:1000<most) (h:Ry Sz rr st) (hK:∀S',Ry S' rr (gR 8 st).2->cM (Row1 rr) Sz S' (Row1 rr)->K (.int .u64 (.ofNat (gR 8 st).1)) S'=true):(X most (n+4)).C iK [inn rr] Sz K=true:=by
 rw [aT (by rfl),QY];unfold CS;refine inbox h fun S1z h1 f1=>?_;refine aDV hM h1 fun S2z h2 f2=>?_;simp only [fV,fH,jL];exact hK S2z h2 (f1.trans f2)
theorem Rx (hM:1000<most) (h:Ry Sz rr st) (hK:∀S',Ry S' rr (gR 1 st).2->cM (Row1 rr) Sz S' (Row1 rr)->K (.int .u8 (.ofNat (gR 1 st).1)) S'=true):(X most (n+4)).C kL [inn rr] Sz K=true:=by
 rw [aT (by rfl),VW];unfold HG;refine inbox h fun S1z h1 f1=>?_;refine aCi hM h1 fun S2z h2 f2=>?_;simp only [fV,fH,jL];exact hK S2z h2 (f1.trans f2)
theorem Rz (hM:1000<most) (h:Ry Sz rr st) (hK:∀S',Ry S' rr (IB st).2->cM (Row1 rr) Sz S' (Row1 rr)->K (.string ⟨⟨(IB st).1⟩⟩) S'=true):(X most (n+4)).C cU [inn rr] Sz K=true:=by
 rw [aT (by rfl),VX];unfold HI;refine inbox h fun S1z h1 f1=>?_;refine aCj hM h1 fun S2z h2 f2=>?_;simp only [fV,fH,jL];exact hK S2z h2 (f1.trans f2)
theorem AE (hM:1000<most) (h:Ry Sz rr st) (hK:∀S',Ry S' rr (fD 1048576 st).2->cM (Row1 rr) Sz S' (Row1 rr)->K (.int .i64 (.ofNat (fD 1048576 st).1)) S'=true):(X most (n+4)).C dH [inn rr] Sz K=true:=by
 rw [aT (by rfl),VY];unfold HJ;refine inbox h fun S1z h1 f1=>?_;refine Lb hM h1 (m:=1048576) (by omega) fun S2z h2 f2=>?_;simp only [fV,fH,jL];exact hK S2z h2 (f1.trans f2)
theorem aFu (hM:1000<most) (h:Ry Sz rr st) (hK:∀S',Ry S' rr (fD 1 st).2->cM (Row1 rr) Sz S' (Row1 rr)->K (.bool (decide ((fD 1 st).1=1))) S'=true):(X most (n+4)).C jI [inn rr] Sz K=true:=by
 rw [aT (by rfl),Bx];unfold MS;refine inbox h fun S1z h1 f1=>?_;refine Lb hM h1 (m:=1) (by omega) fun S2z h2 f2=>?_;simp only [fV,fH,jL];rw [rB];exact hK S2z h2 (f1.trans f2)
theorem Hc (hM:2000<most){C:Nat->Prop} (h:Ry Sz rr st) (hrr:C rr) (hC:∀i,C i->i<Sz.n) (hK:∀S' v,Ry S' rr (WV st).2->cM (Row1 rr) Sz S' (Row1 rr)->Rd S' C .nums v (dec .nums st).1->K v S'=true):(X most (n+4)).C cP [inn rr] Sz K=true:=by
 rw [aT (by rfl),VZ];unfold HK;refine inbox h fun S1z h1 f1=>?_;refine aCk hM h1 hrr (fun i hi=>Nat.lt_of_lt_of_le (hC i hi) f1.n) fun S2z v h2 f2 r2=>?_;simp only [fV,fH,jL];exact hK S2z v h2 (f1.trans f2) r2
theorem aCl (h:Ry Sz rr st) (hK:∀S',Ry S' rr st->cM (Row1 rr) Sz S' (Row1 rr)->K (.bool (decide (st.2=0))) S'=true):(X most (n+1)).C dO [inn rr] Sz K=true:=by
 rw [aT (by rfl),WA];unfold HL;refine inbox h fun S1z h1 f1=>?_;rw [aH,aB,Nat.zero_add,h1.ld1,rB];exact hK S1z h1 f1
theorem aCm{l:List UInt8} (hl:l.length<=1000000) (hK:∀S',aZ Sz S'->Ry S' Sz.n (l,0)->K (pt Sz.n 0) S'=true):(X most (n+1)).C GM [.string ⟨⟨l⟩⟩] Sz K=true:=by
 rw [aT (by rfl),Hd];unfold QZ;rw [bF rfl (by simp),dR];show iP 177 (.agg ⟨[.string ⟨⟨l⟩⟩,.int .i64 (.ofNat 0)]⟩) Sz _=true;rw [eI rfl];exact hK _ (.new Sz _) ⟨Nat.lt_succ_self _,aF,hl⟩
end
section
variable{n rr j:Nat}{Sz:St}{st:RS}
structure UU (Sz:St) (j rr:Nat):Prop where
 lt:j<Sz.n
 ne:j≠rr
 obj:Sz.obj j=some (.cells [pt rr 0] 108 .exact)
theorem UU.fr{Sz S':St}{j rr:Nat} (h:UU Sz j rr) (f:cM (Row1 rr) Sz S' (Row1 rr)):UU S' j rr:=⟨Nat.lt_of_lt_of_le h.lt f.n,h.ne,by rw [f.same j h.lt h.ne];exact h.obj⟩
theorem UU.ld{Sz:St}{j rr:Nat} (h:UU Sz j rr) (K:VK):aR 1 (pt j 0) Sz K=K (inn rr) Sz:=by
 rw [fW (n:=1) h.obj (by simp)];rfl
theorem He{i N:Nat} (h:Ry Sz rr st) (hj:UU Sz j rr){A B:St->Bool}
 (hA:i<N->st.2=0->∀S',Ry S' rr st->cM (Row1 rr) Sz S' (Row1 rr)->A S'=true) (hB:(N<=i\/st.2≠0)->∀S',Ry S' rr st->cM (Row1 rr) Sz S' (Row1 rr)->B S'=true):
 (aK PP .lss 3 (.int .i64 (.ofNat i)) (.int .i64 (.ofNat N)) fun v0=>
  shut most (aA true v0 (fun k=>aR 1 (pt j 0) Sz fun v1 Sz=>k v1 Sz) Sz fun v2 Sz=>
  shut most (aA true v0 (fun k=>(X most (n+1)).C dO [v2] Sz fun v3 Sz=>k v3 Sz) Sz fun v4 Sz=>
  shut most (bY v0 v4 zF fun v5=>gD v5 (A Sz) (B Sz)))))=true:=by
 rw [aG];simp only [cL];by_cases c:i<N
 ·rw [show decide (i<N)=true from decide_eq_true c]
  simp only [cF,bL];rw [hj.ld];refine aCl h fun S1z h1 f1=>?_;rw [iX];by_cases e:st.2=0
  ·rw [if_pos (by simp [e])];exact hA c e S1z h1 f1
  ·rw [if_neg (by simp [e])];exact hB (.inr e) S1z h1 f1
 ·rw [show decide (i<N)=false from decide_eq_false c]
  simp only [cG,bJ];rw [cA];exact hB (.inl (by omega)) Sz h (.refl _ _)
end
end Go.Am
set_option maxRecDepth 100000
namespace Go.Am
noncomputable def gV (x:EV) (m:Nat) (t1 t3 t4 t5:Value) (Sz:St) (K:VK):Bool:=gJ PP dD lB (x.E PP) [.r,.r,.r,.l,.r,.d] m [] [t1,t3,t4,t5] Sz K
noncomputable def FA (x:EV) (a0:Value) (Sz:St) (K:VK):Bool:=
 iP 108 a0 Sz fun v0 Sz=>
 aR 1 v0 Sz fun v1 Sz=>
 x.C dH [v1] Sz fun v2 Sz=>
 gV x x.most v0 zL v2 zI Sz K
theorem TB (x:EV) (a0:Value) (Sz:St) (K:VK):hZ PP dD lB (x.E PP) [a0] Sz K=FA x a0 Sz K:=by kernel_rfl
noncomputable def sM (x:EV) (m0:Nat) (t1 t3 t4 t5:Value) (Sz:St) (K:VK):Bool:=
 aK PP .lss 3 t5 t4 fun v0=>
 shut x.most (aA true v0 (fun k=>aR 1 t1 Sz fun v1 Sz=>
 k v1 Sz) Sz fun v2 Sz=>
 shut x.most (aA true v0 (fun k=>x.C dO [v2] Sz fun v3 Sz=>
 k v3 Sz) Sz fun v4 Sz=>
 shut x.most (bY v0 v4 zF fun v5=>
 gD v5 (aR 1 t1 Sz fun v6 Sz=>
 x.C cU [v6] Sz fun v7 Sz=>
 aM 9 1 [zS] [(0,1,v7)] Sz fun v8 Sz=>
 kJ PP 9 1 16 t3 v8 Sz fun v9 Sz=>
 aK PP .add 3 t5 (.int .i64 (.ofNat 1)) fun v10=>
 gV x m0 t1 v9 t4 v10 Sz K) (K t3 Sz))))
theorem DJ (x:EV) (m0:Nat) (t1 t3 t4 t5:Value) (Sz:St) (K:VK):gV x (m0+1) t1 t3 t4 t5 Sz K=sM x m0 t1 t3 t4 t5 Sz K:=by kernel_rfl
noncomputable def gW (x:EV) (m:Nat) (t1 t3 t4 t5:Value) (Sz:St) (K:VK):Bool:=gJ PP dD lC (x.E PP) [.r,.r,.r,.l,.r,.d] m [] [t1,t3,t4,t5] Sz K
noncomputable def FC (x:EV) (a0:Value) (Sz:St) (K:VK):Bool:=
 iP 108 a0 Sz fun v0 Sz=>
 aR 1 v0 Sz fun v1 Sz=>
 x.C dH [v1] Sz fun v2 Sz=>
 gW x x.most v0 zL v2 zI Sz K
theorem TD (x:EV) (a0:Value) (Sz:St) (K:VK):hZ PP dD lC (x.E PP) [a0] Sz K=FC x a0 Sz K:=by kernel_rfl
noncomputable def sN (x:EV) (m0:Nat) (t1 t3 t4 t5:Value) (Sz:St) (K:VK):Bool:=
 aK PP .lss 3 t5 t4 fun v0=>
 shut x.most (aA true v0 (fun k=>aR 1 t1 Sz fun v1 Sz=>
 k v1 Sz) Sz fun v2 Sz=>
 shut x.most (aA true v0 (fun k=>x.C dO [v2] Sz fun v3 Sz=>
 k v3 Sz) Sz fun v4 Sz=>
 shut x.most (bY v0 v4 zF fun v5=>
 gD v5 (dK [(.int .u64 (.ofNat 0)),(.int .u64 (.ofNat 0))] [] fun v6=>
 cC [(.int .u64 (.ofNat 0)),(.int .u64 (.ofNat 0))] 59 Sz fun v7 Sz=>
 cQ 2 v7 v6 Sz fun Sz=>
 aR 1 t1 Sz fun v8 Sz=>
 x.C iK [v8] Sz fun v9 Sz=>
 aC 0 v7 fun v10=>
 cQ 1 v10 v9 Sz fun Sz=>
 aR 1 t1 Sz fun v11 Sz=>
 x.C iK [v11] Sz fun v12 Sz=>
 aC 1 v7 fun v13=>
 cQ 1 v13 v12 Sz fun Sz=>
 aR 2 v7 Sz fun v14 Sz=>
 aM 59 1 [(.int .u64 (.ofNat 0)),(.int .u64 (.ofNat 0))] [(0,2,v14)] Sz fun v15 Sz=>
 kJ PP 59 2 16 t3 v15 Sz fun v16 Sz=>
 aK PP .add 3 t5 (.int .i64 (.ofNat 1)) fun v17=>
 gW x m0 t1 v16 t4 v17 Sz K) (K t3 Sz))))
theorem DK (x:EV) (m0:Nat) (t1 t3 t4 t5:Value) (Sz:St) (K:VK):gW x (m0+1) t1 t3 t4 t5 Sz K=sN x m0 t1 t3 t4 t5 Sz K:=by kernel_rfl
noncomputable def iL (x:EV) (m:Nat) (t1 t3 t4 t5:Value) (Sz:St) (K:VK):Bool:=gJ PP dD iR (x.E PP) [.r,.r,.r,.l,.r,.d] m [] [t1,t3,t4,t5] Sz K
noncomputable def HN (x:EV) (a0:Value) (Sz:St) (K:VK):Bool:=
 iP 108 a0 Sz fun v0 Sz=>
 aR 1 v0 Sz fun v1 Sz=>
 x.C dH [v1] Sz fun v2 Sz=>
 iL x x.most v0 zL v2 zI Sz K
theorem WC (x:EV) (a0:Value) (Sz:St) (K:VK):hZ PP dD iR (x.E PP) [a0] Sz K=HN x a0 Sz K:=by kernel_rfl
noncomputable def uA (x:EV) (m0:Nat) (t1 t3 t4 t5:Value) (Sz:St) (K:VK):Bool:=
 aK PP .lss 3 t5 t4 fun v0=>
 shut x.most (aA true v0 (fun k=>aR 1 t1 Sz fun v1 Sz=>
 k v1 Sz) Sz fun v2 Sz=>
 shut x.most (aA true v0 (fun k=>x.C dO [v2] Sz fun v3 Sz=>
 k v3 Sz) Sz fun v4 Sz=>
 shut x.most (bY v0 v4 zF fun v5=>
 gD v5 (aR 1 t1 Sz fun v6 Sz=>
 x.C kL [v6] Sz fun v7 Sz=>
 dK [(.int .u8 (.ofNat 0)),zI,zI,zI,zI,zI,zI,zI,zI,zS,zL] [(0,1,v7)] fun v8=>
 cC [(.int .u8 (.ofNat 0)),zI,zI,zI,zI,zI,zI,zI,zI,zS,zL] 62 Sz fun v9 Sz=>
 cQ 11 v9 v8 Sz fun Sz=>
 aR 1 t1 Sz fun v10 Sz=>
 x.C aI [v10] Sz fun v11 Sz=>
 aC 1 v9 fun v12=>
 cQ 1 v12 v11 Sz fun Sz=>
 aR 1 t1 Sz fun v13 Sz=>
 x.C aI [v13] Sz fun v14 Sz=>
 aC 2 v9 fun v15=>
 cQ 1 v15 v14 Sz fun Sz=>
 aR 1 t1 Sz fun v16 Sz=>
 x.C aI [v16] Sz fun v17 Sz=>
 aC 3 v9 fun v18=>
 cQ 1 v18 v17 Sz fun Sz=>
 aR 1 t1 Sz fun v19 Sz=>
 x.C aI [v19] Sz fun v20 Sz=>
 aC 4 v9 fun v21=>
 cQ 1 v21 v20 Sz fun Sz=>
 aR 1 t1 Sz fun v22 Sz=>
 x.C aI [v22] Sz fun v23 Sz=>
 aC 5 v9 fun v24=>
 cQ 1 v24 v23 Sz fun Sz=>
 aR 1 t1 Sz fun v25 Sz=>
 x.C aI [v25] Sz fun v26 Sz=>
 aC 6 v9 fun v27=>
 cQ 1 v27 v26 Sz fun Sz=>
 aR 1 t1 Sz fun v28 Sz=>
 x.C aI [v28] Sz fun v29 Sz=>
 aC 7 v9 fun v30=>
 cQ 1 v30 v29 Sz fun Sz=>
 aR 1 t1 Sz fun v31 Sz=>
 x.C aI [v31] Sz fun v32 Sz=>
 aC 8 v9 fun v33=>
 cQ 1 v33 v32 Sz fun Sz=>
 aR 1 t1 Sz fun v34 Sz=>
 x.C cU [v34] Sz fun v35 Sz=>
 aC 9 v9 fun v36=>
 cQ 1 v36 v35 Sz fun Sz=>
 aR 1 t1 Sz fun v37 Sz=>
 x.C cP [v37] Sz fun v38 Sz=>
 aC 10 v9 fun v39=>
 cQ 1 v39 v38 Sz fun Sz=>
 aR 11 v9 Sz fun v40 Sz=>
 aM 62 1 [(.int .u8 (.ofNat 0)),zI,zI,zI,zI,zI,zI,zI,zI,zS,zL] [(0,11,v40)] Sz fun v41 Sz=>
 kJ PP 62 11 112 t3 v41 Sz fun v42 Sz=>
 aK PP .add 3 t5 (.int .i64 (.ofNat 1)) fun v43=>
 iL x m0 t1 v42 t4 v43 Sz K) (K t3 Sz))))
theorem FD (x:EV) (m0:Nat) (t1 t3 t4 t5:Value) (Sz:St) (K:VK):iL x (m0+1) t1 t3 t4 t5 Sz K=uA x m0 t1 t3 t4 t5 Sz K:=by kernel_rfl
noncomputable def gA (x:EV) (m:Nat) (t1 t3 t4 t5:Value) (Sz:St) (K:VK):Bool:=gJ PP dD iQ (x.E PP) [.r,.r,.r,.l,.r,.d] m [] [t1,t3,t4,t5] Sz K
noncomputable def HM (x:EV) (a0:Value) (Sz:St) (K:VK):Bool:=
 iP 108 a0 Sz fun v0 Sz=>
 aR 1 v0 Sz fun v1 Sz=>
 x.C dH [v1] Sz fun v2 Sz=>
 gA x x.most v0 zL v2 zI Sz K
theorem WB (x:EV) (a0:Value) (Sz:St) (K:VK):hZ PP dD iQ (x.E PP) [a0] Sz K=HM x a0 Sz K:=by kernel_rfl
noncomputable def tY (x:EV) (m0:Nat) (t1 t3 t4 t5:Value) (Sz:St) (K:VK):Bool:=
 aK PP .lss 3 t5 t4 fun v0=>
 shut x.most (aA true v0 (fun k=>aR 1 t1 Sz fun v1 Sz=>
 k v1 Sz) Sz fun v2 Sz=>
 shut x.most (aA true v0 (fun k=>x.C dO [v2] Sz fun v3 Sz=>
 k v3 Sz) Sz fun v4 Sz=>
 shut x.most (bY v0 v4 zF fun v5=>
 gD v5 (aR 1 t1 Sz fun v6 Sz=>
 x.C aI [v6] Sz fun v7 Sz=>
 dK [zI,zL] [(0,1,v7)] fun v8=>
 cC [zI,zL] 141 Sz fun v9 Sz=>
 cQ 2 v9 v8 Sz fun Sz=>
 aR 1 t1 Sz fun v10 Sz=>
 x.C cP [v10] Sz fun v11 Sz=>
 aC 1 v9 fun v12=>
 cQ 1 v12 v11 Sz fun Sz=>
 aR 2 v9 Sz fun v13 Sz=>
 aM 141 1 [zI,zL] [(0,2,v13)] Sz fun v14 Sz=>
 kJ PP 141 2 32 t3 v14 Sz fun v15 Sz=>
 aK PP .add 3 t5 (.int .i64 (.ofNat 1)) fun v16=>
 gA x m0 t1 v15 t4 v16 Sz K) (K t3 Sz))))
theorem FB (x:EV) (m0:Nat) (t1 t3 t4 t5:Value) (Sz:St) (K:VK):gA x (m0+1) t1 t3 t4 t5 Sz K=tY x m0 t1 t3 t4 t5 Sz K:=by kernel_rfl
end Go.Am
set_option maxRecDepth 100000
namespace Go.Am
open Go.RowKit Go.MapKept Go.Proofs Go.Proofs.jB
variable{most:Nat}
theorem UU.fn{Sz S':St}{j rr:Nat} (h:UU Sz j rr) (f:Fn Sz.n (Row1 rr) Sz S'):UU S' j rr:=⟨Nat.lt_of_lt_of_le h.lt f.n,h.ne,by rw [f.same j h.lt h.ne];exact h.obj⟩
theorem LJ (f:RS->List D×RS) (n:Nat) (st:RS) (h:n=0\/st.2≠0):kK f n st=([],st):=by
 rcases h with h | h
 ·subst h;rfl
 ·cases n with
  | zero=>rfl
  | succ n=>show(if st.2≠0 then _ else _)=_;rw [if_pos h]
theorem Sa (f:RS->List D×RS) (n:Nat) (st:RS) (h:st.2=0):kK f (n+1) st=((f st).1::(kK f n (f st).2).1,(kK f n (f st).2).2):=by
 show(if st.2≠0 then _ else _)=_;rw [if_neg (by simp [h])]
section
variable{n rr j N:Nat}{S0:St}{K:VK}{C:Nat->Prop}
theorem tX{f:RS->List D×RS}{its:List It}{el:TypeId}{st0:RS} (hrr:C rr) (hC:∀i,C i->i<S0.n) (hin:UU S0 j rr){L A:Nat->Value->Nat->St->Bool}
 (unf:∀m a i Sz,L (m+1) a i Sz=(aK PP .lss 3 (.int .i64 (.ofNat i)) (.int .i64 (.ofNat N)) fun v0=>
  shut most (aA true v0 (fun k=>aR 1 (pt j 0) Sz fun v1 Sz=>k v1 Sz) Sz fun v2 Sz=>
  shut most (aA true v0 (fun k=>(X most (n+1)).C dO [v2] Sz fun v3 Sz=>k v3 Sz) Sz fun v4 Sz=>
  shut most (bY v0 v4 zF fun v5=>gD v5 (A m a i Sz) (K a Sz))))))
 (body:∀(i m:Nat) (a:Value) (Sz:St) (st:RS) (es:List (List D)),i<N->Ry Sz rr st->UU Sz j rr->Acc Sz C S0.n its el a es->es.length=i->Fn S0.n (Row1 rr) S0 Sz->
  (∀S' a',Ry S' rr (f st).2->Fn S0.n (Row1 rr) S0 S'->Acc S' C S0.n its el a' (es++[(f st).1])->L m a' (i+1) S'=true)->A m a i Sz=true)
 (fin:∀Sz v,Ry Sz rr (kK f N st0).2->Fn S0.n (Row1 rr) S0 Sz->Acc Sz C S0.n its el v (kK f N st0).1->K v Sz=true):
 ∀(r i m:Nat) (Sz:St) (a:Value) (st:RS) (es:List (List D)),i+r=N->r<m->Ry Sz rr st->Fn S0.n (Row1 rr) S0 Sz->Acc Sz C S0.n its el a es->es.length=i->
  kK f N st0=(es++(kK f r st).1,(kK f r st).2)->L m a i Sz=true:=by
 intro r;induction r with
 | zero=>
  intro i m Sz a st es hi hm hy hf ha hl he;obtain⟨m,rfl⟩:=Nat.exists_eq_succ_of_ne_zero (show m≠0 by omega);rw [unf];refine He hy (hin.fn hf) (fun c=>absurd c (by omega)) fun _ S1z h1 f1=>?_;have ha1:Acc S1z C S0.n its el a es:=ha.fr (f1.up fun i hi=>by rw [show i=rr from hi];exact hrr) hC;rw [LJ f 0 st (.inl rfl),List.append_nil]at he;exact fin S1z a (by rw [he];exact h1) (hf.trans (.of f1 hf.n)) (by rw [he];exact ha1)
 | succ r ih=>
  intro i m Sz a st es hi hm hy hf ha hl he;obtain⟨m,rfl⟩:=Nat.exists_eq_succ_of_ne_zero (show m≠0 by omega);rw [unf];refine He hy (hin.fn hf) (fun c e S1z h1 f1=>?_) fun c S1z h1 f1=>?_
  ·have hf1:=hf.trans (.of f1 hf.n)
   have ha1:Acc S1z C S0.n its el a es:=ha.fr (f1.up fun i hi=>by rw [show i=rr from hi];exact hrr) hC;refine body i m a S1z st es c h1 (hin.fn hf1) ha1 hl hf1 fun S2z a2 h2 f2 b2=>?_;refine ih (i+1) m S2z a2 (f st).2 (es++[(f st).1]) (by omega) (by omega) h2 f2 b2 (by rw [List.length_append,hl];rfl) ?_;rw [he,Sa f r st e,List.append_assoc];rfl
  ·have ha1:Acc S1z C S0.n its el a es:=ha.fr (f1.up fun i hi=>by rw [show i=rr from hi];exact hrr) hC
   rw [LJ f (r+1) st (.inr (by rcases c with c | c;exact absurd c (by omega);exact c)),List.append_nil]at he;exact fin S1z a (by rw [he];exact h1) (hf.trans (.of f1 hf.n)) (by rw [he];exact ha1)
theorem aFv:cN PP 9=some 1:=by kernel_rfl
theorem Ry.fn{S1z S2z S':St}{st:RS}{n0:Nat} (h:Ry S1z rr st) (h0:rr<n0) (k1:∀i,i<n0->S'.obj i=S2z.obj i) (k2:S2z.n<=S'.n) (hx:aZ S1z S2z):Ry S' rr st:=
 ⟨Nat.lt_of_lt_of_le h.lt (Nat.le_trans hx.n k2),by rw [k1 rr h0,hx.same rr h.lt];exact h.obj,h.len⟩
theorem aAv (hM:140737488355329<most){st:RS}{Sz:St} (h:Ry Sz rr st) (hrr:C rr) (hC:∀i,C i->i<Sz.n)
 (hK:∀S' v,Ry S' rr (dec (.list bA) st).2->cM (Row1 rr) Sz S' (Row1 rr)->Rd S' C (.list bA) v (dec (.list bA) st).1->K v S'=true):(X most (n+5)).C lB [inn rr] Sz K=true:=by
 rw [aT (by rfl),TB];unfold FA;rw [eI rfl];have hin:UU (Sz.new (.cells [pt rr 0] 108 .exact)) Sz.n rr:=⟨Nat.lt_succ_self _,by have:=h.lt;omega,aF⟩;rw [hin.ld];refine AE (n:=n) (by omega) (h.ext (.new Sz _)) fun S0 h0 f0=>?_;have hin0:=hin.fr f0;have fx:cM (Row1 rr) Sz S0 (Row1 rr):=((aZ.new Sz _).fr _).trans f0;have hN:(fD 1048576 st).1<=1048576:=sJ 1048576 st;have hC0:∀i,C i->i<S0.n:=fun i hi=>Nat.lt_of_lt_of_le (hC i hi) fx.n;rw [bP]
 refine tX (n:=n+3) (most:=most) (j:=Sz.n) (N:=(fD 1048576 st).1) (S0:=S0) (C:=C) (K:=K) (f:=bX bA) (its:=bA) (el:=9) (st0:=(fD 1048576 st).2) hrr hC0 hin0
  (L:=fun m a i S'=>gV (X most (n+4)) m (pt Sz.n 0) a (.int .i64 (.ofNat (fD 1048576 st).1)) (.int .i64 (.ofNat i)) S' K)
  (A:=fun m a i S'=>aR 1 (pt Sz.n 0) S' fun v6 S'=>(X most (n+4)).C cU [v6] S' fun v7 S'=>aM 9 1 [zS] [(0,1,v7)] S' fun v8 S'=>kJ PP 9 1 16 a v8 S' fun v9 S'=>aK PP .add 3 (.int .i64 (.ofNat i)) (.int .i64 (.ofNat 1)) fun v10=>gV (X most (n+4)) m (pt Sz.n 0) v9 (.int .i64 (.ofNat (fD 1048576 st).1)) v10 S' K)
  (fun m a i S'=>?_) (fun i m a S1z st1 es hi h1 hj ha hl hf k=>?_) (fun S' v hy hf ha=>?_) (fD 1048576 st).1 0 most S0 zL _ [] (by omega) (by omega) h0 ⟨Nat.le_refl _,fun _ _ _=>rfl⟩ (.inl ⟨rfl,rfl⟩) rfl rfl
 ·rw [DJ]
  unfold sM;rw [bP]
 ·show(aR 1 (pt Sz.n 0) S1z _)=true
  rw [hj.ld];refine Rz (n:=n) (by omega) h1 fun S2z h2 f2=>?_;rw [SP _ _ _ rfl];have ha2:Acc S2z C S0.n bA 9 a es:=ha.fr (f2.up fun i hi=>by rw [show i=rr from hi];exact hrr) hC0;have hf2:Fn S0.n (Row1 rr) S0 S2z:=hf.trans (.of f2 hf.n);have ht:=Gc st1;refine Acc.app (its:=bA) (ds:=[.s (IB st1).1]) (new:=[.string ⟨⟨(IB st1).1⟩⟩]) ha2 (.new S2z _) hf2.n (Src.single aF rfl (by simp [oneCell])) (fun C' hC'=> .cons (.text (by omega)) .nil) aFv (by rw [hl];omega) fun S3z a3 k1 k2 k3=>?_;rw [aP _ _ _ _ (by omega)];have e1:bX bA st1=([.s (IB st1).1],(IB st1).2):=rfl;refine k S3z a3 (by rw [e1];exact h2.fn (hC0 rr hrr) k1 k2 (.new S2z _)) ⟨Nat.le_trans hf2.n (Nat.le_trans (Nat.le_succ _) k2),fun j hj' hb=>?_⟩ (by rw [e1];exact k3);rw [k1 j hj',aL (by have:=hf2.n;omega)];exact hf2.same j hj' hb
 ·have hd:dec (.list bA) st=(.l (kK (bX bA) (fD 1048576 st).1 (fD 1048576 st).2).1,(kK (bX bA) (fD 1048576 st).1 (fD 1048576 st).2).2):=rfl
  have hle:=rF (bX bA) (fD 1048576 st).1 (fD 1048576 st).2;refine hK S' v (by rw [hd];exact hy) (fx.trans hf.fr) ?_;rw [hd];exact ha.rd hC0 (by omega)
end
set_option maxRecDepth 100000
variable{most:Nat}
theorem Acc.aFw{Sz S1z:St}{C:Nat->Prop}{n0:Nat}{its:List It}{e bytes:Nat}{v x:Value}{es:List (List D)}{ds:List D}{new:List Value} (h:Acc Sz C n0 its e v es){m0:Nat} (hj:∀j a b,v= .slice (some ⟨j,0,some 0⟩) a b->j<m0) (hx1:aZ Sz S1z) (hn0:n0<=Sz.n) (hx:Src S1z its.length x 1 new)
 (hnew:∀C':Nat->Prop,(∀i,C' i->C i\/(n0<=i/\i<m0))->lL S1z C' its new ds) (hs:cN PP e=some its.length) (hb:(es.length+1)*(bytes+1)<=1099511627776) {K:VK}
 (hK:∀S' v',(∀i,i<n0->S'.obj i=S1z.obj i)->S1z.n<=S'.n->Acc S' C n0 its e v' (es++[ds])->K v' S'=true):kJ PP e its.length bytes v x S1z K=true:=by
 have hn:=hx1.n;rcases h with ⟨rfl,rfl⟩ | ⟨j,vs,olds,h1,h2,rfl,h3,h4,h5,h6⟩
 ·rw [IW hx (by omega) (by simpa using hb)]
  have hr:=hnew C fun i hi=> .inl hi;refine hK _ _ (fun i hi=>aL (by omega)) (Nat.le_succ _) (.inr ⟨S1z.n,new,[],by omega,Nat.lt_succ_self _,rfl,aF,by simp [hr.len],fun x hx=>?_,fun k d q it u d' a b c g=>?_⟩)
  ·simp at hx;subst hx;exact hr.jK
  ·have hk:k=0:=by
    have:=(List.getElem?_eq_some_iff.1 a).1;simp at this;exact this
   subst hk;simp at a c;subst a
   exact(hr.rd q it u d' b c g).fr ⟨Nat.le_succ _,fun i hi _=>aL (by omega),fun i hi=>by
    rcases hi with hi | hi
    ·exact .inr (by omega)
    ·exact .inl hi⟩
 ·have hj1:S1z.obj j=some (.cells vs e (.grown olds)):=by rw [hx1.same j h2];exact h3
  rw [IX hx (by omega) hb hj1 h4 hs]
  have hr:=hnew (fun i=>i=j\/C i) fun i hi=>by
   rcases hi with hi | hi
   ·subst hi;exact .inr ⟨h1,hj _ _ _ rfl⟩
   ·exact .inl hi
  have f:cM (fun i=>i=j\/C i) S1z ((S1z.set j (.cells vs e .stale)).new (.cells (vs++new) e (.grown (j::olds)))) (fun i=>i=S1z.n\/C i):=by
   refine⟨by rw [kM,gG];omega,fun i hi hb=>?_,fun i hi=>?_⟩
   ·rw [aL (by rw [gG];omega),aJ fun e=>hb (.inl e)]
   ·rcases hi with hi | hi
    ·exact .inr (by omega)
    ·exact .inl (.inr hi)
  refine hK _ _ (fun i hi=>?_) (by rw [kM,gG];omega) (.inr ⟨S1z.n,vs++new,j::olds,by omega,by rw [kM,gG];omega,by simp,?_,?_,fun x hx=>?_,fun k d q it u d' a b c g=>?_⟩)
  ·rw [aL (by rw [gG];omega),aJ (by omega)]
  ·have:S1z.n=(S1z.set j (.cells vs e .stale)).n:=rfl
   rw [this,aF]
  ·simp [h4,hr.len,Nat.add_mul]
  ·rcases List.mem_append.1 hx with hx | hx
   ·exact h5 x hx
   ·simp at hx;subst hx;exact hr.jK
  ·have hq:=(List.getElem?_eq_some_iff.1 b).1
   rcases Nat.lt_or_ge k es.length with hk | hk
   ·rw [List.getElem?_append_left hk]at a
    have hlt:k*its.length+its.length<=es.length*its.length:=by
     have:(k+1)*its.length<=es.length*its.length:=Nat.mul_le_mul_right _ hk
     rwa [Nat.add_mul,Nat.one_mul]at this
    rw [List.getElem?_append_left (by omega)]at c;exact((h6 k d q it u d' a b c g).fr (hx1.fr _)).fr f
   ·have hk':k=es.length:=by
     have:=(List.getElem?_eq_some_iff.1 a).1;simp at this;omega
    subst hk';simp at a;subst a;rw [List.getElem?_append_right (by omega),h4,Nat.add_sub_cancel_left]at c;exact(hr.rd q it u d' b c g).fr f
theorem Acc.row{Sz:St}{C:Nat->Prop}{n0:Nat}{its:List It}{e:TypeId}{v:Value}{es:List (List D)} (h:Acc Sz C n0 its e v es):∀j a b,v= .slice (some ⟨j,0,some 0⟩) a b->j<Sz.n:=by
 intro j a b hv;rcases h with ⟨rfl,rfl⟩ | ⟨j',vs,olds,h1,h2,rfl,h3,h4,h5,h6⟩
 ·cases hv
 ·injection hv with hv
  injection hv with hv;injection hv with hv;rw [<-hv];exact h2
theorem lL.set{Sz:St}{C:Nat->Prop}{its:List It}{cs:List Value}{ds:List D} (h:lL Sz C its cs ds){q:Nat}{it:It}{v:Value}{d:D} (hq:its[q]? =some it) (r:Rd Sz C it v d):lL Sz C its (cs.set q v) (ds.set q d):=by
 refine⟨by rw [List.length_set];exact h.len,by rw [List.length_set];exact h.jK,fun j it' v' d' a b c=>?_⟩;have hlt:=(List.getElem?_eq_some_iff.1 hq).1;by_cases e:j=q
 ·subst e
  rw [List.getElem?_set_self (by rw [h.len];exact hlt)]at b;rw [List.getElem?_set_self (by rw [h.jK];exact hlt)]at c;rw [hq]at a;injection a with a;injection b with b;injection c with c;subst a b c;exact r
 ·rw [List.getElem?_set_ne (fun x=>e x.symm)]at b c
  exact h.rd j it' v' d' a b c
structure Fil (Sz:St) (C:Nat->Prop) (b:Nat) (t:TypeId) (its:List It) (cs:List Value) (ds:List D):Prop where
 lt:b<Sz.n
 inC:C b
 obj:Sz.obj b=some (.cells cs t .exact)
 rd:lL Sz C its cs ds
theorem Fil.fr{Sz S':St}{C W:Nat->Prop}{b:Nat}{t:TypeId}{its:List It}{cs:List Value}{ds:List D} (h:Fil Sz C b t its cs ds) (f:cM W Sz S' W) (hW:∀i,W i->C i) (hb:¬W b):Fil S' C b t its cs ds:=
 ⟨Nat.lt_of_lt_of_le h.lt f.n,h.inC,by rw [f.same b h.lt hb];exact h.obj,h.rd.fr (f.up hW)⟩
theorem Fil.set{Sz:St}{C:Nat->Prop}{b:Nat}{t:TypeId}{its:List It}{cs:List Value}{ds:List D} (h:Fil Sz C b t its cs ds){q:Nat}{it:It}{v:Value}{d:D} (hq:its[q]? =some it) (r:Rd Sz C it v d) (k:St->Bool):
 ∃S',Fil S' C b t its (cs.set q v) (ds.set q d)/\cM (Row1 b) Sz S' (Row1 b)/\cQ 1 (pt b q) v Sz k=k S':=by
 have hlt:=(List.getElem?_eq_some_iff.1 hq).1;have f:cM (Row1 b) Sz (Sz.set b (.cells (cs.set q v) t .exact)) (Row1 b):=⟨by rw [gG];exact Nat.le_refl _,fun i _ hb=>aJ hb,fun _ h=> .inl h⟩;exact⟨_,⟨by rw [gG];exact h.lt,h.inC,aX,(h.rd.set hq r).fr (f.up fun i hi=>by rw [show i=b from hi];exact h.inC)⟩,f,fI h.obj (by rw [h.rd.len];exact hlt) r.one k⟩
variable{most:Nat}
section
variable{n rr j N b sz bytes:Nat}{S0 S1z S5:St}{C Cx:Nat->Prop}{its:List It}{el:TypeId}{a:Value}{es:List (List D)}{ds:List D}{cs z:List Value}{st:RS}
theorem TC (hrr:C rr) (hC:∀i,C i->i<S0.n) (hsz:its.length=sz) (ha:Acc S1z C S0.n its el a es) (hf:Fn S0.n (Row1 rr) S0 S1z) (F:cM (Row1 rr) S1z S5 (Row1 rr)) (vP:Fil S5 Cx b el its cs ds)
 (hCx:∀i,(C i\/(S0.n<=i/\i<S1z.n))->Cx i) (hy:Ry S5 rr st) (hz:z.length=sz) (hs:cN PP el=some its.length) (hb:(es.length+1)*(bytes+1)<=1099511627776) {kk:VK}
 (hk:∀S' a',Ry S' rr st->Fn S0.n (Row1 rr) S0 S'->Acc S' C S0.n its el a' (es++[ds])->kk a' S'=true):
 (aR sz (pt b 0) S5 fun v13 Sz=>aM el 1 z [(0,sz,v13)] Sz fun v14 Sz=>kJ PP el sz bytes a v14 Sz kk)=true:=by
 have hcl:cs.length=sz:=by rw [vP.rd.len,hsz]
 have h1:cs.all oneCell=true:=by
  rw [List.all_eq_true];intro v hv;obtain⟨q,hq⟩:=List.getElem?_of_mem hv;have hlt:=(List.getElem?_eq_some_iff.1 hq).1;have hl:=vP.rd.len;have hd:=vP.rd.jK;exact(vP.rd.rd q _ v _ (List.getElem?_eq_getElem (by omega)) hq (List.getElem?_eq_getElem (by omega))).one
 rw [fW vP.obj (by omega),List.drop_zero,List.take_of_length_le (by omega),uY el hz hcl h1];have ha5:Acc S5 C S0.n its el a es:=ha.fr (F.up fun i hi=>by rw [show i=rr from hi];exact hrr) hC;have hf5:Fn S0.n (Row1 rr) S0 S5:=hf.trans (.of F hf.n);subst hsz;refine Acc.aFw ha5 (m0:=S1z.n) ha.row (.new S5 _) hf5.n (Src.single aF hcl fun v hv=>List.all_eq_true.1 h1 v hv) (fun C' hC'=>vP.rd.fr ⟨Nat.le_succ _,fun i hi _=>aL (by omega),fun i hi=> .inl (hCx i (hC' i hi))⟩) hs hb fun S7 a7 k1 k2 k3=>?_;refine hk S7 a7 (hy.fn (hC rr hrr) k1 k2 (.new S5 _)) ⟨Nat.le_trans hf5.n (Nat.le_trans (Nat.le_succ _) k2),fun i hi hb=>?_⟩ k3;rw [k1 i hi,aL (by have:=hf5.n;omega)];exact hf5.same i hi hb
theorem xG{Sz:St}{t:TypeId} (h:lL Sz Cx its cs ds) (hN:sz=its.length) (hz:z.length=sz) (hb:Cx Sz.n){kk:Value->St->Bool} (hK:∀S',aZ Sz S'->S'.n=Sz.n+1->Fil S' Cx Sz.n t its cs ds->kk (pt Sz.n 0) S'=true):
 (cC z t Sz fun v Sz=>cQ sz v (.agg ⟨cs⟩) Sz (kk v))=true:=by
 have h1:cs.all oneCell=true:=by
  rw [List.all_eq_true];intro v hv;obtain⟨q,hq⟩:=List.getElem?_of_mem hv;have hlt:=(List.getElem?_eq_some_iff.1 hq).1;have hl:=h.len;have hd:=h.jK;exact(h.rd q _ v _ (List.getElem?_eq_getElem (by omega)) hq (List.getElem?_eq_getElem (by omega))).one
 rw [eB];have hl:=h.len;rw [kR (vs:=z) (cs:=cs) aF (by omega) h1 sz (by omega)];have hx:aZ Sz ((Sz.new (.cells z t .exact)).set Sz.n (.cells cs t .exact)):=⟨Nat.le_succ _,fun i hi=>by rw [aJ (by omega),aL (by omega)]⟩;exact hK _ hx rfl ⟨Nat.lt_succ_self _,hb,aX,h.fr (hx.fr Cx)⟩
theorem Ry.fr{Sz S':St}{st:RS}{b:Nat} (h:Ry Sz rr st) (f:cM (Row1 b) Sz S' (Row1 b)) (hb:rr≠b):Ry S' rr st:=⟨Nat.lt_of_lt_of_le h.lt f.n,by rw [f.same rr h.lt hb];exact h.obj,h.len⟩
theorem UU.fb{Sz S':St}{j rr b:Nat} (h:UU Sz j rr) (f:cM (Row1 b) Sz S' (Row1 b)) (hb:j≠b):UU S' j rr:=⟨Nat.lt_of_lt_of_le h.lt f.n,h.ne,by rw [f.same j h.lt hb];exact h.obj⟩
theorem cM.newer{Sz S1z S2z:St}{W:Nat->Prop}{b:Nat} (f:cM W Sz S1z W) (g:cM (Row1 b) S1z S2z (Row1 b)) (hb:Sz.n<=b):cM W Sz S2z W:=
 ⟨Nat.le_trans f.n g.n,fun i hi hw=>by rw [g.same i (Nat.lt_of_lt_of_le hi f.n) (fun e=>by have:i=b:=e;omega),f.same i hi hw],fun _ h=> .inl h⟩
theorem GN{Sz:St} (x:Nat):Rd Sz C .int (.int .i64 (i64 x)) (.n (i64 x)):= .int (by unfold i64;omega) (by unfold i64;omega)
end
set_option maxRecDepth 100000
variable{most:Nat}
section
variable{n rr:Nat}{K:VK}{C:Nat->Prop}
theorem aCn:cN PP 141=some 2:=by kernel_rfl
theorem aCo (hM:140737488355329<most){st:RS}{Sz:St} (h:Ry Sz rr st) (hrr:C rr) (hC:∀i,C i->i<Sz.n)
 (hK:∀S' v,Ry S' rr (dec (.list bB) st).2->cM (Row1 rr) Sz S' (Row1 rr)->Rd S' C (.list bB) v (dec (.list bB) st).1->K v S'=true):(X most (n+5)).C iQ [inn rr] Sz K=true:=by
 rw [aT (by rfl),WB];unfold HM;rw [eI rfl];have hin:UU (Sz.new (.cells [pt rr 0] 108 .exact)) Sz.n rr:=⟨Nat.lt_succ_self _,by have:=h.lt;omega,aF⟩;rw [hin.ld];refine AE (n:=n) (by omega) (h.ext (.new Sz _)) fun S0 h0 f0=>?_;have hin0:=hin.fr f0;have fx:cM (Row1 rr) Sz S0 (Row1 rr):=((aZ.new Sz _).fr _).trans f0;have hN:(fD 1048576 st).1<=1048576:=sJ 1048576 st;have hC0:∀i,C i->i<S0.n:=fun i hi=>Nat.lt_of_lt_of_le (hC i hi) fx.n;rw [bP]
 refine tX (n:=n+3) (most:=most) (j:=Sz.n) (N:=(fD 1048576 st).1) (S0:=S0) (C:=C) (K:=K) (f:=bX bB) (its:=bB) (el:=141) (st0:=(fD 1048576 st).2) hrr hC0 hin0
  (L:=fun m a i S'=>gA (X most (n+4)) m (pt Sz.n 0) a (.int .i64 (.ofNat (fD 1048576 st).1)) (.int .i64 (.ofNat i)) S' K)
  (A:=fun m a i S'=>aR 1 (pt Sz.n 0) S' fun v6 S'=>(X most (n+4)).C aI [v6] S' fun v7 S'=>
   dK [zI,zL] [(0,1,v7)] fun v8=>
   cC [zI,zL] 141 S' fun v9 S'=>
   cQ 2 v9 v8 S' fun S'=>
   aR 1 (pt Sz.n 0) S' fun v10 S'=>
   (X most (n+4)).C cP [v10] S' fun v11 S'=>
   aC 1 v9 fun v12=>
   cQ 1 v12 v11 S' fun S'=>
   aR 2 v9 S' fun v13 S'=>
   aM 141 1 [zI,zL] [(0,2,v13)] S' fun v14 S'=>
   kJ PP 141 2 32 a v14 S' fun v15 S'=>
   aK PP .add 3 (.int .i64 (.ofNat i)) (.int .i64 (.ofNat 1)) fun v16=>gA (X most (n+4)) m (pt Sz.n 0) v15 (.int .i64 (.ofNat (fD 1048576 st).1)) v16 S' K)
  (fun m a i S'=>?_) (fun i m a S1z st1 es hi h1 hj ha hl hf k=>?_) (fun S' v hy hf ha=>?_) (fD 1048576 st).1 0 most S0 zL _ [] (by omega) (by omega) h0 ⟨Nat.le_refl _,fun _ _ _=>rfl⟩ (.inl ⟨rfl,rfl⟩) rfl rfl
 ·rw [FB]
  unfold tY;rw [bP]
 ·show(aR 1 (pt Sz.n 0) S1z _)=true
  rw [hj.ld];refine vJ (n:=n) (by omega) h1 fun S2z h2 f2=>?_;rw [bF rfl (by simp),dR];have n01:=hf.n;have n12:=f2.n;obtain⟨Cx,zO⟩:∃Cx:Nat->Prop,Cx=fun i=>i<=S2z.n/\(S0.n<=i\/C i):=⟨_,rfl⟩;have AF:Cx rr:=by rw [zO];exact⟨by have:=hC0 rr hrr;omega,.inr hrr⟩
  have Hf:Cx S2z.n:=by rw [zO];exact⟨Nat.le_refl _,.inl (by omega)⟩
  have r1:lL S2z Cx bB [.int .i64 (i64 (gR 8 st1).1),.slice none 0 0] [.n (i64 (gR 8 st1).1),.l []]:= .cons (GN _) (.cons (.nums .empty) .nil);refine xG (its:=bB) (cs:=[.int .i64 (i64 (gR 8 st1).1),.slice none 0 0]) r1 rfl rfl Hf fun S3z x3 n3 KL=>?_;have hj3:=(hj.fr f2).fr (x3.fr (Row1 rr));rw [hj3.ld];refine Hc (n:=n) (C:=Cx) (by omega) (h2.ext x3) AF (fun i hi=>by rw [zO]at hi;omega) fun S4 v4 h4 f4 r4=>?_;have nb:¬Row1 rr S2z.n:=fun e=>by have:S2z.n=rr:=e;have:=h2.lt;omega
  have aD0:=KL.fr f4 (fun i hi=>by rw [show i=rr from hi];exact AF) nb;rw [aB,Nat.zero_add]
  obtain⟨S5,aHb,f5,e5⟩:=aD0.set (q:=1) (it:= .nums) rfl r4 (fun S'=>aR 2 (pt S2z.n 0) S' fun v13 S'=>
   aM 141 1 [zI,zL] [(0,2,v13)] S' fun v14 S'=>
   kJ PP 141 2 32 a v14 S' fun v15 S'=>
   aK PP .add 3 (.int .i64 (.ofNat i)) (.int .i64 (.ofNat 1)) fun v16=>gA (X most (n+4)) m (pt Sz.n 0) v15 (.int .i64 (.ofNat (fD 1048576 st).1)) v16 S' K)
  rw [e5];have F15:cM (Row1 rr) S1z S5 (Row1 rr):=((f2.trans (x3.fr _)).trans f4).newer f5 n12
  refine TC (C:=C) (S1z:=S1z) (S0:=S0) (es:=es) (its:=bB) hrr hC0 rfl ha hf F15 aHb (fun i hi=>by
   rw [zO];rcases hi with hi | hi
   ·exact⟨by have:=hC0 i hi;omega,.inr hi⟩
   ·exact⟨by omega,.inl hi.1⟩) (h4.fr f5 (fun e=>nb e.symm)) rfl aCn (by rw [hl];omega) fun S7 a7 h7 f7 k7=>?_
  rw [aP _ _ _ _ (by omega)];exact k S7 a7 h7 f7 k7
 ·have hd:dec (.list bB) st=(.l (kK (bX bB) (fD 1048576 st).1 (fD 1048576 st).2).1,(kK (bX bB) (fD 1048576 st).1 (fD 1048576 st).2).2):=rfl
  have hle:=rF (bX bB) (fD 1048576 st).1 (fD 1048576 st).2;refine hK S' v (by rw [hd];exact hy) (fx.trans hf.fr) ?_;rw [hd];exact ha.rd hC0 (by omega)
end
set_option maxRecDepth 100000
variable{most:Nat}
structure Rg (sb:St) (rr j b:Nat) (Cx:Nat->Prop) (t:TypeId) (its:List It) (Sz:St) (st:RS) (ds:List D):Prop where
 vP:∃cs,Fil Sz Cx b t its cs ds
 hy:Ry Sz rr st
 hj:UU Sz j rr
 F:cM (Row1 rr) sb Sz (Row1 rr)
 bn:sb.n<=b
 cx:Cx rr
 cb:∀i,Cx i->i<=b
 nb:rr≠b
 jb:j≠b
section
variable{n rr j b q:Nat}{sb Sz:St}{Cx:Nat->Prop}{t:TypeId}{its:List It}{st:RS}{ds:List D}{kk:St->Bool}
theorem Rg.lt (g:Rg sb rr j b Cx t its Sz st ds):∀i,Cx i->i<Sz.n:=fun i hi=>by
 obtain⟨cs,f⟩:=g.vP;exact Nat.lt_of_le_of_lt (g.cb i hi) f.lt
theorem Rg.put{S1z:St}{st1:RS} (g:Rg sb rr j b Cx t its Sz st ds) (h1:Ry S1z rr st1) (f1:cM (Row1 rr) Sz S1z (Row1 rr)){it:It}{v:Value}{d:D} (hq:its[q]? =some it) (r:Rd S1z Cx it v d) (hK:∀S',Rg sb rr j b Cx t its S' st1 (ds.set q d)->kk S'=true):
 (aC q (pt b 0) fun v8=>cQ 1 v8 v S1z kk)=true:=by
 obtain⟨cs,vP⟩:=g.vP;have Lc:=vP.fr f1 (fun i hi=>by rw [show i=rr from hi];exact g.cx) (fun e=>g.nb (Eq.symm e));rw [aB,Nat.zero_add];obtain⟨S2z,Hg,f2,e2⟩:=Lc.set hq r kk;rw [e2];exact hK S2z ⟨⟨_,Hg⟩,h1.fr f2 g.nb,(g.hj.fr f1).fb f2 g.jb,(g.F.trans f1).newer f2 g.bn,g.bn,g.cx,g.cb,g.nb,g.jb⟩
theorem tZ (hM:140737488355329<most) (g:Rg sb rr j b Cx t its Sz st ds) (q:Nat) (hq:its[q]? =some .int) (hK:∀S',Rg sb rr j b Cx t its S' (dec .int st).2 (ds.set q (dec .int st).1)->kk S'=true):
 (aR 1 (pt j 0) Sz fun v6 Sz=>(X most (n+4)).C aI [v6] Sz fun v7 Sz=>aC q (pt b 0) fun v8=>cQ 1 v8 v7 Sz kk)=true:=by
 rw [g.hj.ld];refine vJ (n:=n) (by omega) g.hy fun S1z h1 f1=>?_;exact g.put h1 f1 hq (GN _) hK
theorem aCP (hM:140737488355329<most) (g:Rg sb rr j b Cx t its Sz st ds) (q:Nat) (hq:its[q]? =some .num) (hK:∀S',Rg sb rr j b Cx t its S' (dec .num st).2 (ds.set q (dec .num st).1)->kk S'=true):
 (aR 1 (pt j 0) Sz fun v6 Sz=>(X most (n+4)).C iK [v6] Sz fun v7 Sz=>aC q (pt b 0) fun v8=>cQ 1 v8 v7 Sz kk)=true:=by
 rw [g.hj.ld];refine Vu (n:=n) (by omega) g.hy fun S1z h1 f1=>?_;exact g.put h1 f1 hq (.num (Pk 8 (by omega) st)) hK
theorem aD1 (hM:140737488355329<most) (g:Rg sb rr j b Cx t its Sz st ds) (q:Nat) (hq:its[q]? =some .kind) (hK:∀S',Rg sb rr j b Cx t its S' (dec .kind st).2 (ds.set q (dec .kind st).1)->kk S'=true):
 (aR 1 (pt j 0) Sz fun v6 Sz=>(X most (n+4)).C kL [v6] Sz fun v7 Sz=>aC q (pt b 0) fun v8=>cQ 1 v8 v7 Sz kk)=true:=by
 rw [g.hj.ld];refine Rx (n:=n) (by omega) g.hy fun S1z h1 f1=>?_;exact g.put h1 f1 hq (.kind (Hb st)) hK
theorem aAw (hM:140737488355329<most) (g:Rg sb rr j b Cx t its Sz st ds) (q:Nat) (hq:its[q]? =some .is) (hK:∀S',Rg sb rr j b Cx t its S' (dec .is st).2 (ds.set q (dec .is st).1)->kk S'=true):
 (aR 1 (pt j 0) Sz fun v6 Sz=>(X most (n+4)).C jI [v6] Sz fun v7 Sz=>aC q (pt b 0) fun v8=>cQ 1 v8 v7 Sz kk)=true:=by
 rw [g.hj.ld];refine aFu (n:=n) (by omega) g.hy fun S1z h1 f1=>?_;exact g.put h1 f1 hq .is hK
theorem NX (hM:140737488355329<most) (g:Rg sb rr j b Cx t its Sz st ds) (q:Nat) (hq:its[q]? =some .text) (hK:∀S',Rg sb rr j b Cx t its S' (dec .text st).2 (ds.set q (dec .text st).1)->kk S'=true):
 (aR 1 (pt j 0) Sz fun v6 Sz=>(X most (n+4)).C cU [v6] Sz fun v7 Sz=>aC q (pt b 0) fun v8=>cQ 1 v8 v7 Sz kk)=true:=by
 rw [g.hj.ld];refine Rz (n:=n) (by omega) g.hy fun S1z h1 f1=>?_;have:=Gc st;exact g.put h1 f1 hq (.text (by omega)) hK
theorem Hh (hM:140737488355329<most) (g:Rg sb rr j b Cx t its Sz st ds) (q:Nat) (hq:its[q]? =some .nums) (hK:∀S',Rg sb rr j b Cx t its S' (dec .nums st).2 (ds.set q (dec .nums st).1)->kk S'=true):
 (aR 1 (pt j 0) Sz fun v6 Sz=>(X most (n+4)).C cP [v6] Sz fun v7 Sz=>aC q (pt b 0) fun v8=>cQ 1 v8 v7 Sz kk)=true:=by
 rw [g.hj.ld];refine Hc (n:=n) (by omega) g.hy g.cx g.lt fun S1z v h1 f1 r1=>?_;exact g.put h1 f1 hq r1 hK
theorem Sf (hM:140737488355329<most) (g:Rg sb rr j b Cx t its Sz st ds) (q:Nat) (hq:its[q]? =some (.list bA)) (hK:∀S',Rg sb rr j b Cx t its S' (dec (.list bA) st).2 (ds.set q (dec (.list bA) st).1)->kk S'=true):
 (aR 1 (pt j 0) Sz fun v6 Sz=>(X most (n+5)).C lB [v6] Sz fun v7 Sz=>aC q (pt b 0) fun v8=>cQ 1 v8 v7 Sz kk)=true:=by
 rw [g.hj.ld];refine aAv (n:=n) hM g.hy g.cx g.lt fun S1z v h1 f1 r1=>?_;exact g.put h1 f1 hq r1 hK
theorem aAx (hM:140737488355329<most) (g:Rg sb rr j b Cx t its Sz st ds) (q:Nat) (hq:its[q]? =some (.list bB)) (hK:∀S',Rg sb rr j b Cx t its S' (dec (.list bB) st).2 (ds.set q (dec (.list bB) st).1)->kk S'=true):
 (aR 1 (pt j 0) Sz fun v6 Sz=>(X most (n+5)).C iQ [v6] Sz fun v7 Sz=>aC q (pt b 0) fun v8=>cQ 1 v8 v7 Sz kk)=true:=by
 rw [g.hj.ld];refine aCo (n:=n) hM g.hy g.cx g.lt fun S1z v h1 f1 r1=>?_;exact g.put h1 f1 hq r1 hK
end
set_option maxRecDepth 100000
variable{most:Nat}
section
variable{n rr:Nat}{K:VK}{C:Nat->Prop}
theorem aCp:cN PP 59=some 2:=by kernel_rfl
theorem aAy (hM:140737488355329<most){st:RS}{Sz:St} (h:Ry Sz rr st) (hrr:C rr) (hC:∀i,C i->i<Sz.n)
 (hK:∀S' v,Ry S' rr (dec (.list aY) st).2->cM (Row1 rr) Sz S' (Row1 rr)->Rd S' C (.list aY) v (dec (.list aY) st).1->K v S'=true):(X most (n+5)).C lC [inn rr] Sz K=true:=by
 rw [aT (by rfl),TD];unfold FC;rw [eI rfl];have hin:UU (Sz.new (.cells [pt rr 0] 108 .exact)) Sz.n rr:=⟨Nat.lt_succ_self _,by have:=h.lt;omega,aF⟩;rw [hin.ld];refine AE (n:=n) (by omega) (h.ext (.new Sz _)) fun S0 h0 f0=>?_;have hin0:=hin.fr f0;have fx:cM (Row1 rr) Sz S0 (Row1 rr):=((aZ.new Sz _).fr _).trans f0;have hN:(fD 1048576 st).1<=1048576:=sJ 1048576 st;have hC0:∀i,C i->i<S0.n:=fun i hi=>Nat.lt_of_lt_of_le (hC i hi) fx.n;rw [bP]
 refine tX (n:=n+3) (most:=most) (j:=Sz.n) (N:=(fD 1048576 st).1) (S0:=S0) (C:=C) (K:=K) (f:=bX aY) (its:=aY) (el:=59) (st0:=(fD 1048576 st).2) hrr hC0 hin0
  (L:=fun m a i S'=>gW (X most (n+4)) m (pt Sz.n 0) a (.int .i64 (.ofNat (fD 1048576 st).1)) (.int .i64 (.ofNat i)) S' K)
  (A:=fun m a i S'=>dK [(.int .u64 (.ofNat 0)),(.int .u64 (.ofNat 0))] [] fun v6=>cC [(.int .u64 (.ofNat 0)),(.int .u64 (.ofNat 0))] 59 S' fun v7 S'=>cQ 2 v7 v6 S' fun S'=>aR 1 (pt Sz.n 0) S' fun v8 S'=>(X most (n+4)).C iK [v8] S' fun v9 S'=>aC 0 v7 fun v10=>cQ 1 v10 v9 S' fun S'=>aR 1 (pt Sz.n 0) S' fun v11 S'=>(X most (n+4)).C iK [v11] S' fun v12 S'=>aC 1 v7 fun v13=>cQ 1 v13 v12 S' fun S'=>aR 2 v7 S' fun v14 S'=>aM 59 1 [(.int .u64 (.ofNat 0)),(.int .u64 (.ofNat 0))] [(0,2,v14)] S' fun v15 S'=>kJ PP 59 2 16 a v15 S' fun v16 S'=>aK PP .add 3 (.int .i64 (.ofNat i)) (.int .i64 (.ofNat 1)) fun v17=>(gW) (X most (n+4)) m (pt Sz.n 0) v16 (.int .i64 (.ofNat (fD 1048576 st).1)) v17 S' K)
  (fun m a i S'=>?_) (fun i m a S1z st1 es hi h1 hj ha hl hf k=>?_) (fun S' v hy hf ha=>?_) (fD 1048576 st).1 0 most S0 zL _ [] (by omega) (by omega) h0 ⟨Nat.le_refl _,fun _ _ _=>rfl⟩ (.inl ⟨rfl,rfl⟩) rfl rfl
 ·rw [DK]
  unfold sN;rw [bP]
 ·show(dK _ _ _)=true
  obtain⟨S2z,e2⟩:∃S2z,S2z=S1z:=⟨_,rfl⟩;have h2:Ry S2z rr st1:=by rw [e2];exact h1
  have f2:cM (Row1 rr) S1z S2z (Row1 rr):=by rw [e2];exact .refl _ _
  rw [dR,<-e2];have n01:=hf.n;have n12:=f2.n;obtain⟨Cx,zO⟩:∃Cx:Nat->Prop,Cx=fun i=>i<=S2z.n/\(S0.n<=i\/C i):=⟨_,rfl⟩;have AF:Cx rr:=by rw [zO];exact⟨by have:=hC0 rr hrr;omega,.inr hrr⟩
  have Hf:Cx S2z.n:=by rw [zO];exact⟨Nat.le_refl _,.inl (by omega)⟩
  have r1:lL S2z Cx aY [.int .u64 (.ofNat 0),.int .u64 (.ofNat 0)] [.n (0:Nat),.n (0:Nat)]:= .cons (.num (by omega)) (.cons (.num (by omega)) .nil);refine xG (its:=aY) r1 rfl rfl Hf fun S3z x3 n3 KL=>?_;have hj3:=(hj.fr f2).fr (x3.fr (Row1 rr));have g0:Rg S1z rr Sz.n S2z.n Cx 59 aY S3z st1 _:=⟨⟨_,KL⟩,h2.ext x3,hj3,f2.trans (x3.fr _),n12,AF,fun i hi=>by rw [zO]at hi;exact hi.1,by have:=h2.lt;omega,by have:=hj.lt;omega⟩;refine aCP (n:=n) hM g0 0 rfl fun S10 g1=>?_;refine aCP (n:=n) hM g1 1 rfl fun S11 g2=>?_;obtain⟨cs,vP⟩:=g2.vP
  refine TC (C:=C) (S1z:=S1z) (S0:=S0) (es:=es) (its:=aY) hrr hC0 rfl ha hf g2.F vP (fun i hi=>by
   rw [zO];rcases hi with hi | hi
   ·exact⟨by have:=hC0 i hi;omega,.inr hi⟩
   ·exact⟨by omega,.inl hi.1⟩) g2.hy rfl aCp (by rw [hl];omega) fun S7 a7 h7 f7 k7=>?_
  rw [aP _ _ _ _ (by omega)];simp only [List.set_cons_succ,List.set_cons_zero]at k7;refine k S7 a7 ?_ f7 ?_
  ·simp only [aY,bX];exact h7
  ·simp only [aY,bX]at k7 ⊢;exact k7
 ·have hd:dec (.list aY) st=(.l (kK (bX aY) (fD 1048576 st).1 (fD 1048576 st).2).1,(kK (bX aY) (fD 1048576 st).1 (fD 1048576 st).2).2):=rfl
  have hle:=rF (bX aY) (fD 1048576 st).1 (fD 1048576 st).2;refine hK S' v (by rw [hd];exact hy) (fx.trans hf.fr) ?_;rw [hd];exact ha.rd hC0 (by omega)
theorem aCq:cN PP 62=some 11:=by kernel_rfl
theorem aCr (hM:140737488355329<most){st:RS}{Sz:St} (h:Ry Sz rr st) (hrr:C rr) (hC:∀i,C i->i<Sz.n)
 (hK:∀S' v,Ry S' rr (dec (.list aV) st).2->cM (Row1 rr) Sz S' (Row1 rr)->Rd S' C (.list aV) v (dec (.list aV) st).1->K v S'=true):(X most (n+5)).C iR [inn rr] Sz K=true:=by
 rw [aT (by rfl),WC];unfold HN;rw [eI rfl];have hin:UU (Sz.new (.cells [pt rr 0] 108 .exact)) Sz.n rr:=⟨Nat.lt_succ_self _,by have:=h.lt;omega,aF⟩;rw [hin.ld];refine AE (n:=n) (by omega) (h.ext (.new Sz _)) fun S0 h0 f0=>?_;have hin0:=hin.fr f0;have fx:cM (Row1 rr) Sz S0 (Row1 rr):=((aZ.new Sz _).fr _).trans f0;have hN:(fD 1048576 st).1<=1048576:=sJ 1048576 st;have hC0:∀i,C i->i<S0.n:=fun i hi=>Nat.lt_of_lt_of_le (hC i hi) fx.n;rw [bP]
 refine tX (n:=n+3) (most:=most) (j:=Sz.n) (N:=(fD 1048576 st).1) (S0:=S0) (C:=C) (K:=K) (f:=bX aV) (its:=aV) (el:=62) (st0:=(fD 1048576 st).2) hrr hC0 hin0
  (L:=fun m a i S'=>iL (X most (n+4)) m (pt Sz.n 0) a (.int .i64 (.ofNat (fD 1048576 st).1)) (.int .i64 (.ofNat i)) S' K)
  (A:=fun m a i S'=>aR 1 (pt Sz.n 0) S' fun v6 S'=>(X most (n+4)).C kL [v6] S' fun v7 S'=>dK [(.int .u8 (.ofNat 0)),zI,zI,zI,zI,zI,zI,zI,zI,zS,zL] [(0,1,v7)] fun v8=>cC [(.int .u8 (.ofNat 0)),zI,zI,zI,zI,zI,zI,zI,zI,zS,zL] 62 S' fun v9 S'=>cQ 11 v9 v8 S' fun S'=>aR 1 (pt Sz.n 0) S' fun v10 S'=>(X most (n+4)).C aI [v10] S' fun v11 S'=>aC 1 v9 fun v12=>cQ 1 v12 v11 S' fun S'=>aR 1 (pt Sz.n 0) S' fun v13 S'=>(X most (n+4)).C aI [v13] S' fun v14 S'=>aC 2 v9 fun v15=>cQ 1 v15 v14 S' fun S'=>aR 1 (pt Sz.n 0) S' fun v16 S'=>(X most (n+4)).C aI [v16] S' fun v17 S'=>aC 3 v9 fun v18=>cQ 1 v18 v17 S' fun S'=>aR 1 (pt Sz.n 0) S' fun v19 S'=>(X most (n+4)).C aI [v19] S' fun v20 S'=>aC 4 v9 fun v21=>cQ 1 v21 v20 S' fun S'=>aR 1 (pt Sz.n 0) S' fun v22 S'=>(X most (n+4)).C aI [v22] S' fun v23 S'=>aC 5 v9 fun v24=>cQ 1 v24 v23 S' fun S'=>aR 1 (pt Sz.n 0) S' fun v25 S'=>(X most (n+4)).C aI [v25] S' fun v26 S'=>aC 6 v9 fun v27=>cQ 1 v27 v26 S' fun S'=>aR 1 (pt Sz.n 0) S' fun v28 S'=>(X most (n+4)).C aI [v28] S' fun v29 S'=>aC 7 v9 fun v30=>cQ 1 v30 v29 S' fun S'=>aR 1 (pt Sz.n 0) S' fun v31 S'=>(X most (n+4)).C aI [v31] S' fun v32 S'=>aC 8 v9 fun v33=>cQ 1 v33 v32 S' fun S'=>aR 1 (pt Sz.n 0) S' fun v34 S'=>(X most (n+4)).C cU [v34] S' fun v35 S'=>aC 9 v9 fun v36=>cQ 1 v36 v35 S' fun S'=>aR 1 (pt Sz.n 0) S' fun v37 S'=>(X most (n+4)).C cP [v37] S' fun v38 S'=>aC 10 v9 fun v39=>cQ 1 v39 v38 S' fun S'=>aR 11 v9 S' fun v40 S'=>aM 62 1 [(.int .u8 (.ofNat 0)),zI,zI,zI,zI,zI,zI,zI,zI,zS,zL] [(0,11,v40)] S' fun v41 S'=>kJ PP 62 11 112 a v41 S' fun v42 S'=>aK PP .add 3 (.int .i64 (.ofNat i)) (.int .i64 (.ofNat 1)) fun v43=>(iL) (X most (n+4)) m (pt Sz.n 0) v42 (.int .i64 (.ofNat (fD 1048576 st).1)) v43 S' K)
  (fun m a i S'=>?_) (fun i m a S1z st1 es hi h1 hj ha hl hf k=>?_) (fun S' v hy hf ha=>?_) (fD 1048576 st).1 0 most S0 zL _ [] (by omega) (by omega) h0 ⟨Nat.le_refl _,fun _ _ _=>rfl⟩ (.inl ⟨rfl,rfl⟩) rfl rfl
 ·rw [FD]
  unfold uA;rw [bP]
 ·show(aR 1 (pt Sz.n 0) S1z _)=true
  rw [hj.ld];refine Rx (n:=n) (by omega) h1 fun S2z h2 f2=>?_;rw [bF rfl (by simp),dR];have n01:=hf.n;have n12:=f2.n;obtain⟨Cx,zO⟩:∃Cx:Nat->Prop,Cx=fun i=>i<=S2z.n/\(S0.n<=i\/C i):=⟨_,rfl⟩;have AF:Cx rr:=by rw [zO];exact⟨by have:=hC0 rr hrr;omega,.inr hrr⟩
  have Hf:Cx S2z.n:=by rw [zO];exact⟨Nat.le_refl _,.inl (by omega)⟩
  have r1:lL S2z Cx aV (.int .u8 (.ofNat (gR 1 st1).1)::(aV.map jM).tail) [(dec .kind st1).1,.n 0,.n 0,.n 0,.n 0,.n 0,.n 0,.n 0,.n 0,.s [],.l []]:= .cons (.kind (Hb st1)) (sF S2z Cx aV.tail);refine xG (its:=aV) r1 rfl rfl Hf fun S3z x3 n3 KL=>?_;have hj3:=(hj.fr f2).fr (x3.fr (Row1 rr));have g0:Rg S1z rr Sz.n S2z.n Cx 62 aV S3z (dec .kind st1).2 _:=⟨⟨_,KL⟩,h2.ext x3,hj3,f2.trans (x3.fr _),n12,AF,fun i hi=>by rw [zO]at hi;exact hi.1,by have:=h2.lt;omega,by have:=hj.lt;omega⟩;refine tZ (n:=n) hM g0 1 rfl fun S10 g1=>?_;refine tZ (n:=n) hM g1 2 rfl fun S11 g2=>?_;refine tZ (n:=n) hM g2 3 rfl fun S12 g3=>?_;refine tZ (n:=n) hM g3 4 rfl fun S13 g4=>?_;refine tZ (n:=n) hM g4 5 rfl fun S14 g5=>?_;refine tZ (n:=n) hM g5 6 rfl fun S15 g6=>?_;refine tZ (n:=n) hM g6 7 rfl fun S16 g7=>?_;refine tZ (n:=n) hM g7 8 rfl fun S17 g8=>?_;refine NX (n:=n) hM g8 9 rfl fun S18 g9=>?_;refine Hh (n:=n) hM g9 10 rfl fun S19 g10=>?_;obtain⟨cs,vP⟩:=g10.vP
  refine TC (C:=C) (S1z:=S1z) (S0:=S0) (es:=es) (its:=aV) hrr hC0 rfl ha hf g10.F vP (fun i hi=>by
   rw [zO];rcases hi with hi | hi
   ·exact⟨by have:=hC0 i hi;omega,.inr hi⟩
   ·exact⟨by omega,.inl hi.1⟩) g10.hy rfl aCq (by rw [hl];omega) fun S7 a7 h7 f7 k7=>?_
  rw [aP _ _ _ _ (by omega)];simp only [List.set_cons_succ,List.set_cons_zero]at k7;refine k S7 a7 ?_ f7 ?_
  ·simp only [aV,bX];exact h7
  ·simp only [aV,bX]at k7 ⊢;exact k7
 ·have hd:dec (.list aV) st=(.l (kK (bX aV) (fD 1048576 st).1 (fD 1048576 st).2).1,(kK (bX aV) (fD 1048576 st).1 (fD 1048576 st).2).2):=rfl
  have hle:=rF (bX aV) (fD 1048576 st).1 (fD 1048576 st).2;refine hK S' v (by rw [hd];exact hy) (fx.trans hf.fr) ?_;rw [hd];exact ha.rd hC0 (by omega)
end
set_option maxRecDepth 100000
variable{most:Nat}
section
variable{n rr j:Nat}{S0 S1z:St}{C:Nat->Prop}{a:Value}{es:List (List D)}{st:RS}
theorem aD2:cN PP 60=some 1:=by kernel_rfl
theorem aCs (hM:140737488355329<most) (hrr:C rr) (hC:∀i,C i->i<S0.n) (ha:Acc S1z C S0.n cO 60 a es) (hf:Fn S0.n (Row1 rr) S0 S1z) (hy:Ry S1z rr st) (hj:UU S1z j rr) (hb:es.length<=1048576){kk:VK}
 (hk:∀S' a',Ry S' rr (bX cO st).2->Fn S0.n (Row1 rr) S0 S'->Acc S' C S0.n cO 60 a' (es++[(bX cO st).1])->kk a' S'=true):
 (aR 1 (pt j 0) S1z fun v6 Sz=>(X most (n+4)).C cP [v6] Sz fun v7 Sz=>aM 60 1 [zL] [(0,1,v7)] Sz fun v8 Sz=>kJ PP 60 1 24 a v8 Sz kk)=true:=by
 rw [hj.ld];have n01:=hf.n;obtain⟨Cx,zO⟩:∃Cx:Nat->Prop,Cx=fun i=>i<S1z.n/\(S0.n<=i\/C i):=⟨_,rfl⟩;have AF:Cx rr:=by rw [zO];exact⟨hy.lt,.inr hrr⟩
 refine Hc (n:=n) (C:=Cx) (by omega) hy AF (fun i hi=>by rw [zO]at hi;exact hi.1) fun S2z v h2 f2 r2=>?_;rw [SP _ _ _ r2.one];have ha2:Acc S2z C S0.n cO 60 a es:=ha.fr (f2.up fun i hi=>by rw [show i=rr from hi];exact hrr) hC;have hf2:Fn S0.n (Row1 rr) S0 S2z:=hf.trans (.of f2 hf.n);have ra:lL S2z Cx cO [v] [(dec .nums st).1]:= .cons r2 .nil
 refine Acc.aFw (its:=cO) ha2 (m0:=S1z.n) ha.row (.new S2z _) hf2.n (Src.single aF rfl (by simpa using r2.one)) (fun C' hC'=>ra.fr ⟨Nat.le_succ _,fun i hi _=>aL (by omega),fun i hi=> .inl (by
  rw [zO];rcases hC' i hi with h | h
  ·exact⟨by have:=hC i h;omega,.inr h⟩
  ·exact⟨h.2,.inl h.1⟩)⟩) aD2 (by omega) fun S7 a7 k1 k2 k3=>?_
 have e1:bX cO st=([(dec .nums st).1],(dec .nums st).2):=rfl;refine hk S7 a7 (by rw [e1];exact h2.fn (hC rr hrr) k1 k2 (.new S2z _)) ⟨Nat.le_trans hf2.n (Nat.le_trans (Nat.le_succ _) k2),fun i hi hb=>?_⟩ (by rw [e1];exact k3);rw [k1 i hi,aL (by have:=hf2.n;omega)];exact hf2.same i hi hb
end
end Go.Am
set_option maxRecDepth 100000
namespace Go.Am
noncomputable def cZ (x:EV) (m:Nat) (t1 t2 t3 t4 t5:Value) (Sz:St) (K:VK):Bool:=gJ PP dD qE (x.E PP) [.r,.r,.r,.r,.r,.r,.r,.r,.r,.r,.r,.r,.r,.r,.r,.r,.l,.r,.d] m [] [t1,t2,t3,t4,t5] Sz K
noncomputable def CT (x:EV) (a0:Value) (Sz:St) (K:VK):Bool:=
 iP 108 a0 Sz fun v0 Sz=>
 cC [zI,zI,zI,zI,zI,zI,zI,zS,zS,zI,zI,zF,zF,zS,zL] 42 Sz fun v1 Sz=>
 aR 1 v0 Sz fun v2 Sz=>
 x.C aI [v2] Sz fun v3 Sz=>
 dK [zI,zI,zI,zI,zI,zI,zI,zS,zS,zI,zI,zF,zF,zS,zL] [(0,1,v3)] fun v4=>
 cC [zI,zI,zI,zI,zI,zI,zI,zS,zS,zI,zI,zF,zF,zS,zL] 42 Sz fun v5 Sz=>
 cQ 15 v5 v4 Sz fun Sz=>
 aR 1 v0 Sz fun v6 Sz=>
 x.C aI [v6] Sz fun v7 Sz=>
 aC 1 v5 fun v8=>
 cQ 1 v8 v7 Sz fun Sz=>
 aR 1 v0 Sz fun v9 Sz=>
 x.C aI [v9] Sz fun v10 Sz=>
 aC 2 v5 fun v11=>
 cQ 1 v11 v10 Sz fun Sz=>
 aR 1 v0 Sz fun v12 Sz=>
 x.C aI [v12] Sz fun v13 Sz=>
 aC 3 v5 fun v14=>
 cQ 1 v14 v13 Sz fun Sz=>
 aR 1 v0 Sz fun v15 Sz=>
 x.C aI [v15] Sz fun v16 Sz=>
 aC 4 v5 fun v17=>
 cQ 1 v17 v16 Sz fun Sz=>
 aR 1 v0 Sz fun v18 Sz=>
 x.C aI [v18] Sz fun v19 Sz=>
 aC 5 v5 fun v20=>
 cQ 1 v20 v19 Sz fun Sz=>
 aR 1 v0 Sz fun v21 Sz=>
 x.C aI [v21] Sz fun v22 Sz=>
 aC 6 v5 fun v23=>
 cQ 1 v23 v22 Sz fun Sz=>
 aR 1 v0 Sz fun v24 Sz=>
 x.C cU [v24] Sz fun v25 Sz=>
 aC 7 v5 fun v26=>
 cQ 1 v26 v25 Sz fun Sz=>
 aR 1 v0 Sz fun v27 Sz=>
 x.C cU [v27] Sz fun v28 Sz=>
 aC 8 v5 fun v29=>
 cQ 1 v29 v28 Sz fun Sz=>
 aR 1 v0 Sz fun v30 Sz=>
 x.C aI [v30] Sz fun v31 Sz=>
 aC 9 v5 fun v32=>
 cQ 1 v32 v31 Sz fun Sz=>
 aR 1 v0 Sz fun v33 Sz=>
 x.C aI [v33] Sz fun v34 Sz=>
 aC 10 v5 fun v35=>
 cQ 1 v35 v34 Sz fun Sz=>
 aR 1 v0 Sz fun v36 Sz=>
 x.C jI [v36] Sz fun v37 Sz=>
 aC 11 v5 fun v38=>
 cQ 1 v38 v37 Sz fun Sz=>
 aR 1 v0 Sz fun v39 Sz=>
 x.C jI [v39] Sz fun v40 Sz=>
 aC 12 v5 fun v41=>
 cQ 1 v41 v40 Sz fun Sz=>
 aR 1 v0 Sz fun v42 Sz=>
 x.C cU [v42] Sz fun v43 Sz=>
 aC 13 v5 fun v44=>
 cQ 1 v44 v43 Sz fun Sz=>
 aR 1 v0 Sz fun v45 Sz=>
 x.C dH [v45] Sz fun v46 Sz=>
 cZ x x.most v0 v1 v5 v46 zI Sz K
theorem RA (x:EV) (a0:Value) (Sz:St) (K:VK):hZ PP dD qE (x.E PP) [a0] Sz K=CT x a0 Sz K:=by kernel_rfl
noncomputable def fP (x:EV) (m0:Nat) (t1 t2 t3 t4 t5:Value) (Sz:St) (K:VK):Bool:=
 aK PP .lss 3 t5 t4 fun v0=>
 shut x.most (aA true v0 (fun k=>aR 1 t1 Sz fun v1 Sz=>
 k v1 Sz) Sz fun v2 Sz=>
 shut x.most (aA true v0 (fun k=>x.C dO [v2] Sz fun v3 Sz=>
 k v3 Sz) Sz fun v4 Sz=>
 shut x.most (bY v0 v4 zF fun v5=>
 gD v5 (aR 1 t1 Sz fun v6 Sz=>
 x.C aI [v6] Sz fun v7 Sz=>
 dK [zI,zI,(.int .u8 (.ofNat 0)),zI,zS] [(0,1,v7)] fun v8=>
 cC [zI,zI,(.int .u8 (.ofNat 0)),zI,zS] 130 Sz fun v9 Sz=>
 cQ 5 v9 v8 Sz fun Sz=>
 aR 1 t1 Sz fun v10 Sz=>
 x.C aI [v10] Sz fun v11 Sz=>
 aC 1 v9 fun v12=>
 cQ 1 v12 v11 Sz fun Sz=>
 aR 1 t1 Sz fun v13 Sz=>
 x.C kL [v13] Sz fun v14 Sz=>
 aC 2 v9 fun v15=>
 cQ 1 v15 v14 Sz fun Sz=>
 aR 1 t1 Sz fun v16 Sz=>
 x.C aI [v16] Sz fun v17 Sz=>
 aC 3 v9 fun v18=>
 cQ 1 v18 v17 Sz fun Sz=>
 aR 1 t1 Sz fun v19 Sz=>
 x.C cU [v19] Sz fun v20 Sz=>
 aC 4 v9 fun v21=>
 cQ 1 v21 v20 Sz fun Sz=>
 aC 14 t3 fun v22=>
 aN v22 Sz fun v23 Sz=>
 aR 5 v9 Sz fun v24 Sz=>
 aR 5 v9 Sz fun v25 Sz=>
 aU v25 v24 (aN v22 Sz fun v26 Sz=>
 aU v26 v23 (cR (aM 130 0 [zI,zI,(.int .u8 (.ofNat 0)),zI,zS] [] Sz fun v27 Sz=>
 true) (cR (aM 130 1 [zI,zI,(.int .u8 (.ofNat 0)),zI,zS] [(0,5,v24)] Sz fun v28 Sz=>
 true) (aM 130 0 [zI,zI,(.int .u8 (.ofNat 0)),zI,zS] [] Sz fun v29 Sz=>
 kJ PP 130 5 48 v29 v23 Sz fun v30 Sz=>
 aR 5 v9 Sz fun v31 Sz=>
 aU v31 v24 (aR 5 v9 Sz fun v32 Sz=>
 aU v32 v24 (cR (aM 130 1 [zI,zI,(.int .u8 (.ofNat 0)),zI,zS] [(0,5,v24)] Sz fun v33 Sz=>
 true) (aM 130 1 [zI,zI,(.int .u8 (.ofNat 0)),zI,zS] [(0,5,v24)] Sz fun v34 Sz=>
 kJ PP 130 5 48 v30 v34 Sz fun v35 Sz=>
 aC 14 t3 fun v36=>
 cQ 1 v36 v35 Sz fun Sz=>
 aK PP .add 3 t5 (.int .i64 (.ofNat 1)) fun v37=>
 cZ x m0 t1 t2 t3 t4 v37 Sz K) false))) false) false))) (aR 15 t3 Sz fun v38 Sz=>
 cQ 15 t2 v38 Sz fun Sz=>
 aR 15 t2 Sz fun v39 _=>
 K v39 Sz))))
theorem jS (x:EV) (m0:Nat) (t1 t2 t3 t4 t5:Value) (Sz:St) (K:VK):cZ x (m0+1) t1 t2 t3 t4 t5 Sz K=fP x m0 t1 t2 t3 t4 t5 Sz K:=by kernel_rfl
noncomputable def eA (x:EV) (m:Nat) (t1 t2 t3 t4 t5 t6:Value) (Sz:St) (K:VK):Bool:=gJ PP dD rG (x.E PP) [.r,.r,.r,.r,.r,.r,.r,.l,.r,.d] m [] [t1,t2,t3,t4,t5,t6] Sz K
noncomputable def FE (x:EV) (a0:Value) (Sz:St) (K:VK):Bool:=
 iP 108 a0 Sz fun v0 Sz=>
 cC [zI,zS,zF,zI,zI,zI,zI,zI,zI,zI,zS,zS,zI,zI,zF,zF,zS,zL,zL,zL] 45 Sz fun v1 Sz=>
 aR 1 v0 Sz fun v2 Sz=>
 x.C aI [v2] Sz fun v3 Sz=>
 dK [zI,zS,zF,zI,zI,zI,zI,zI,zI,zI,zS,zS,zI,zI,zF,zF,zS,zL,zL,zL] [(0,1,v3)] fun v4=>
 cC [zI,zS,zF,zI,zI,zI,zI,zI,zI,zI,zS,zS,zI,zI,zF,zF,zS,zL,zL,zL] 45 Sz fun v5 Sz=>
 cQ 20 v5 v4 Sz fun Sz=>
 aR 1 v0 Sz fun v6 Sz=>
 x.C cU [v6] Sz fun v7 Sz=>
 aC 1 v5 fun v8=>
 cQ 1 v8 v7 Sz fun Sz=>
 aR 1 v0 Sz fun v9 Sz=>
 x.C jI [v9] Sz fun v10 Sz=>
 aC 2 v5 fun v11=>
 cQ 1 v11 v10 Sz fun Sz=>
 aR 1 v0 Sz fun v12 Sz=>
 x.C qE [v12] Sz fun v13 Sz=>
 aC 3 v5 fun v14=>
 cQ 15 v14 v13 Sz fun Sz=>
 aR 1 v0 Sz fun v15 Sz=>
 x.C dH [v15] Sz fun v16 Sz=>
 eA x x.most v0 v1 v5 zL v16 zI Sz K
theorem TE (x:EV) (a0:Value) (Sz:St) (K:VK):hZ PP dD rG (x.E PP) [a0] Sz K=FE x a0 Sz K:=by kernel_rfl
noncomputable def pO (x:EV) (m0:Nat) (t1 t2 t3 t4 t5 t6:Value) (Sz:St) (K:VK):Bool:=
 aK PP .lss 3 t6 t5 fun v0=>
 shut x.most (aA true v0 (fun k=>aR 1 t1 Sz fun v1 Sz=>
 k v1 Sz) Sz fun v2 Sz=>
 shut x.most (aA true v0 (fun k=>x.C dO [v2] Sz fun v3 Sz=>
 k v3 Sz) Sz fun v4 Sz=>
 shut x.most (bY v0 v4 zF fun v5=>
 gD v5 (aR 1 t1 Sz fun v6 Sz=>
 x.C aI [v6] Sz fun v7 Sz=>
 dK [zI,zS] [(0,1,v7)] fun v8=>
 cC [zI,zS] 132 Sz fun v9 Sz=>
 cQ 2 v9 v8 Sz fun Sz=>
 aR 1 t1 Sz fun v10 Sz=>
 x.C cU [v10] Sz fun v11 Sz=>
 aC 1 v9 fun v12=>
 cQ 1 v12 v11 Sz fun Sz=>
 aR 2 v9 Sz fun v13 Sz=>
 aM 132 1 [zI,zS] [(0,2,v13)] Sz fun v14 Sz=>
 kJ PP 132 2 24 t4 v14 Sz fun v15 Sz=>
 aK PP .add 3 t6 (.int .i64 (.ofNat 1)) fun v16=>
 eA x m0 t1 t2 t3 v15 t5 v16 Sz K) (aC 18 t3 fun v17=>
 cQ 1 v17 t4 Sz fun Sz=>
 aR 1 t1 Sz fun v18 Sz=>
 x.C iR [v18] Sz fun v19 Sz=>
 aC 19 t3 fun v20=>
 cQ 1 v20 v19 Sz fun Sz=>
 aR 20 t3 Sz fun v21 Sz=>
 cQ 20 t2 v21 Sz fun Sz=>
 aR 20 t2 Sz fun v22 _=>
 K v22 Sz))))
theorem yS (x:EV) (m0:Nat) (t1 t2 t3 t4 t5 t6:Value) (Sz:St) (K:VK):eA x (m0+1) t1 t2 t3 t4 t5 t6 Sz K=pO x m0 t1 t2 t3 t4 t5 t6 Sz K:=by kernel_rfl
noncomputable def fO (x:EV) (m:Nat) (t1 t3 t4 t5:Value) (Sz:St) (K:VK):Bool:=gJ PP dD fA (x.E PP) [.r,.r,.r,.l,.r,.d] m [] [t1,t3,t4,t5] Sz K
noncomputable def cJ (x:EV) (m:Nat) (m0:Nat) (t1 t3 t4 t5 t6 t7 t8 t9:Value) (Sz:St) (K:VK):Bool:=gJ PP dD fA (x.E PP) [.r,.r,.r,.l,.r,.d,.d,.r,.l,.d,.r,.r,.r,.r,.l,.r,.d] m [m0] [t1,t3,t4,t5,t6,t7,t8,t9] Sz K
noncomputable def zP (x:EV) (a0:Value) (Sz:St) (K:VK):Bool:=
 iP 108 a0 Sz fun v0 Sz=>
 aR 1 v0 Sz fun v1 Sz=>
 x.C dH [v1] Sz fun v2 Sz=>
 fO x x.most v0 zL v2 zI Sz K
theorem LZ (x:EV) (a0:Value) (Sz:St) (K:VK):hZ PP dD fA (x.E PP) [a0] Sz K=zP x a0 Sz K:=by kernel_rfl
noncomputable def qD (x:EV) (m0:Nat) (t1 t3 t4 t5:Value) (Sz:St) (K:VK):Bool:=
 aK PP .lss 3 t5 t4 fun v0=>
 shut x.most (aA true v0 (fun k=>aR 1 t1 Sz fun v1 Sz=>
 k v1 Sz) Sz fun v2 Sz=>
 shut x.most (aA true v0 (fun k=>x.C dO [v2] Sz fun v3 Sz=>
 k v3 Sz) Sz fun v4 Sz=>
 shut x.most (bY v0 v4 zF fun v5=>
 gD v5 (aR 1 t1 Sz fun v6 Sz=>
 x.C aI [v6] Sz fun v7 Sz=>
 dK [zI,zI,zL,zL,zL,zL,zL,zF] [(0,1,v7)] fun v8=>
 cC [zI,zI,zL,zL,zL,zL,zL,zF] 137 Sz fun v9 Sz=>
 cQ 8 v9 v8 Sz fun Sz=>
 aR 1 t1 Sz fun v10 Sz=>
 x.C aI [v10] Sz fun v11 Sz=>
 aC 1 v9 fun v12=>
 cQ 1 v12 v11 Sz fun Sz=>
 aR 1 t1 Sz fun v13 Sz=>
 x.C dH [v13] Sz fun v14 Sz=>
 cJ x x.most m0 t1 t3 t4 t5 v9 zL v14 zI Sz K) (K t3 Sz))))
theorem AG (x:EV) (m0:Nat) (t1 t3 t4 t5:Value) (Sz:St) (K:VK):fO x (m0+1) t1 t3 t4 t5 Sz K=qD x m0 t1 t3 t4 t5 Sz K:=by kernel_rfl
noncomputable def jR (x:EV) (m1:Nat) (m0:Nat) (t1 t3 t4 t5 t6 t7 t8 t9:Value) (Sz:St) (K:VK):Bool:=
 aK PP .lss 3 t9 t8 fun v0=>
 shut x.most (aA true v0 (fun k=>aR 1 t1 Sz fun v1 Sz=>
 k v1 Sz) Sz fun v2 Sz=>
 shut x.most (aA true v0 (fun k=>x.C dO [v2] Sz fun v3 Sz=>
 k v3 Sz) Sz fun v4 Sz=>
 shut x.most (bY v0 v4 zF fun v5=>
 gD v5 (aR 1 t1 Sz fun v6 Sz=>
 x.C cP [v6] Sz fun v7 Sz=>
 aM 60 1 [zL] [(0,1,v7)] Sz fun v8 Sz=>
 kJ PP 60 1 24 t7 v8 Sz fun v9 Sz=>
 aK PP .add 3 t9 (.int .i64 (.ofNat 1)) fun v10=>
 cJ x m1 m0 t1 t3 t4 t5 t6 v9 t8 v10 Sz K) (aC 2 t6 fun v11=>
 cQ 1 v11 t7 Sz fun Sz=>
 aR 1 t1 Sz fun v12 Sz=>
 x.C cP [v12] Sz fun v13 Sz=>
 aC 3 t6 fun v14=>
 cQ 1 v14 v13 Sz fun Sz=>
 aR 1 t1 Sz fun v15 Sz=>
 x.C iQ [v15] Sz fun v16 Sz=>
 aC 4 t6 fun v17=>
 cQ 1 v17 v16 Sz fun Sz=>
 aR 1 t1 Sz fun v18 Sz=>
 x.C iQ [v18] Sz fun v19 Sz=>
 aC 5 t6 fun v20=>
 cQ 1 v20 v19 Sz fun Sz=>
 aR 1 t1 Sz fun v21 Sz=>
 x.C cP [v21] Sz fun v22 Sz=>
 aC 6 t6 fun v23=>
 cQ 1 v23 v22 Sz fun Sz=>
 aR 1 t1 Sz fun v24 Sz=>
 x.C jI [v24] Sz fun v25 Sz=>
 aC 7 t6 fun v26=>
 cQ 1 v26 v25 Sz fun Sz=>
 aR 8 t6 Sz fun v27 Sz=>
 aM 137 1 [zI,zI,zL,zL,zL,zL,zL,zF] [(0,8,v27)] Sz fun v28 Sz=>
 kJ PP 137 8 144 t3 v28 Sz fun v29 Sz=>
 aK PP .add 3 t5 (.int .i64 (.ofNat 1)) fun v30=>
 fO x m0 t1 v29 t4 v30 Sz K))))
theorem qW (x:EV) (m1:Nat) (m0:Nat) (t1 t3 t4 t5 t6 t7 t8 t9:Value) (Sz:St) (K:VK):cJ x (m1+1) m0 t1 t3 t4 t5 t6 t7 t8 t9 Sz K=jR x m1 m0 t1 t3 t4 t5 t6 t7 t8 t9 Sz K:=by kernel_rfl
noncomputable def dG (x:EV) (m:Nat) (t2 t4 t5 t6 t7 t8:Value) (Sz:St) (K:VK):Bool:=gJ PP dD vK (x.E PP) [.r,.r,.r,.r,.r,.r,.r,.r,.r,.r,.r,.r,.l,.r,.d] m [] [t2,t4,t5,t6,t7,t8] Sz K
noncomputable def KM (x:EV) (a0:Value) (Sz:St) (K:VK):Bool:=
 cC [zI,zL,zI,zS,zF,zI,zI,zI,zI,zI,zI,zI,zS,zS,zI,zI,zF,zF,zS,zL,zL,zL,zL,zL,zL,zF,zL,zL,zL,zL] 49 Sz fun v0 Sz=>
 x.C GM [a0] Sz fun v1 Sz=>
 dK [(.pointer none)] [(0,1,v1)] fun v2=>
 cC [(.pointer none)] 108 Sz fun v3 Sz=>
 cQ 1 v3 v2 Sz fun Sz=>
 aR 1 v3 Sz fun v4 Sz=>
 x.C aI [v4] Sz fun v5 Sz=>
 dK [zI,zL,zI,zS,zF,zI,zI,zI,zI,zI,zI,zI,zS,zS,zI,zI,zF,zF,zS,zL,zL,zL,zL,zL,zL,zF,zL,zL,zL,zL] [(0,1,v5)] fun v6=>
 cC [zI,zL,zI,zS,zF,zI,zI,zI,zI,zI,zI,zI,zS,zS,zI,zI,zF,zF,zS,zL,zL,zL,zL,zL,zL,zF,zL,zL,zL,zL] 49 Sz fun v7 Sz=>
 cQ 30 v7 v6 Sz fun Sz=>
 aR 1 v3 Sz fun v8 Sz=>
 x.C lB [v8] Sz fun v9 Sz=>
 aC 1 v7 fun v10=>
 cQ 1 v10 v9 Sz fun Sz=>
 aR 1 v3 Sz fun v11 Sz=>
 x.C rG [v11] Sz fun v12 Sz=>
 aC 2 v7 fun v13=>
 cQ 20 v13 v12 Sz fun Sz=>
 aR 1 v3 Sz fun v14 Sz=>
 x.C lB [v14] Sz fun v15 Sz=>
 aC 22 v7 fun v16=>
 cQ 1 v16 v15 Sz fun Sz=>
 aR 1 v3 Sz fun v17 Sz=>
 x.C lC [v17] Sz fun v18 Sz=>
 aC 23 v7 fun v19=>
 cQ 1 v19 v18 Sz fun Sz=>
 aR 1 v3 Sz fun v20 Sz=>
 x.C lC [v20] Sz fun v21 Sz=>
 aC 24 v7 fun v22=>
 cQ 1 v22 v21 Sz fun Sz=>
 aR 1 v3 Sz fun v23 Sz=>
 x.C jI [v23] Sz fun v24 Sz=>
 aC 25 v7 fun v25=>
 cQ 1 v25 v24 Sz fun Sz=>
 aR 1 v3 Sz fun v26 Sz=>
 x.C fA [v26] Sz fun v27 Sz=>
 aC 26 v7 fun v28=>
 cQ 1 v28 v27 Sz fun Sz=>
 aR 1 v3 Sz fun v29 Sz=>
 x.C dH [v29] Sz fun v30 Sz=>
 dG x x.most v0 v3 v7 zL v30 zI Sz K
theorem Ad (x:EV) (a0:Value) (Sz:St) (K:VK):hZ PP dD vK (x.E PP) [a0] Sz K=KM x a0 Sz K:=by kernel_rfl
noncomputable def mT (x:EV) (m0:Nat) (t2 t4 t5 t6 t7 t8:Value) (Sz:St) (K:VK):Bool:=
 aK PP .lss 3 t8 t7 fun v0=>
 shut x.most (aA true v0 (fun k=>aR 1 t4 Sz fun v1 Sz=>
 k v1 Sz) Sz fun v2 Sz=>
 shut x.most (aA true v0 (fun k=>x.C dO [v2] Sz fun v3 Sz=>
 k v3 Sz) Sz fun v4 Sz=>
 shut x.most (bY v0 v4 zF fun v5=>
 gD v5 (aR 1 t4 Sz fun v6 Sz=>
 x.C aI [v6] Sz fun v7 Sz=>
 dK [zI,zI,zL] [(0,1,v7)] fun v8=>
 cC [zI,zI,zL] 85 Sz fun v9 Sz=>
 cQ 3 v9 v8 Sz fun Sz=>
 aR 1 t4 Sz fun v10 Sz=>
 x.C aI [v10] Sz fun v11 Sz=>
 aC 1 v9 fun v12=>
 cQ 1 v12 v11 Sz fun Sz=>
 aR 1 t4 Sz fun v13 Sz=>
 x.C cP [v13] Sz fun v14 Sz=>
 aC 2 v9 fun v15=>
 cQ 1 v15 v14 Sz fun Sz=>
 aR 3 v9 Sz fun v16 Sz=>
 aM 85 1 [zI,zI,zL] [(0,3,v16)] Sz fun v17 Sz=>
 kJ PP 85 3 40 t6 v17 Sz fun v18 Sz=>
 aK PP .add 3 t8 (.int .i64 (.ofNat 1)) fun v19=>
 dG x m0 t2 t4 t5 v18 t7 v19 Sz K) (aC 27 t5 fun v20=>
 cQ 1 v20 t6 Sz fun Sz=>
 aR 1 t4 Sz fun v21 Sz=>
 x.C iR [v21] Sz fun v22 Sz=>
 aC 28 t5 fun v23=>
 cQ 1 v23 v22 Sz fun Sz=>
 aR 1 t4 Sz fun v24 Sz=>
 x.C fA [v24] Sz fun v25 Sz=>
 aC 29 t5 fun v26=>
 cQ 1 v26 v25 Sz fun Sz=>
 aC 0 t4 fun v27=>
 aN v27 Sz fun v28 Sz=>
 x.C pG [v28] Sz fun v29 Sz=>
 aK PP .neq 37 v29 zI fun v30=>
 gD v30 (dK [zI,zL,zI,zS,zF,zI,zI,zI,zI,zI,zI,zI,zS,zS,zI,zI,zF,zF,zS,zL,zL,zL,zL,zL,zL,zF,zL,zL,zL,zL] [] fun v31=>
 cQ 30 t2 v31 Sz fun Sz=>
 aR 30 t2 Sz fun v32 _=>
 K (.tuple ⟨[v32,v29]⟩) Sz) (aR 30 t5 Sz fun v33 Sz=>
 cQ 30 t2 v33 Sz fun Sz=>
 aR 30 t2 Sz fun v34 _=>
 K (.tuple ⟨[v34,zI]⟩) Sz)))))
theorem vQ (x:EV) (m0:Nat) (t2 t4 t5 t6 t7 t8:Value) (Sz:St) (K:VK):dG x (m0+1) t2 t4 t5 t6 t7 t8 Sz K=mT x m0 t2 t4 t5 t6 t7 t8 Sz K:=by kernel_rfl
end Go.Am
set_option maxRecDepth 100000
namespace Go.Am
open Go.RowKit Go.MapKept Go.Proofs Go.Proofs.jB
variable{most:Nat}
section
variable{n rr:Nat}{K:VK}{C:Nat->Prop}
theorem aAz:cN PP 137=some 8:=by kernel_rfl
set_option maxHeartbeats 1000000 in
theorem Ld (hM:140737488355329<most){st:RS}{Sz:St} (h:Ry Sz rr st) (hrr:C rr) (hC:∀i,C i->i<Sz.n)
 (hK:∀S' v,Ry S' rr (dec (.list aD) st).2->cM (Row1 rr) Sz S' (Row1 rr)->Rd S' C (.list aD) v (dec (.list aD) st).1->K v S'=true):(X most (n+6)).C fA [inn rr] Sz K=true:=by
 rw [aT (by rfl),LZ];unfold zP;rw [eI rfl];have hin:UU (Sz.new (.cells [pt rr 0] 108 .exact)) Sz.n rr:=⟨Nat.lt_succ_self _,by have:=h.lt;omega,aF⟩;rw [hin.ld];refine AE (n:=n+1) (by omega) (h.ext (.new Sz _)) fun S0 h0 f0=>?_;have hin0:=hin.fr f0;have fx:cM (Row1 rr) Sz S0 (Row1 rr):=((aZ.new Sz _).fr _).trans f0;have hN:(fD 1048576 st).1<=1048576:=sJ 1048576 st;have hC0:∀i,C i->i<S0.n:=fun i hi=>Nat.lt_of_lt_of_le (hC i hi) fx.n;rw [bP]
 refine tX (n:=n+4) (most:=most) (j:=Sz.n) (N:=(fD 1048576 st).1) (S0:=S0) (C:=C) (K:=K) (f:=bX aD) (its:=aD) (el:=137) (st0:=(fD 1048576 st).2) hrr hC0 hin0
  (L:=fun m a i S'=>fO (X most (n+5)) m (pt Sz.n 0) a (.int .i64 (.ofNat (fD 1048576 st).1)) (.int .i64 (.ofNat i)) S' K)
  (A:=fun m a i S'=>aR 1 (pt Sz.n 0) S' fun v6 S'=>(X most (n+5)).C aI [v6] S' fun v7 S'=>dK [zI,zI,zL,zL,zL,zL,zL,zF] [(0,1,v7)] fun v8=>cC [zI,zI,zL,zL,zL,zL,zL,zF] 137 S' fun v9 S'=>cQ 8 v9 v8 S' fun S'=>aR 1 (pt Sz.n 0) S' fun v10 S'=>(X most (n+5)).C aI [v10] S' fun v11 S'=>aC 1 v9 fun v12=>cQ 1 v12 v11 S' fun S'=>aR 1 (pt Sz.n 0) S' fun v13 S'=>(X most (n+5)).C dH [v13] S' fun v14 S'=>(cJ) (X most (n+5)) most m (pt Sz.n 0) a (.int .i64 (.ofNat (fD 1048576 st).1)) (.int .i64 (.ofNat i)) v9 zL v14 zI S' K)
  (fun m a i S'=>?_) (fun i m a S1z st1 es hi h1 hj ha hl hf k=>?_) (fun S' v hy hf ha=>?_) (fD 1048576 st).1 0 most S0 zL _ [] (by omega) (by omega) h0 ⟨Nat.le_refl _,fun _ _ _=>rfl⟩ (.inl ⟨rfl,rfl⟩) rfl rfl
 ·rw [AG]
  unfold qD;rw [bP]
 ·show(aR 1 (pt Sz.n 0) S1z _)=true
  rw [hj.ld];refine vJ (n:=n+1) (by omega) h1 fun S2z h2 f2=>?_;rw [bF rfl (by simp),dR];have n01:=hf.n;have n12:=f2.n;obtain⟨Cx,zO⟩:∃Cx:Nat->Prop,Cx=fun i=>i<=S2z.n/\(S0.n<=i\/C i):=⟨_,rfl⟩;have AF:Cx rr:=by rw [zO];exact⟨by have:=hC0 rr hrr;omega,.inr hrr⟩
  have Hf:Cx S2z.n:=by rw [zO];exact⟨Nat.le_refl _,.inl (by omega)⟩
  have r1:lL S2z Cx aD (.int .i64 (i64 (gR 8 st1).1)::(aD.map jM).tail) [(dec .int st1).1,.n 0,.l [],.l [],.l [],.l [],.l [],.b false]:= .cons (GN _) (sF S2z Cx aD.tail);refine xG (its:=aD) r1 rfl rfl Hf fun S3z x3 n3 KL=>?_;have hj3:=(hj.fr f2).fr (x3.fr (Row1 rr));have g0:Rg S1z rr Sz.n S2z.n Cx 137 aD S3z (dec .int st1).2 _:=⟨⟨_,KL⟩,h2.ext x3,hj3,f2.trans (x3.fr _),n12,AF,fun i hi=>by rw [zO]at hi;exact hi.1,by have:=h2.lt;omega,by have:=hj.lt;omega⟩;refine tZ (n:=n+1) hM g0 1 rfl fun S5 g1=>?_;rw [g1.hj.ld];obtain⟨XA,e5⟩:∃XA,XA=(dec .int (dec .int st1).2).2:=⟨_,rfl⟩;rw [<-e5]at g1;refine AE (n:=n+1) (by omega) g1.hy fun S6 h6 f6=>?_;have hj6:=g1.hj.fr f6;have hC6:∀i,Cx i->i<S6.n:=fun i hi=>Nat.lt_of_lt_of_le (g1.lt i hi) f6.n;have hN5:(fD 1048576 XA).1<=1048576:=sJ 1048576 XA
  refine tX (n:=n+4) (most:=most) (j:=Sz.n) (N:=(fD 1048576 XA).1) (S0:=S6) (C:=Cx) (f:=bX cO) (its:=cO) (el:=60) (st0:=(fD 1048576 XA).2) AF hC6 hj6
   (L:=fun m1 a2 i2 S'=>cJ (X most (n+5)) m1 m (pt Sz.n 0) a (.int .i64 (.ofNat (fD 1048576 st).1)) (.int .i64 (.ofNat i)) (pt S2z.n 0) a2 (.int .i64 (.ofNat (fD 1048576 XA).1)) (.int .i64 (.ofNat i2)) S' K)
   (A:=fun m1 a2 i2 S'=>aR 1 (pt Sz.n 0) S' fun v6 S'=>(X most (n+5)).C cP [v6] S' fun v7 S'=>aM 60 1 [zL] [(0,1,v7)] S' fun v8 S'=>kJ PP 60 1 24 a2 v8 S' fun v9 S'=>aK PP .add 3 (.int .i64 (.ofNat i2)) (.int .i64 (.ofNat 1)) fun v10=>(cJ) (X most (n+5)) m1 m (pt Sz.n 0) a (.int .i64 (.ofNat (fD 1048576 st).1)) (.int .i64 (.ofNat i)) (pt S2z.n 0) v9 (.int .i64 (.ofNat (fD 1048576 XA).1)) v10 S' K)
   (K:=fun a2 S'=>aC 2 (pt S2z.n 0) fun v11=>cQ 1 v11 a2 S' fun S'=>aR 1 (pt Sz.n 0) S' fun v12 S'=>(X most (n+5)).C cP [v12] S' fun v13 S'=>aC 3 (pt S2z.n 0) fun v14=>cQ 1 v14 v13 S' fun S'=>aR 1 (pt Sz.n 0) S' fun v15 S'=>(X most (n+5)).C iQ [v15] S' fun v16 S'=>aC 4 (pt S2z.n 0) fun v17=>cQ 1 v17 v16 S' fun S'=>aR 1 (pt Sz.n 0) S' fun v18 S'=>(X most (n+5)).C iQ [v18] S' fun v19 S'=>aC 5 (pt S2z.n 0) fun v20=>cQ 1 v20 v19 S' fun S'=>aR 1 (pt Sz.n 0) S' fun v21 S'=>(X most (n+5)).C cP [v21] S' fun v22 S'=>aC 6 (pt S2z.n 0) fun v23=>cQ 1 v23 v22 S' fun S'=>aR 1 (pt Sz.n 0) S' fun v24 S'=>(X most (n+5)).C jI [v24] S' fun v25 S'=>aC 7 (pt S2z.n 0) fun v26=>cQ 1 v26 v25 S' fun S'=>aR 8 (pt S2z.n 0) S' fun v27 S'=>aM 137 1 [zI,zI,zL,zL,zL,zL,zL,zF] [(0,8,v27)] S' fun v28 S'=>kJ PP 137 8 144 a v28 S' fun v29 S'=>aK PP .add 3 (.int .i64 (.ofNat i)) (.int .i64 (.ofNat 1)) fun v30=>(fO) (X most (n+5)) m (pt Sz.n 0) v29 (.int .i64 (.ofNat (fD 1048576 st).1)) v30 S' K)
   (fun m1 a2 i2 S'=>?_) (fun i2 m1 a2 S7 st7 es2 hi2 h7 hj7 ha7 hl7 hf7 k7=>?_) (fun S7 v7 h7 hf7 ha7=>?_) (fD 1048576 XA).1 0 most S6 zL _ [] (by omega) (by omega) h6 ⟨Nat.le_refl _,fun _ _ _=>rfl⟩ (.inl ⟨rfl,rfl⟩) rfl rfl
  ·rw [qW]
   unfold jR;rw [bP]
  ·refine aCs (n:=n+1) hM AF hC6 ha7 hf7 h7 hj7 (by omega) fun S8 a8 h8 f8 k8=>?_
   rw [aP _ _ _ _ (by omega)];exact k7 S8 a8 h8 f8 k8
  ·have aFx:=rF (bX cO) (fD 1048576 XA).1 (fD 1048576 XA).2
   have r7:Rd S7 Cx (.list cO) v7 (dec (.list cO) XA).1:=ha7.rd hC6 (by omega);have h7':Ry S7 rr (dec (.list cO) XA).2:=h7;refine g1.put (q:=2) (it:= .list cO) h7' (f6.trans hf7.fr) rfl r7 fun S8 g2=>?_;refine Hh (n:=n+1) hM g2 3 rfl fun S9 g3=>?_;refine aAx (n:=n) hM g3 4 rfl fun S10 g4=>?_;refine aAx (n:=n) hM g4 5 rfl fun S11 g5=>?_;refine Hh (n:=n+1) hM g5 6 rfl fun S12 g6=>?_;refine aAw (n:=n+1) hM g6 7 rfl fun S13 g7=>?_;obtain⟨cs,vP⟩:=g7.vP
   refine TC (C:=C) (S1z:=S1z) (S0:=S0) (es:=es) (its:=aD) hrr hC0 rfl ha hf g7.F vP (fun i hi=>by
    rw [zO];rcases hi with hi | hi
    ·exact⟨by have:=hC0 i hi;omega,.inr hi⟩
    ·exact⟨by omega,.inl hi.1⟩) g7.hy rfl aAz (by rw [hl];omega) fun S14 a14 h14 f14 k14=>?_
   rw [aP _ _ _ _ (by omega)];simp only [List.set_cons_succ,List.set_cons_zero]at k14;rw [e5]at h14 k14;refine k S14 a14 ?_ f14 ?_
   ·simp only [aD,bX];exact h14
   ·simp only [aD,bX]at k14 ⊢;exact k14
 ·have hd:dec (.list aD) st=(.l (kK (bX aD) (fD 1048576 st).1 (fD 1048576 st).2).1,(kK (bX aD) (fD 1048576 st).1 (fD 1048576 st).2).2):=rfl
  have hle:=rF (bX aD) (fD 1048576 st).1 (fD 1048576 st).2;refine hK S' v (by rw [hd];exact hy) (fx.trans hf.fr) ?_;rw [hd];exact ha.rd hC0 (by omega)
end
set_option maxRecDepth 100000
theorem Le{P:Program}{elem size bytes n j:Nat}{Sz:St}{x:Value}{new:List Value}{e:TypeId}{ck:CK} (hj:Sz.obj j=some (.cells [] e ck)) (hx:Src Sz size x n new) (hz:n≠0) (hb:n*(bytes+1)<=1099511627776) (K:VK):
 kJ P elem size bytes (.slice (some ⟨j,0,none⟩) 0 0) x Sz K=K (.slice (some ⟨Sz.n,0,some 0⟩) n n) (Sz.new (.cells new elem (.grown []))):=by
 obtain⟨m,rfl⟩:=Nat.exists_eq_succ_of_ne_zero hz;have h1:=IW (P:=P) (elem:=elem) hx hz hb K;rw [<-h1];show IG x _=IG x _;rw [hx.len,hx.len];show DC Sz size (m+1) x _=DC Sz size (m+1) x _;rw [hx.first _ (by omega),hx.first _ (by omega),dE,dE];have hbb:Nat.ble ((0+(m+1))*(bytes+1)) 1099511627776=true:=Nat.ble_eq_true_of_le (by rw [Nat.zero_add];exact hb);simp only [hbb,show Nat.ble (0+(m+1)) 0=false from rfl];show(DO Sz j 0 (0*size) _)=_;rw [GA hj (by simp)];simp;rfl
variable{most:Nat}
def aAA:It->Bool
 | .nums=>false
 | .list _=>false
 | _=>true
theorem Rd.flat{Sz S':St}{C C':Nat->Prop}{it:It}{v:Value}{d:D} (hf:aAA it=true) (h:Rd Sz C it v d):Rd S' C' it v d:=by
 cases h with
 | num h=>exact .num h
 | kind h=>exact .kind h
 | int h1 h2=>exact .int h1 h2
 | is=>exact .is
 | text h=>exact .text h
 | nums h=>cases hf
 | empty=>cases hf
 | wK=>cases hf
 | row=>cases hf
theorem Rd.src{Sz:St}{C:Nat->Prop}{its:List It}{v:Value}{es:List (List D)} (h:Rd Sz C (.list its) v (.l es)):∃new,Src Sz its.length v es.length new/\new.length=es.length*its.length/\(∀ds∈es,ds.length=its.length)/\
 ∀(k:Nat) (ds:List D) (q:Nat) (it:It) (u:Value) (d:D),es[k]? =some ds->its[q]? =some it->new[k*its.length+q]? =some u->ds[q]? =some d->Rd Sz C it u d:=by
 cases h with
 | empty=>exact⟨[],⟨fun k=>rfl,fun k hz=>absurd rfl hz,fun v hv=>nomatch hv⟩,by simp,(fun ds hd=>nomatch hd),fun k ds q it u d a=>by simp at a⟩
 | wK=>exact⟨[],⟨fun k=>rfl,fun k hz=>absurd rfl hz,fun v hv=>nomatch hv⟩,by simp,(fun ds hd=>nomatch hd),fun k ds q it u d a=>by simp at a⟩
 | @row _ b o n c sp vs e ck _ hsp hb hC ho hw hn hl hd hN hnc hr=>
  subst hn;have hlen:((vs.drop o).take (es.length*its.length)).length=es.length*its.length:=by simp;omega
  have hat:∀i,i<es.length*its.length->((vs.drop o).take (es.length*its.length))[i]? =vs[o+i]? :=fun i hi=>by rw [List.getElem?_take,if_pos hi,List.getElem?_drop]
  have hr2:∀(k:Nat) (ds:List D) (q:Nat) (it:It) (u:Value) (d:D),es[k]? =some ds->its[q]? =some it->((vs.drop o).take (es.length*its.length))[k*its.length+q]? =some u->ds[q]? =some d->Rd Sz C it u d:=fun k ds q it u d a b c g=>by
   have hlt:=(List.getElem?_eq_some_iff.1 c).1;rw [hlen]at hlt;rw [hat _ hlt]at c;exact hr k ds q it u d a b (by rw [Nat.add_assoc];exact c) g
  refine⟨(vs.drop o).take (es.length*its.length),⟨fun k=>rfl,fun k hz=>?_,fun u hu=>?_⟩,hlen,hd,hr2⟩
  ·obtain⟨m,hm⟩:=Nat.exists_eq_succ_of_ne_zero hz
   rw [hm]at hl ⊢
   match sp,hsp with
   | none,_=>show DO Sz b o ((m+1)*its.length) k=_;rw [GA ho hl]
   | some 0,_=>show DO Sz b o ((m+1)*its.length) k=_;rw [GA ho hl]
  ·obtain⟨i,hi⟩:=List.getElem?_of_mem hu
   have hlt:=(List.getElem?_eq_some_iff.1 hi).1;rw [hlen]at hlt
   have hp:0<its.length:=by
    rcases Nat.eq_zero_or_pos its.length with h | h
    ·rw [h]at hlt;omega
    ·exact h
   have hk:i / its.length<es.length:=Nat.div_lt_of_lt_mul (by rw [Nat.mul_comm];exact hlt);have hq:i%its.length<its.length:=Nat.mod_lt _ hp;have hdl:=hd es[i / its.length] (List.getElem_mem hk);exact(hr2 (i / its.length) es[i / its.length] (i%its.length) its[i%its.length] u (es[i / its.length][i%its.length]'(by omega)) (List.getElem?_eq_getElem _) (List.getElem?_eq_getElem _) (by rw [Nat.div_add_mod'];exact hi) (List.getElem?_eq_getElem _)).one
theorem Rg.turn{sb Sz S1z:St}{rr j b:Nat}{Cx:Nat->Prop}{t:TypeId}{its:List It}{st st1:RS}{ds:List D} (g:Rg sb rr j b Cx t its Sz st ds) (h1:Ry S1z rr st1) (f1:cM (Row1 rr) Sz S1z (Row1 rr)):Rg sb rr j b Cx t its S1z st1 ds:=by
 obtain⟨cs,vP⟩:=g.vP;exact⟨⟨cs,vP.fr f1 (fun i hi=>by rw [show i=rr from hi];exact g.cx) (fun e=>g.nb (Eq.symm e))⟩,h1,g.hj.fr f1,g.F.trans f1,g.bn,g.cx,g.cb,g.nb,g.jb⟩
theorem LK{q:Nat}{it:It} (h:aW[q]? =some it):aAA it=true:=by
 match q,h with
 | 0,h=>injection h with h;subst h;rfl
 | 1,h=>injection h with h;subst h;rfl
 | 2,h=>injection h with h;subst h;rfl
 | 3,h=>injection h with h;subst h;rfl
 | 4,h=>injection h with h;subst h;rfl
 | q+5,h=>cases h
theorem aCt:cN PP 130=some 5:=by kernel_rfl
theorem Dn (el:TypeId) (z:List Value) (Sz:St) (K:VK):aM el 0 z [] Sz K=K (.slice (some ⟨Sz.n,0,none⟩) 0 0) (Sz.new (.cells [] el .exact)):=by
 show XF z 0 (fun c0=>qZ Sz (.cells c0 el .exact) fun i Sz=>K (.slice (some ⟨i,0,none⟩) 0 0) Sz)=_;rw [CA,gE];rfl
theorem Lf{Sz:St}{C:Nat->Prop}{j:Nat}{vs:List Value}{olds:List Nat}{es:List (List D)} (hj:j<Sz.n) (hC:¬C j) (ho:Sz.obj j=some (.cells vs 130 (.grown olds))) (hl:vs.length=es.length*5) (hd:∀ds∈es,ds.length=5) (hN:es.length<=1048577)
 (hr:∀(k:Nat) (ds:List D) (q:Nat) (it:It) (u:Value) (d:D),es[k]? =some ds->aW[q]? =some it->vs[k*5+q]? =some u->ds[q]? =some d->Rd Sz C it u d):Rd Sz C (.list aW) (.slice (some ⟨j,0,some 0⟩) es.length es.length) (.l es):=by
 refine .row rfl hj hC ho (.inr (.inr ⟨_,rfl⟩)) rfl ?_ hd (by omega) (Nat.le_refl _) fun k ds q it u d a b c g=>?_
 ·show 0+es.length*5<=vs.length
  omega
 ·rw [Nat.zero_add]at c
  exact hr k ds q it u d a b c g
section
variable{Sz S1z:St}{Cx C2:Nat->Prop}{v23:Value}{es:List (List D)}{cs z:List Value}{ds:List D}{b2:Nat}{kk:VK}
theorem Lg{v30:Value} (hz:z.length=5) (h2:Sz.obj b2=some (.cells cs 130 .exact)) (hb2:b2<Sz.n) (hv:lL Sz C2 aW cs ds) (hN:es.length<=1048576){n0:Nat} (hn0:n0<=Sz.n)
 (h30:(es=[]/\∃j ck,v30= .slice (some ⟨j,0,none⟩) 0 0/\j<Sz.n/\Sz.obj j=some (.cells [] 130 ck))\/
  (∃j vs,n0<=j/\j<Sz.n/\v30= .slice (some ⟨j,0,some 0⟩) es.length es.length/\Sz.obj j=some (.cells vs 130 (.grown []))/\vs.length=es.length*5/\(∀ds∈es,ds.length=5)/\
   ∀(k:Nat) (ds:List D) (q:Nat) (it:It) (u:Value) (d:D),es[k]? =some ds->aW[q]? =some it->vs[k*5+q]? =some u->ds[q]? =some d->Rd Sz C2 it u d))
 (hk:∀S' v,Sz.n<=S'.n->(∀i,i<n0->S'.obj i=Sz.obj i)->Rd S' (fun i=>i<n0) (.list aW) v (.l (es++[ds]))->kk v S'=true):
 (aR 5 (pt b2 0) Sz fun v31 Sz=>aU v31 (.agg ⟨cs⟩) (aR 5 (pt b2 0) Sz fun v32 Sz=>aU v32 (.agg ⟨cs⟩) (cR (aM 130 1 z [(0,5,.agg ⟨cs⟩)] Sz fun _ _=>true) (aM 130 1 z [(0,5,.agg ⟨cs⟩)] Sz fun v34 Sz=>kJ PP 130 5 48 v30 v34 Sz kk) false)))=true:=by
 have hcl:cs.length=5:=hv.len;have hdl:ds.length=5:=hv.jK;have h1:cs.all oneCell=true:=List.all_eq_true.2 hv.one;rw [fW h2 (by omega),List.drop_zero,List.take_of_length_le (by omega),aQ hv.gF,fW h2 (by omega),List.drop_zero,List.take_of_length_le (by omega),aQ hv.gF,uY 130 hz hcl h1,fX,uY 130 hz hcl h1];have hx2:Src (Sz.new (.cells cs 130 .exact)) 5 (.slice (some ⟨Sz.n,0,none⟩) 1 1) 1 cs:=Src.single aF hcl fun v hv=>List.all_eq_true.1 h1 v hv;have hb:(es.length+1)*(48+1)<=1099511627776:=by omega
 rcases h30 with ⟨rfl,j,ck,rfl,hj,ho⟩ | ⟨j,vs,hj0,hj,rfl,ho,hl,hd,hr⟩
 ·have ho2:(Sz.new (.cells cs 130 .exact)).obj j=some (.cells [] 130 ck):=by rw [aL (by omega)];exact ho
  rw [Le ho2 hx2 (by omega) (by omega)];refine hk _ _ (Nat.le_succ_of_le (Nat.le_succ _)) (fun i hi=>by rw [aL (by rw [kM];omega),aL (by omega)]) ?_;refine Lf (es:=[ds]) (olds:=[]) (Nat.lt_succ_self _) (by rw [kM];omega) aF (by rw [hcl];rfl) (fun d hd=>by simp at hd;subst hd;exact hdl) (by simp) fun k d q it u d' a b c g=>?_
  have hk0:k=0:=by
   have:=(List.getElem?_eq_some_iff.1 a).1;simp at this;exact this
  subst hk0;simp at a c;subst a;exact(hv.rd q it u d' b c g).flat (LK b)
 ·have ho2:(Sz.new (.cells cs 130 .exact)).obj j=some (.cells vs 130 (.grown [])):=by rw [aL (by omega)];exact ho
  rw [IX hx2 (by omega) hb ho2 hl aCt];have hel:(es++[ds]).length=es.length+1:=by simp
  refine hk _ _ (by rw [kM,gG,kM];omega) (fun i hi=>by rw [aL (by rw [gG,kM];omega),aJ (by omega),aL (by omega)]) ?_;rw [<-hel];refine Lf (vs:=vs++cs) (olds:=[j]) (Nat.lt_succ_self _) (show ¬Sz.n+1<n0 by omega) ?_ (by rw [List.length_append,hl,hel,hcl];omega) (fun d hd2=>?_) (by rw [hel];omega) fun k d q it u d' a b c g=>?_
  ·have:(Sz.new (.cells cs 130 .exact)).n=((Sz.new (.cells cs 130 .exact)).set j (.cells vs 130 .stale)).n:=rfl
   rw [this,aF]
  ·rcases List.mem_append.1 hd2 with h | h
   ·exact hd d h
   ·simp at h;subst h;exact hdl
  ·have hq:=(List.getElem?_eq_some_iff.1 b).1
   have hq5:q<5:=hq;rcases Nat.lt_or_ge k es.length with hk | hk
   ·rw [List.getElem?_append_left hk]at a
    rw [List.getElem?_append_left (by omega)]at c;exact(hr k d q it u d' a b c g).flat (LK b)
   ·have hk':k=es.length:=by
     have:=(List.getElem?_eq_some_iff.1 a).1;simp at this;omega
    subst hk';simp at a;subst a;rw [List.getElem?_append_right (by omega),hl,Nat.add_sub_cancel_left]at c;exact(hv.rd q it u d' b c g).flat (LK b)
theorem Vv (hz:z.length=5) (h:Rd Sz Cx (.list aW) v23 (.l es)) (h2:Sz.obj b2=some (.cells cs 130 .exact)) (hb2:b2<Sz.n) (hv:lL Sz C2 aW cs ds) (hN:es.length<=1048576)
 (hk:∀S' v,aZ Sz S'->Rd S' (fun i=>i<Sz.n) (.list aW) v (.l (es++[ds]))->kk v S'=true):
 (cR (aM 130 0 z [] Sz fun _ _=>true) (cR (aM 130 1 z [(0,5,.agg ⟨cs⟩)] Sz fun _ _=>true) (aM 130 0 z [] Sz fun v29 Sz=>kJ PP 130 5 48 v29 v23 Sz fun v30 Sz=>
  aR 5 (pt b2 0) Sz fun v31 Sz=>aU v31 (.agg ⟨cs⟩) (aR 5 (pt b2 0) Sz fun v32 Sz=>aU v32 (.agg ⟨cs⟩) (cR (aM 130 1 z [(0,5,.agg ⟨cs⟩)] Sz fun _ _=>true) (aM 130 1 z [(0,5,.agg ⟨cs⟩)] Sz fun v34 Sz=>kJ PP 130 5 48 v30 v34 Sz kk) false))) false) false)=true:=by
 have hcl:cs.length=5:=hv.len;have h1:cs.all oneCell=true:=List.all_eq_true.2 hv.one;rw [Dn,fX,uY 130 hz hcl h1,fX,Dn];have xN:aZ Sz (Sz.new (.cells [] 130 .exact)):= .new Sz _;have hN0:(Sz.new (.cells [] 130 .exact)).n=Sz.n+1:=rfl;obtain⟨new,q1,q2,q3,q4⟩:=(h.fr (xN.fr _)).src;have q1:Src (Sz.new (.cells [] 130 .exact)) 5 v23 es.length new:=q1;by_cases he:es=[]
 ·subst he
  rw [Cv (m:=0) (by simpa using q1)];refine Lg (n0:=Sz.n) (es:=[]) hz (by rw [xN.same b2 hb2];exact h2) (by omega) (hv.fr (xN.fr _)) (by simp) (by omega) (.inl ⟨rfl,_,_,rfl,Nat.lt_succ_self _,aF⟩) fun S' v n1 s1 r1=>hk S' v ⟨by omega,fun i hi=>by rw [s1 i hi,xN.same i hi]⟩ r1
 ·have hne:es.length≠0:=fun e=>he (List.eq_nil_of_length_eq_zero e)
  rw [Le (n:=es.length) aF q1 hne (by omega)];have hN1:((Sz.new (.cells [] 130 .exact)).new (.cells new 130 (.grown []))).n=Sz.n+2:=rfl;have xN2:aZ Sz ((Sz.new (.cells [] 130 .exact)).new (.cells new 130 (.grown []))):=xN.trans (.new _ _);refine Lg (n0:=Sz.n) (C2:=C2) hz (by rw [xN2.same b2 hb2];exact h2) (by omega) (hv.fr (xN2.fr _)) hN (by omega) (.inr ⟨_,new,by omega,Nat.lt_succ_self _,rfl,aF,q2,q3,fun k d q it u d' a b c g=>(q4 k d q it u d' a b c g).flat (LK b)⟩) fun S' v n1 s1 r1=>hk S' v ⟨by omega,fun i hi=>by rw [s1 i hi,xN2.same i hi]⟩ r1
end
set_option maxRecDepth 100000
variable{most:Nat}
section
variable{n rr j b t2:Nat}{Sz sb:St}{Cx:Nat->Prop}{st:RS}{ds0:List D}{es:List (List D)}{K:VK}
theorem aCu (hM:140737488355329<most) (g:Rg sb rr j b Cx 42 bQ Sz st (ds0.set 14 (.l es))) (h0:ds0.length=15) (he:es.length<=1048576){kk:St->Bool}
 (hk:∀S',Rg sb rr j b Cx 42 bQ S' (bX aW st).2 (ds0.set 14 (.l (es++[(bX aW st).1])))->kk S'=true):
 (aR 1 (pt j 0) Sz fun v6 Sz=>(X most (n+4)).C aI [v6] Sz fun v7 Sz=>dK [zI,zI,(.int .u8 (.ofNat 0)),zI,zS] [(0,1,v7)] fun v8=>cC [zI,zI,(.int .u8 (.ofNat 0)),zI,zS] 130 Sz fun v9 Sz=>cQ 5 v9 v8 Sz fun Sz=>aR 1 (pt j 0) Sz fun v10 Sz=>(X most (n+4)).C aI [v10] Sz fun v11 Sz=>aC 1 v9 fun v12=>cQ 1 v12 v11 Sz fun Sz=>aR 1 (pt j 0) Sz fun v13 Sz=>(X most (n+4)).C kL [v13] Sz fun v14 Sz=>aC 2 v9 fun v15=>cQ 1 v15 v14 Sz fun Sz=>aR 1 (pt j 0) Sz fun v16 Sz=>(X most (n+4)).C aI [v16] Sz fun v17 Sz=>aC 3 v9 fun v18=>cQ 1 v18 v17 Sz fun Sz=>aR 1 (pt j 0) Sz fun v19 Sz=>(X most (n+4)).C cU [v19] Sz fun v20 Sz=>aC 4 v9 fun v21=>cQ 1 v21 v20 Sz fun Sz=>aC 14 (pt b 0) fun v22=>aN v22 Sz fun v23 Sz=>aR 5 v9 Sz fun v24 Sz=>aR 5 v9 Sz fun v25 Sz=>aU v25 v24 (aN v22 Sz fun v26 Sz=>aU v26 v23 (cR (aM 130 0 [zI,zI,(.int .u8 (.ofNat 0)),zI,zS] [] Sz fun v27 Sz=>true) (cR (aM 130 1 [zI,zI,(.int .u8 (.ofNat 0)),zI,zS] [(0,5,v24)] Sz fun v28 Sz=>true) (aM 130 0 [zI,zI,(.int .u8 (.ofNat 0)),zI,zS] [] Sz fun v29 Sz=>kJ PP 130 5 48 v29 v23 Sz fun v30 Sz=>aR 5 v9 Sz fun v31 Sz=>aU v31 v24 (aR 5 v9 Sz fun v32 Sz=>aU v32 v24 (cR (aM 130 1 [zI,zI,(.int .u8 (.ofNat 0)),zI,zS] [(0,5,v24)] Sz fun v33 Sz=>true) (aM 130 1 [zI,zI,(.int .u8 (.ofNat 0)),zI,zS] [(0,5,v24)] Sz fun v34 Sz=>kJ PP 130 5 48 v30 v34 Sz fun v35 Sz=>aC 14 (pt b 0) fun v36=>cQ 1 v36 v35 Sz kk) false))) false) false)))=true:=by
 rw [g.hj.ld];refine vJ (n:=n) (by omega) g.hy fun S2z h2 f2=>?_;rw [bF rfl (by simp),dR];have n12:=f2.n;obtain⟨C2,eC2⟩:∃C2:Nat->Prop,C2=fun i=>i=rr\/i=S2z.n:=⟨_,rfl⟩;have AF:C2 rr:=by rw [eC2];exact .inl rfl
 have Hf:C2 S2z.n:=by rw [eC2];exact .inr rfl
 have r1:lL S2z C2 aW (.int .i64 (i64 (gR 8 st).1)::(aW.map jM).tail) [(dec .int st).1,.n 0,.n 0,.n 0,.s []]:= .cons (GN _) (sF S2z C2 aW.tail);refine xG (its:=aW) r1 rfl rfl Hf fun S3z x3 n3 KL=>?_;have hj3:=(g.hj.fr f2).fr (x3.fr (Row1 rr));have g0:Rg Sz rr j S2z.n C2 130 aW S3z (dec .int st).2 _:=⟨⟨_,KL⟩,h2.ext x3,hj3,f2.trans (x3.fr _),n12,AF,fun i hi=>by rw [eC2]at hi;have:=h2.lt;omega,by have:=h2.lt;omega,by have:=g.hj.lt;omega⟩;refine tZ (n:=n) hM g0 1 rfl fun S4 g1=>?_;refine aD1 (n:=n) hM g1 2 rfl fun S5 g2=>?_;refine tZ (n:=n) hM g2 3 rfl fun S6 g3=>?_;refine NX (n:=n) hM g3 4 rfl fun S7 g4=>?_;have G:=g.turn g4.hy g4.F;obtain⟨cs2,Hg⟩:=g4.vP;obtain⟨cs,vP⟩:=G.vP;have hcl:cs.length=15:=vP.rd.len;obtain⟨v23,hv⟩:∃v,cs[14]? =some v:=⟨cs[14],List.getElem?_eq_getElem (by omega)⟩;have r23:Rd S7 Cx (.list aW) v23 (.l es):=vP.rd.rd 14 _ v23 _ rfl hv (by rw [List.getElem?_set_self (by omega)]);have aHz:cs2.length=5:=Hg.rd.len;rw [aB,Nat.zero_add,cB vP.obj hv,fW Hg.obj (by omega),List.drop_zero,List.take_of_length_le (by omega),fW Hg.obj (by omega),List.drop_zero,List.take_of_length_le (by omega),aQ Hg.rd.gF,cB vP.obj hv,aQ r23.pB];refine Vv (b2:=S2z.n) rfl r23 Hg.obj Hg.lt Hg.rd he fun S8 v8 x8 r8=>?_;have hd:(bX aW st).1=[(dec .int st).1,(dec .int (dec .int st).2).1,(dec .kind (dec .int (dec .int st).2).2).1,(dec .int (dec .kind (dec .int (dec .int st).2).2).2).1,(dec .text (dec .int (dec .kind (dec .int (dec .int st).2).2).2).2).1]:=rfl;have hd2:(bX aW st).2=(dec .text (dec .int (dec .kind (dec .int (dec .int st).2).2).2).2).2:=rfl;refine G.put (q:=14) (it:= .list aW) (g4.hy.ext x8) (x8.fr _) rfl (r8.fr ⟨Nat.le_refl _,fun _ _ _=>rfl,fun i hi=> .inl (G.lt i hi)⟩) fun S9 g9=>?_;rw [List.set_set]at g9;refine hk S9 ?_;rw [hd,hd2];exact g9
theorem Rg.aHc{t:TypeId}{its:List It}{L:List D} (g:Rg sb rr j b Cx t its Sz st L) (h:L[14]? =some (.l [])):Rg sb rr j b Cx t its Sz st (L.set 14 (.l [])):=by
 have:L.set 14 (.l [])=L:=by
  apply List.ext_getElem?;intro q;rw [List.getElem?_set];split
  ·rename_i hj;subst hj
   rw [if_pos (List.getElem?_eq_some_iff.1 h).1,h]
  ·rfl
 rw [this];exact g
theorem Lh (hM:140737488355329<most) (h0:ds0.length=15){N:Nat} (hN:N<=1048576){st0:RS}
 (fin:∀S',Rg sb rr j b Cx 42 bQ S' (kK (bX aW) N st0).2 (ds0.set 14 (.l (kK (bX aW) N st0).1))->(aR 15 (pt b 0) S' fun v38 Sz=>cQ 15 (pt t2 0) v38 Sz fun Sz=>aR 15 (pt t2 0) Sz fun v39 _=>K v39 Sz)=true):
 ∀(r i m:Nat) (Sz:St) (st:RS) (es:List (List D)),i+r=N->r<m->Rg sb rr j b Cx 42 bQ Sz st (ds0.set 14 (.l es))->es.length=i->kK (bX aW) N st0=(es++(kK (bX aW) r st).1,(kK (bX aW) r st).2)->
  cZ (X most (n+4)) m (pt j 0) (pt t2 0) (pt b 0) (.int .i64 (.ofNat N)) (.int .i64 (.ofNat i)) Sz K=true:=by
 intro r;induction r with
 | zero=>
  intro i m Sz st es hi hm g hl he;obtain⟨m,rfl⟩:=Nat.exists_eq_succ_of_ne_zero (show m≠0 by omega);rw [jS];unfold fP;rw [bP];refine He (n:=n+3) g.hy g.hj (fun c=>absurd c (by omega)) fun _ S1z h1 f1=>?_;rw [LJ _ 0 st (.inl rfl),List.append_nil]at he;exact fin S1z (by rw [he];exact g.turn h1 f1)
 | succ r ih=>
  intro i m Sz st es hi hm g hl he;obtain⟨m,rfl⟩:=Nat.exists_eq_succ_of_ne_zero (show m≠0 by omega);rw [jS];unfold fP;rw [bP];refine He (n:=n+3) g.hy g.hj (fun c e S1z h1 f1=>?_) fun c S1z h1 f1=>?_
  ·refine aCu (n:=n) hM (g.turn h1 f1) h0 (by omega) fun S2z g2=>?_
   rw [aP _ _ _ _ (by omega)];refine ih (i+1) m S2z _ (es++[(bX aW st).1]) (by omega) (by omega) g2 (by rw [List.length_append,hl];rfl) ?_;rw [he,Sa _ r st e,List.append_assoc];rfl
  ·rw [LJ _ (r+1) st (.inr (by rcases c with c | c;exact absurd c (by omega);exact c)),List.append_nil]at he
   exact fin S1z (by rw [he];exact g.turn h1 f1)
end
section
variable{n rr:Nat}{K:VK}{C:Nat->Prop}
theorem Li (its:List It) (st:RS):dec (.list its) st=(.l (kK (bX its) (fD 1048576 st).1 (fD 1048576 st).2).1,(kK (bX its) (fD 1048576 st).1 (fD 1048576 st).2).2):=rfl
theorem Lj (hM:140737488355329<most){j b t2:Nat}{S0 sb Sz:St}{Cx:Nat->Prop}{L:List D}{S:RS} (g:Rg sb rr j b Cx 42 bQ Sz (fD 1048576 S).2 L) (hL:L.length=15) (h14:L[14]? =some (.l [])){z:List Value} (hz:z.length=15) (ht:sb.obj t2=some (.cells z 42 .exact)) (htn:t2<sb.n) (htr:t2≠rr) (ht0:S0.n<=t2) (x0:aZ S0 sb) (hrr:rr<S0.n)
 (hCx:∀i,C i->Cx i) (hCt:Cx t2)
 (hK:∀S' cs,Ry S' rr (kK (bX aW) (fD 1048576 S).1 (fD 1048576 S).2).2->cM (Row1 rr) S0 S' (Row1 rr)->lL S' C bQ cs (L.set 14 (.l (kK (bX aW) (fD 1048576 S).1 (fD 1048576 S).2).1))->K (.agg ⟨cs⟩) S'=true):
 cZ (X most (n+4)) most (pt j 0) (pt t2 0) (pt b 0) (.int .i64 (.ofNat (fD 1048576 S).1)) zI Sz K=true:=by
 have hN:=sJ 1048576 S;refine Lh (n:=n) (ds0:=L) (st0:=(fD 1048576 S).2) hM hL hN (fun S' g=>?_) (fD 1048576 S).1 0 most Sz (fD 1048576 S).2 [] (by omega) (by omega) (g.aHc h14) rfl rfl;obtain⟨cs,vP⟩:=g.vP;have hcl:cs.length=15:=vP.rd.len;have ht3:S'.obj t2=some (.cells z 42 .exact):=by rw [g.F.same _ htn htr];exact ht
 have h1c:=List.all_eq_true.2 vP.rd.one;rw [fW vP.obj (by omega),List.drop_zero,List.take_of_length_le (by omega),kR ht3 (by rw [hcl,hz]) h1c 15 hcl.symm,fW aX (by omega),List.drop_zero,List.take_of_length_le (by omega)];have fT:cM (Row1 t2) S' (S'.set t2 (.cells cs 42 .exact)) (Row1 t2):=⟨by rw [gG];exact Nat.le_refl _,fun i _ hb=>aJ hb,fun _ h=> .inl h⟩;refine hK _ cs (g.hy.fr fT (Ne.symm htr)) (((x0.fr _).trans g.F).newer fT ht0) ?_;exact vP.rd.fr (C':=C) ⟨by rw [gG];exact Nat.le_refl _,fun i _ hi=>aJ fun e=>hi (by rw [e];exact hCt),fun i hi=> .inl (hCx i hi)⟩
set_option maxHeartbeats 1000000 in
theorem Vw (hM:140737488355329<most){st:RS}{Sz:St} (h:Ry Sz rr st) (hrr:C rr) (hC:∀i,C i->i<Sz.n)
 (hK:∀S' cs,Ry S' rr (bX bQ st).2->cM (Row1 rr) Sz S' (Row1 rr)->lL S' C bQ cs (bX bQ st).1->K (.agg ⟨cs⟩) S'=true):(X most (n+5)).C qE [inn rr] Sz K=true:=by
 rw [aT (by rfl),RA];unfold CT;rw [eI rfl,eB];obtain⟨sb,Mf⟩:∃sb,sb=(Sz.new (.cells [pt rr 0] 108 .exact)).new (.cells (bQ.map jM) 42 .exact):=⟨_,rfl⟩;have xsb:aZ Sz sb:=by rw [Mf];exact(aZ.new Sz _).trans (.new _ _)
 have nsb:sb.n=Sz.n+2:=by rw [Mf];rfl
 have hin:UU sb Sz.n rr:=⟨by omega,by have:=h.lt;omega,by rw [Mf,aL (by rw [kM];omega)];exact aF⟩;have ht2:sb.obj (Sz.n+1)=some (.cells (bQ.map jM) 42 .exact):=by rw [Mf];exact aF
 show(aR 1 (pt Sz.n 0) ((Sz.new (.cells [pt rr 0] 108 .exact)).new (.cells (bQ.map jM) 42 .exact)) _)=true;rw [<-Mf,hin.ld];have hsb:=h.ext xsb;refine vJ (n:=n) (by omega) hsb fun S2z h2 f2=>?_;rw [bF rfl (by simp),dR];have n12:=f2.n;obtain⟨Cx,zO⟩:∃Cx:Nat->Prop,Cx=fun i=>i<=S2z.n/\(Sz.n<=i\/C i):=⟨_,rfl⟩;have AF:Cx rr:=by rw [zO];exact⟨by have:=hC rr hrr;omega,.inr hrr⟩
 have Hf:Cx S2z.n:=by rw [zO];exact⟨Nat.le_refl _,.inl (by omega)⟩
 have r1:lL S2z Cx bQ (.int .i64 (i64 (gR 8 st).1)::(bQ.map jM).tail) ((dec .int st).1::(bQ.map JS).tail):= .cons (GN _) (sF S2z Cx bQ.tail);refine xG (its:=bQ) r1 rfl rfl Hf fun S3z x3 n3 KL=>?_;have hj3:=(hin.fr f2).fr (x3.fr (Row1 rr));have g0:Rg sb rr Sz.n S2z.n Cx 42 bQ S3z (dec .int st).2 _:=⟨⟨_,KL⟩,h2.ext x3,hj3,f2.trans (x3.fr _),n12,AF,fun i hi=>by rw [zO]at hi;exact hi.1,by have:=h2.lt;omega,by omega⟩;refine tZ (n:=n) hM g0 1 rfl fun S10 g1=>?_;refine tZ (n:=n) hM g1 2 rfl fun S11 g2=>?_;refine tZ (n:=n) hM g2 3 rfl fun S12 g3=>?_;refine tZ (n:=n) hM g3 4 rfl fun S13 g4=>?_;refine tZ (n:=n) hM g4 5 rfl fun S14 g5=>?_;refine tZ (n:=n) hM g5 6 rfl fun S15 g6=>?_;refine NX (n:=n) hM g6 7 rfl fun S16 g7=>?_;refine NX (n:=n) hM g7 8 rfl fun S17 g8=>?_;refine tZ (n:=n) hM g8 9 rfl fun S18 g9=>?_;refine tZ (n:=n) hM g9 10 rfl fun S19 g10=>?_;refine aAw (n:=n) hM g10 11 rfl fun S20 g11=>?_;refine aAw (n:=n) hM g11 12 rfl fun S21 g12=>?_;refine NX (n:=n) hM g12 13 rfl fun S22 g13=>?_;rw [g13.hj.ld];refine AE (n:=n) (by omega) g13.hy fun S23 h23 f23=>?_;have G:=g13.turn h23 f23;rw [bP];have nb:Sz.n+1≠rr:=fun e=>by have:=h.lt;omega
 refine Lj (n:=n) (t2:=Sz.n+1) (S0:=Sz) (C:=C) (z:=bQ.map jM) hM G rfl rfl rfl ht2 (by omega) nb (by omega) xsb h.lt (fun i hi=>?_) ?_ fun S' cs a1 a2 a3=>hK S' cs ?_ a2 ?_
 ·rw [zO];exact⟨by have:=hC i hi;omega,.inr hi⟩
 ·rw [zO];exact⟨by omega,.inl (by omega)⟩
 ·simp only [bQ,bX,Li];exact a1
 ·simp only [bQ,JS,List.map_cons,List.map_nil,List.tail_cons,List.set_cons_succ,List.set_cons_zero]at a3
  simp only [bQ,bX,Li];exact a3
end
set_option maxRecDepth 100000
variable{most:Nat}
theorem lL.splice{Sz:St}{C:Nat->Prop}{its dJ:List It}{cs cs':List Value}{ds ds':List D} (h:lL Sz C its cs ds) (h':lL Sz C dJ cs' ds'){o:Nat} (ho:o+dJ.length<=its.length) (hi:∀q,q<dJ.length->its[o+q]? =dJ[q]?):lL Sz C its (Am.splice o cs' cs) (Am.splice o ds' ds):=by
 have l1:=h.len;have l2:=h.jK;have l3:=h'.len;have l4:=h'.jK;refine⟨by rw [mK _ _ _ (by omega)];exact l1,by rw [mK _ _ _ (by omega)];exact l2,fun q it v d a b c=>?_⟩;rw [oN _ _ _ (by omega)]at b c;by_cases h1:o<=q/\q<o+dJ.length
 ·rw [if_pos (by omega)]at b c
  have e:q=o+(q-o):=by omega
  rw [e,hi (q-o) (by omega)]at a;exact h'.rd (q-o) it v d a b c
 ·rw [if_neg (by omega)]at b c
  exact h.rd q it v d a b c
section
variable{n rr j b q:Nat}{sb Sz:St}{Cx:Nat->Prop}{t:TypeId}{its:List It}{st:RS}{ds:List D}{kk:St->Bool}
theorem Rg.aFy{S1z:St}{st1:RS} (g:Rg sb rr j b Cx t its Sz st ds) (h1:Ry S1z rr st1) (f1:cM (Row1 rr) Sz S1z (Row1 rr)){dJ:List It}{cs':List Value}{ds':List D}{o m:Nat} (hm:m=dJ.length) (ho:o+dJ.length<=its.length) (hi:∀q,q<dJ.length->its[o+q]? =dJ[q]?)
 (r:lL S1z Cx dJ cs' ds') (hK:∀S',Rg sb rr j b Cx t its S' st1 (splice o ds' ds)->kk S'=true):(aC o (pt b 0) fun v8=>cQ m v8 (.agg ⟨cs'⟩) S1z kk)=true:=by
 obtain⟨cs,vP⟩:=g.vP;have Lc:=vP.fr f1 (fun i hi=>by rw [show i=rr from hi];exact g.cx) (fun e=>g.nb (Eq.symm e));have l1:=Lc.rd.len;have l3:=r.len;rw [aB,Nat.zero_add,Kp Lc.obj (by omega) (by omega) (List.all_eq_true.2 r.one)];have f2:cM (Row1 b) S1z (S1z.set b (.cells (splice o cs' cs) t .exact)) (Row1 b):=⟨by rw [gG];exact Nat.le_refl _,fun i _ hb=>aJ hb,fun _ h=> .inl h⟩;have rd2:=(Lc.rd.splice r ho hi).fr (f2.up fun i hi=>by rw [show i=b from hi];exact Lc.inC);exact hK _ ⟨⟨_,by rw [gG];exact Lc.lt,Lc.inC,aX,rd2⟩,h1.fr f2 g.nb,(g.hj.fr f1).fb f2 g.jb,(g.F.trans f1).newer f2 g.bn,g.bn,g.cx,g.cb,g.nb,g.jb⟩
end
section
variable{n rr:Nat}{K:VK}{C:Nat->Prop}
theorem aAB{j b:Nat}{sb Sz:St}{Cx:Nat->Prop}{t:TypeId}{its:List It}{st:RS}{ds:List D}{kk:St->Bool} (hM:140737488355329<most) (g:Rg sb rr j b Cx t its Sz st ds) (q:Nat) (hq:its[q]? =some (.list aV)) (hK:∀S',Rg sb rr j b Cx t its S' (dec (.list aV) st).2 (ds.set q (dec (.list aV) st).1)->kk S'=true):
 (aR 1 (pt j 0) Sz fun v6 Sz=>(X most (n+5)).C iR [v6] Sz fun v7 Sz=>aC q (pt b 0) fun v8=>cQ 1 v8 v7 Sz kk)=true:=by
 rw [g.hj.ld];refine aCr (n:=n) hM g.hy g.cx g.lt fun S1z v h1 f1 r1=>?_;exact g.put h1 f1 hq r1 hK
theorem aCv:cN PP 132=some 2:=by kernel_rfl
theorem aCw (hM:140737488355329<most){j:Nat}{S0 S1z:St}{a:Value}{es:List (List D)}{st1:RS} (hrr:C rr) (hC0:∀i,C i->i<S0.n) (h1:Ry S1z rr st1) (hj:UU S1z j rr) (ha:Acc S1z C S0.n bC 132 a es) (hb:es.length<=1048576) (hf:Fn S0.n (Row1 rr) S0 S1z){kk:VK}
 (k:∀S' a',Ry S' rr (bX bC st1).2->Fn S0.n (Row1 rr) S0 S'->Acc S' C S0.n bC 132 a' (es++[(bX bC st1).1])->kk a' S'=true):
 (aR 1 (pt j 0) S1z fun v6 Sz=>(X most (n+4)).C aI [v6] Sz fun v7 Sz=>dK [zI,zS] [(0,1,v7)] fun v8=>cC [zI,zS] 132 Sz fun v9 Sz=>cQ 2 v9 v8 Sz fun Sz=>aR 1 (pt j 0) Sz fun v10 Sz=>(X most (n+4)).C cU [v10] Sz fun v11 Sz=>aC 1 v9 fun v12=>cQ 1 v12 v11 Sz fun Sz=>aR 2 v9 Sz fun v13 Sz=>aM 132 1 [zI,zS] [(0,2,v13)] Sz fun v14 Sz=>kJ PP 132 2 24 a v14 Sz kk)=true:=by
 rw [hj.ld];refine vJ (n:=n) (by omega) h1 fun S2z h2 f2=>?_;rw [bF rfl (by simp),dR];have n01:=hf.n;have n12:=f2.n;obtain⟨Cx,zO⟩:∃Cx:Nat->Prop,Cx=fun i=>i<=S2z.n/\(S0.n<=i\/C i):=⟨_,rfl⟩;have AF:Cx rr:=by rw [zO];exact⟨by have:=hC0 rr hrr;omega,.inr hrr⟩
 have Hf:Cx S2z.n:=by rw [zO];exact⟨Nat.le_refl _,.inl (by omega)⟩
 have r1:lL S2z Cx bC (.int .i64 (i64 (gR 8 st1).1)::(bC.map jM).tail) [(dec .int st1).1,.s []]:= .cons (GN _) (sF S2z Cx bC.tail);refine xG (its:=bC) r1 rfl rfl Hf fun S3z x3 n3 KL=>?_;have hj3:=(hj.fr f2).fr (x3.fr (Row1 rr));have g0:Rg S1z rr j S2z.n Cx 132 bC S3z (dec .int st1).2 _:=⟨⟨_,KL⟩,h2.ext x3,hj3,f2.trans (x3.fr _),n12,AF,fun i hi=>by rw [zO]at hi;exact hi.1,by have:=h2.lt;omega,by have:=hj.lt;omega⟩;refine NX (n:=n) hM g0 1 rfl fun S10 g1=>?_;obtain⟨cs,vP⟩:=g1.vP
 refine TC (C:=C) (S1z:=S1z) (S0:=S0) (es:=es) (its:=bC) hrr hC0 rfl ha hf g1.F vP (fun i hi=>by
  rw [zO];rcases hi with hi | hi
  ·exact⟨by have:=hC0 i hi;omega,.inr hi⟩
  ·exact⟨by omega,.inl hi.1⟩) g1.hy rfl aCv (by omega) fun S7 a7 h7 f7 k7=>?_
 simp only [List.set_cons_succ,List.set_cons_zero]at k7;refine k S7 a7 ?_ f7 ?_
 ·simp only [bC,bX];exact h7
 ·simp only [bC,bX]at k7 ⊢;exact k7
theorem Pm (hM:140737488355329<most){j b t2:Nat}{S0 sb Sz:St}{Cx:Nat->Prop}{L:List D}{S:RS} (g:Rg sb rr j b Cx 45 bZ Sz S L) (hL:L.length=20){z:List Value} (hz:z.length=20) (ht:sb.obj t2=some (.cells z 45 .exact)) (htn:t2<sb.n) (htr:t2≠rr) (ht0:S0.n<=t2) (x0:aZ S0 sb) (hrr:rr<S0.n)
 (hCx:∀i,C i->Cx i) (hCt:Cx t2)
 (hK:∀S' cs,Ry S' rr (dec (.list aV) (dec (.list bC) S).2).2->cM (Row1 rr) S0 S' (Row1 rr)->lL S' C bZ cs ((L.set 18 (dec (.list bC) S).1).set 19 (dec (.list aV) (dec (.list bC) S).2).1)->K (.agg ⟨cs⟩) S'=true):
 (aR 1 (pt j 0) Sz fun v15 Sz=>(X most (n+5)).C dH [v15] Sz fun v16 Sz=>eA (X most (n+5)) most (pt j 0) (pt t2 0) (pt b 0) zL v16 zI Sz K)=true:=by
 rw [g.hj.ld];refine AE (n:=n+1) (by omega) g.hy fun S6 h6 f6=>?_;have hj6:=g.hj.fr f6;have hC6:∀i,Cx i->i<S6.n:=fun i hi=>Nat.lt_of_lt_of_le (g.lt i hi) f6.n;have hN5:(fD 1048576 S).1<=1048576:=sJ 1048576 S
 refine tX (n:=n+4) (most:=most) (j:=j) (N:=(fD 1048576 S).1) (S0:=S6) (C:=Cx) (f:=bX bC) (its:=bC) (el:=132) (st0:=(fD 1048576 S).2) g.cx hC6 hj6
  (L:=fun m a i S'=>eA (X most (n+5)) m (pt j 0) (pt t2 0) (pt b 0) a (.int .i64 (.ofNat (fD 1048576 S).1)) (.int .i64 (.ofNat i)) S' K)
  (A:=fun m a i S'=>aR 1 (pt j 0) S' fun v6 S'=>(X most (n+5)).C aI [v6] S' fun v7 S'=>dK [zI,zS] [(0,1,v7)] fun v8=>cC [zI,zS] 132 S' fun v9 S'=>cQ 2 v9 v8 S' fun S'=>aR 1 (pt j 0) S' fun v10 S'=>(X most (n+5)).C cU [v10] S' fun v11 S'=>aC 1 v9 fun v12=>cQ 1 v12 v11 S' fun S'=>aR 2 v9 S' fun v13 S'=>aM 132 1 [zI,zS] [(0,2,v13)] S' fun v14 S'=>kJ PP 132 2 24 a v14 S' fun v15 S'=>aK PP .add 3 (.int .i64 (.ofNat i)) (.int .i64 (.ofNat 1)) fun v16=>eA (X most (n+5)) m (pt j 0) (pt t2 0) (pt b 0) v15 (.int .i64 (.ofNat (fD 1048576 S).1)) v16 S' K)
  (K:=fun a2 S'=>aC 18 (pt b 0) fun v17=>cQ 1 v17 a2 S' fun S'=>aR 1 (pt j 0) S' fun v18 S'=>(X most (n+5)).C iR [v18] S' fun v19 S'=>aC 19 (pt b 0) fun v20=>cQ 1 v20 v19 S' fun S'=>aR 20 (pt b 0) S' fun v21 S'=>cQ 20 (pt t2 0) v21 S' fun S'=>aR 20 (pt t2 0) S' fun v22 _=>K v22 S')
  (fun m a i S'=>?_) (fun i m a S7 st7 es2 hi2 h7 hj7 ha7 hl7 hf7 k7=>?_) (fun S7 v7 h7 hf7 ha7=>?_) (fD 1048576 S).1 0 most S6 zL _ [] (by omega) (by omega) h6 ⟨Nat.le_refl _,fun _ _ _=>rfl⟩ (.inl ⟨rfl,rfl⟩) rfl rfl
 ·rw [yS]
  unfold pO;rw [bP]
 ·refine aCw (n:=n+1) hM g.cx hC6 h7 hj7 ha7 (by omega) hf7 fun S8 a8 h8 f8 k8=>?_
  rw [aP _ _ _ _ (by omega)];exact k7 S8 a8 h8 f8 k8
 ·have aFx:=rF (bX bC) (fD 1048576 S).1 (fD 1048576 S).2
  have r7:Rd S7 Cx (.list bC) v7 (dec (.list bC) S).1:=ha7.rd hC6 (by omega);have h7':Ry S7 rr (dec (.list bC) S).2:=h7;refine g.put (q:=18) (it:= .list bC) h7' (f6.trans hf7.fr) rfl r7 fun S8 g2=>?_;refine aAB (n:=n) hM g2 19 rfl fun S9 g3=>?_;obtain⟨cs,vP⟩:=g3.vP;have hcl:cs.length=20:=vP.rd.len;have ht3:S9.obj t2=some (.cells z 45 .exact):=by rw [g3.F.same _ htn htr];exact ht
  have h1c:=List.all_eq_true.2 vP.rd.one;rw [fW vP.obj (by omega),List.drop_zero,List.take_of_length_le (by omega),kR ht3 (by rw [hcl,hz]) h1c 20 hcl.symm,fW aX (by omega),List.drop_zero,List.take_of_length_le (by omega)];have fT:cM (Row1 t2) S9 (S9.set t2 (.cells cs 45 .exact)) (Row1 t2):=⟨by rw [gG];exact Nat.le_refl _,fun i _ hb=>aJ hb,fun _ h=> .inl h⟩;refine hK _ cs (g3.hy.fr fT (Ne.symm htr)) (((x0.fr _).trans g3.F).newer fT ht0) ?_;exact vP.rd.fr (C':=C) ⟨by rw [gG];exact Nat.le_refl _,fun i _ hi=>aJ fun e=>hi (by rw [e];exact hCt),fun i hi=> .inl (hCx i hi)⟩
set_option maxHeartbeats 1000000 in
theorem aAC (hM:140737488355329<most){st:RS}{Sz:St} (h:Ry Sz rr st) (hrr:C rr) (hC:∀i,C i->i<Sz.n)
 (hK:∀S' cs,Ry S' rr (bX bZ st).2->cM (Row1 rr) Sz S' (Row1 rr)->lL S' C bZ cs (bX bZ st).1->K (.agg ⟨cs⟩) S'=true):(X most (n+6)).C rG [inn rr] Sz K=true:=by
 rw [aT (by rfl),TE];unfold FE;rw [eI rfl,eB];obtain⟨sb,Mf⟩:∃sb,sb=(Sz.new (.cells [pt rr 0] 108 .exact)).new (.cells (bZ.map jM) 45 .exact):=⟨_,rfl⟩;have xsb:aZ Sz sb:=by rw [Mf];exact(aZ.new Sz _).trans (.new _ _)
 have nsb:sb.n=Sz.n+2:=by rw [Mf];rfl
 have hin:UU sb Sz.n rr:=⟨by omega,by have:=h.lt;omega,by rw [Mf,aL (by rw [kM];omega)];exact aF⟩;have ht2:sb.obj (Sz.n+1)=some (.cells (bZ.map jM) 45 .exact):=by rw [Mf];exact aF
 show(aR 1 (pt Sz.n 0) ((Sz.new (.cells [pt rr 0] 108 .exact)).new (.cells (bZ.map jM) 45 .exact)) _)=true;rw [<-Mf,hin.ld];have hsb:=h.ext xsb;refine vJ (n:=n+1) (by omega) hsb fun S2z h2 f2=>?_;rw [bF rfl (by simp),dR];have n12:=f2.n;obtain⟨Cx,zO⟩:∃Cx:Nat->Prop,Cx=fun i=>i<=S2z.n/\(Sz.n<=i\/C i):=⟨_,rfl⟩;have AF:Cx rr:=by rw [zO];exact⟨by have:=hC rr hrr;omega,.inr hrr⟩
 have Hf:Cx S2z.n:=by rw [zO];exact⟨Nat.le_refl _,.inl (by omega)⟩
 have r1:lL S2z Cx bZ (.int .i64 (i64 (gR 8 st).1)::(bZ.map jM).tail) ((dec .int st).1::(bZ.map JS).tail):= .cons (GN _) (sF S2z Cx bZ.tail);refine xG (its:=bZ) r1 rfl rfl Hf fun S3z x3 n3 KL=>?_;have hj3:=(hin.fr f2).fr (x3.fr (Row1 rr));have g0:Rg sb rr Sz.n S2z.n Cx 45 bZ S3z (dec .int st).2 _:=⟨⟨_,KL⟩,h2.ext x3,hj3,f2.trans (x3.fr _),n12,AF,fun i hi=>by rw [zO]at hi;exact hi.1,by have:=h2.lt;omega,by omega⟩;refine NX (n:=n+1) hM g0 1 rfl fun S10 g1=>?_;refine aAw (n:=n+1) hM g1 2 rfl fun S11 g2=>?_;rw [g2.hj.ld];refine Vw (n:=n) hM g2.hy g2.cx g2.lt fun S12 aHd h12 f12 r12=>?_;refine g2.aFy (o:=3) (dJ:=bQ) h12 f12 rfl (by decide) (fun q hq=>?_) r12 fun S13 g3=>?_
 ·have hq:q<15:=hq
  have:∀q,q<15->bZ[3+q]? =bQ[q]? :=by
   intro q hq
   match q,hq with
   | 0,_ | 1,_ | 2,_ | 3,_ | 4,_ | 5,_ | 6,_ | 7,_ | 8,_ | 9,_ | 10,_ | 11,_ | 12,_ | 13,_ | 14,_=>rfl
  exact this q hq
 rw [bP];have nb:Sz.n+1≠rr:=fun e=>by have:=h.lt;omega
 have el:(bX bQ (dec It.is (dec It.text (dec It.int st).2).2).2).1.length=15:=JF _ _;refine Pm (n:=n) (t2:=Sz.n+1) (S0:=Sz) (C:=C) (z:=bZ.map jM) hM g3 (by rw [mK _ _ _ (by rw [el];exact(show 3+15<=20 by omega))];rfl) rfl ht2 (by omega) nb (by omega) xsb h.lt (fun i hi=>?_) ?_ fun S' cs a1 a2 a3=>hK S' cs ?_ a2 ?_
 ·rw [zO];exact⟨by have:=hC i hi;omega,.inr hi⟩
 ·rw [zO];exact⟨by omega,.inl (by omega)⟩
 ·have e:bZ=[.int,.text,.is]++(bQ++[.list bC,.list aV]):=rfl
  rw [e];simp only [EH,bX];exact a1
 ·have e:bZ=[.int,.text,.is]++(bQ++[.list bC,.list aV]):=rfl
  have e2:(bX bZ st).1=[(dec .int st).1,(dec .text (dec .int st).2).1,(dec .is (dec .text (dec .int st).2).2).1]++((bX bQ (dec It.is (dec It.text (dec It.int st).2).2).2).1++[(dec (.list bC) (bX bQ (dec It.is (dec It.text (dec It.int st).2).2).2).2).1,(dec (.list aV) (dec (.list bC) (bX bQ (dec It.is (dec It.text (dec It.int st).2).2).2).2).2).1]):=by
   rw [e];simp only [EH,bX]
  rw [e2];generalize hS:(bX bQ (dec It.is (dec It.text (dec It.int st).2).2).2)=W at a3 el ⊢;obtain⟨w1,w2⟩:=W;simp only at a3 el ⊢
  match w1,el with
  | [b0,b1,b2,b3,b4,b5,b6,b7,b8,b9,b10,b11,b12,b13,b14],_=>exact a3
end
set_option maxRecDepth 100000
variable{most:Nat}
section
variable{n rr:Nat}{K:VK}{C:Nat->Prop}
section
variable{j b:Nat}{sb Sz:St}{Cx:Nat->Prop}{t:TypeId}{its:List It}{st:RS}{ds:List D}{kk:St->Bool}
theorem Sg (hM:140737488355329<most) (g:Rg sb rr j b Cx t its Sz st ds) (q:Nat) (hq:its[q]? =some (.list aY)) (hK:∀S',Rg sb rr j b Cx t its S' (dec (.list aY) st).2 (ds.set q (dec (.list aY) st).1)->kk S'=true):
 (aR 1 (pt j 0) Sz fun v6 Sz=>(X most (n+5)).C lC [v6] Sz fun v7 Sz=>aC q (pt b 0) fun v8=>cQ 1 v8 v7 Sz kk)=true:=by
 rw [g.hj.ld];refine aAy (n:=n) hM g.hy g.cx g.lt fun S1z v h1 f1 r1=>?_;exact g.put h1 f1 hq r1 hK
theorem aAD (hM:140737488355329<most) (g:Rg sb rr j b Cx t its Sz st ds) (q:Nat) (hq:its[q]? =some (.list aD)) (hK:∀S',Rg sb rr j b Cx t its S' (dec (.list aD) st).2 (ds.set q (dec (.list aD) st).1)->kk S'=true):
 (aR 1 (pt j 0) Sz fun v6 Sz=>(X most (n+6)).C fA [v6] Sz fun v7 Sz=>aC q (pt b 0) fun v8=>cQ 1 v8 v7 Sz kk)=true:=by
 rw [g.hj.ld];refine Ld (n:=n) hM g.hy g.cx g.lt fun S1z v h1 f1 r1=>?_;exact g.put h1 f1 hq r1 hK
end
theorem aD3:cN PP 85=some 3:=by kernel_rfl
theorem aCx (hM:140737488355329<most){j:Nat}{S0 S1z:St}{a:Value}{es:List (List D)}{st1:RS} (hrr:C rr) (hC0:∀i,C i->i<S0.n) (h1:Ry S1z rr st1) (hj:UU S1z j rr) (ha:Acc S1z C S0.n bE 85 a es) (hb:es.length<=1048576) (hf:Fn S0.n (Row1 rr) S0 S1z){kk:VK}
 (k:∀S' a',Ry S' rr (bX bE st1).2->Fn S0.n (Row1 rr) S0 S'->Acc S' C S0.n bE 85 a' (es++[(bX bE st1).1])->kk a' S'=true):
 (aR 1 (pt j 0) S1z fun v6 Sz=>(X most (n+4)).C aI [v6] Sz fun v7 Sz=>dK [zI,zI,zL] [(0,1,v7)] fun v8=>cC [zI,zI,zL] 85 Sz fun v9 Sz=>cQ 3 v9 v8 Sz fun Sz=>aR 1 (pt j 0) Sz fun v10 Sz=>(X most (n+4)).C aI [v10] Sz fun v11 Sz=>aC 1 v9 fun v12=>cQ 1 v12 v11 Sz fun Sz=>aR 1 (pt j 0) Sz fun v13 Sz=>(X most (n+4)).C cP [v13] Sz fun v14 Sz=>aC 2 v9 fun v15=>cQ 1 v15 v14 Sz fun Sz=>aR 3 v9 Sz fun v16 Sz=>aM 85 1 [zI,zI,zL] [(0,3,v16)] Sz fun v17 Sz=>kJ PP 85 3 40 a v17 Sz kk)=true:=by
 rw [hj.ld];refine vJ (n:=n) (by omega) h1 fun S2z h2 f2=>?_;rw [bF rfl (by simp),dR];have n01:=hf.n;have n12:=f2.n;obtain⟨Cx,zO⟩:∃Cx:Nat->Prop,Cx=fun i=>i<=S2z.n/\(S0.n<=i\/C i):=⟨_,rfl⟩;have AF:Cx rr:=by rw [zO];exact⟨by have:=hC0 rr hrr;omega,.inr hrr⟩
 have Hf:Cx S2z.n:=by rw [zO];exact⟨Nat.le_refl _,.inl (by omega)⟩
 have r1:lL S2z Cx bE (.int .i64 (i64 (gR 8 st1).1)::(bE.map jM).tail) [(dec .int st1).1,.n 0,.l []]:= .cons (GN _) (sF S2z Cx bE.tail);refine xG (its:=bE) r1 rfl rfl Hf fun S3z x3 n3 KL=>?_;have hj3:=(hj.fr f2).fr (x3.fr (Row1 rr));have g0:Rg S1z rr j S2z.n Cx 85 bE S3z (dec .int st1).2 _:=⟨⟨_,KL⟩,h2.ext x3,hj3,f2.trans (x3.fr _),n12,AF,fun i hi=>by rw [zO]at hi;exact hi.1,by have:=h2.lt;omega,by have:=hj.lt;omega⟩;refine tZ (n:=n) hM g0 1 rfl fun S10 g1=>?_;refine Hh (n:=n) hM g1 2 rfl fun S11 g2=>?_;obtain⟨cs,vP⟩:=g2.vP
 refine TC (C:=C) (S1z:=S1z) (S0:=S0) (es:=es) (its:=bE) hrr hC0 rfl ha hf g2.F vP (fun i hi=>by
  rw [zO];rcases hi with hi | hi
  ·exact⟨by have:=hC0 i hi;omega,.inr hi⟩
  ·exact⟨by omega,.inl hi.1⟩) g2.hy rfl aD3 (by omega) fun S7 a7 h7 f7 k7=>?_
 simp only [List.set_cons_succ,List.set_cons_zero]at k7;refine k S7 a7 ?_ f7 ?_
 ·simp only [bE,bX];exact h7
 ·simp only [bE,bX]at k7 ⊢;exact k7
theorem aAE (hM:140737488355329<most){j b t2:Nat}{S0 sb Sz:St}{Cx:Nat->Prop}{L:List D}{S:RS} (g:Rg sb rr j b Cx 49 bN Sz S L) (hL:L.length=30){z:List Value} (hz:z.length=30) (ht:sb.obj t2=some (.cells z 49 .exact)) (htn:t2<sb.n) (htr:t2≠rr) (ht0:S0.n<=t2) (x0:aZ S0 sb) (hrr:S0.n<=rr)
 (hCx:∀i,C i->Cx i) (hCt:Cx t2) {S1 S2 S3:RS} (e1:S1=(dec (.list bE) S).2) (e2:S2=(dec (.list aV) S1).2) (e3:S3=(dec (.list aD) S2).2)
 (hok:(ZH S3).2=0->∀S' cs,aZ S0 S'->lL S' C bN cs (((L.set 27 (dec (.list bE) S).1).set 28 (dec (.list aV) S1).1).set 29 (dec (.list aD) S2).1)->K (.tuple ⟨[.agg ⟨cs⟩,.int .i64 (.ofNat 0)]⟩) S'=true)
 (hno:(ZH S3).2≠0->∀S',aZ S0 S'->K (.tuple ⟨[.agg ⟨tL⟩,.int .i64 (.ofNat (ZH S3).2)]⟩) S'=true):
 (aR 1 (pt j 0) Sz fun v29 Sz=>(X most (n+6)).C dH [v29] Sz fun v30 Sz=>dG (X most (n+6)) most (pt t2 0) (pt j 0) (pt b 0) zL v30 zI Sz K)=true:=by
 rw [g.hj.ld];refine AE (n:=n+2) (by omega) g.hy fun S6 h6 f6=>?_;have hj6:=g.hj.fr f6;have hC6:∀i,Cx i->i<S6.n:=fun i hi=>Nat.lt_of_lt_of_le (g.lt i hi) f6.n;have hN5:(fD 1048576 S).1<=1048576:=sJ 1048576 S
 refine tX (n:=n+5) (most:=most) (j:=j) (N:=(fD 1048576 S).1) (S0:=S6) (C:=Cx) (f:=bX bE) (its:=bE) (el:=85) (st0:=(fD 1048576 S).2) g.cx hC6 hj6
  (L:=fun m a i S'=>dG (X most (n+6)) m (pt t2 0) (pt j 0) (pt b 0) a (.int .i64 (.ofNat (fD 1048576 S).1)) (.int .i64 (.ofNat i)) S' K)
  (A:=fun m a i S'=>aR 1 (pt j 0) S' fun v6 Sz=>(X most (n+6)).C aI [v6] Sz fun v7 Sz=>dK [zI,zI,zL] [(0,1,v7)] fun v8=>cC [zI,zI,zL] 85 Sz fun v9 Sz=>cQ 3 v9 v8 Sz fun Sz=>aR 1 (pt j 0) Sz fun v10 Sz=>(X most (n+6)).C aI [v10] Sz fun v11 Sz=>aC 1 v9 fun v12=>cQ 1 v12 v11 Sz fun Sz=>aR 1 (pt j 0) Sz fun v13 Sz=>(X most (n+6)).C cP [v13] Sz fun v14 Sz=>aC 2 v9 fun v15=>cQ 1 v15 v14 Sz fun Sz=>aR 3 v9 Sz fun v16 Sz=>aM 85 1 [zI,zI,zL] [(0,3,v16)] Sz fun v17 Sz=>kJ PP 85 3 40 a v17 Sz fun v18 Sz=>aK PP .add 3 (.int .i64 (.ofNat i)) (.int .i64 (.ofNat 1)) fun v19=>dG (X most (n+6)) m (pt t2 0) (pt j 0) (pt b 0) v18 (.int .i64 (.ofNat (fD 1048576 S).1)) v19 Sz K)
  (K:=fun a2 S'=>aC 27 (pt b 0) fun v20=>cQ 1 v20 a2 S' fun Sz=>aR 1 (pt j 0) Sz fun v21 Sz=>(X most (n+6)).C iR [v21] Sz fun v22 Sz=>aC 28 (pt b 0) fun v23=>cQ 1 v23 v22 Sz fun Sz=>aR 1 (pt j 0) Sz fun v24 Sz=>(X most (n+6)).C fA [v24] Sz fun v25 Sz=>aC 29 (pt b 0) fun v26=>cQ 1 v26 v25 Sz fun Sz=>aC 0 (pt j 0) fun v27=>aN v27 Sz fun v28 Sz=>(X most (n+6)).C pG [v28] Sz fun v29 Sz=>aK PP .neq 37 v29 zI fun v30=>gD v30 (dK tL [] fun v31=>cQ 30 (pt t2 0) v31 Sz fun Sz=>aR 30 (pt t2 0) Sz fun v32 _=>K (.tuple ⟨[v32,v29]⟩) Sz) (aR 30 (pt b 0) Sz fun v33 Sz=>cQ 30 (pt t2 0) v33 Sz fun Sz=>aR 30 (pt t2 0) Sz fun v34 _=>K (.tuple ⟨[v34,zI]⟩) Sz))
  (fun m a i S'=>?_) (fun i m a S7 st7 es2 hi2 h7 hj7 ha7 hl7 hf7 k7=>?_) (fun S7 v7 h7 hf7 ha7=>?_) (fD 1048576 S).1 0 most S6 zL _ [] (by omega) (by omega) h6 ⟨Nat.le_refl _,fun _ _ _=>rfl⟩ (.inl ⟨rfl,rfl⟩) rfl rfl
 ·rw [vQ]
  unfold mT;rw [bP];rfl
 ·refine aCx (n:=n+2) hM g.cx hC6 h7 hj7 ha7 (by omega) hf7 fun S8 a8 h8 f8 k8=>?_
  rw [aP _ _ _ _ (by omega)];exact k7 S8 a8 h8 f8 k8
 ·have aFx:=rF (bX bE) (fD 1048576 S).1 (fD 1048576 S).2
  have r7:Rd S7 Cx (.list bE) v7 (dec (.list bE) S).1:=ha7.rd hC6 (by omega);have h7':Ry S7 rr S1:=by rw [e1];exact h7
  refine g.put (q:=27) (it:= .list bE) h7' (f6.trans hf7.fr) rfl r7 fun S8 g2=>?_;refine aAB (n:=n+1) hM g2 28 rfl fun S9 g3=>?_;rw [<-e2]at g3;refine aAD (n:=n) hM g3 29 rfl fun S10 g4=>?_;rw [<-e3]at g4;rw [aB,cB g4.hj.obj rfl];refine aDX (n:=n+4) g4.hy fun S11 h11 f11=>?_;have g5:=g4.turn h11 f11;obtain⟨cs,vP⟩:=g5.vP;have hcl:cs.length=30:=vP.rd.len;have ht3:S11.obj t2=some (.cells z 49 .exact):=by rw [g5.F.same _ htn htr];exact ht
  have xE:∀ws:List Value,aZ S0 (S11.set t2 (.cells ws 49 .exact)):=fun ws=>⟨by have:=x0.n;have:=g5.F.n;rw [gG];omega,fun i hi=>by
   rw [aJ (by omega),g5.F.same i (by have:=x0.n;omega) (fun e=>by have e:i=rr:=e;omega),x0.same i hi]⟩
  rw [dM,iX];by_cases hz0:(ZH S3).2=0
  ·rw [if_neg (by simp [hz0])]
   have h1c:=List.all_eq_true.2 vP.rd.one;rw [fW vP.obj (by omega),List.drop_zero,List.take_of_length_le (by omega),kR ht3 (by rw [hcl,hz]) h1c 30 hcl.symm,fW aX (by omega),List.drop_zero,List.take_of_length_le (by omega)];refine hok hz0 _ cs (xE cs) ?_;exact vP.rd.fr (C':=C) ⟨by rw [gG];exact Nat.le_refl _,fun i _ hi=>aJ fun e=>hi (by rw [e];exact hCt),fun i hi=> .inl (hCx i hi)⟩
  ·rw [if_pos (by simp [hz0]),dR]
   have h30:tL.length=30:=xY;have h1c:tL.all oneCell=true:=Kh;rw [kR (cs:=tL) ht3 (by rw [h30,hz]) h1c 30 h30.symm,fW aX (by omega),List.drop_zero,List.take_of_length_le (by omega)];exact hno hz0 _ (xE tL)
end
set_option maxRecDepth 100000
variable{most:Nat}
theorem aHe:∀q,q<bZ.length->bN[2+q]? =bZ[q]? :=by
 intro q hq;have hq:q<20:=hq
 match q,hq with
 | 0,_ | 1,_ | 2,_ | 3,_ | 4,_ | 5,_ | 6,_ | 7,_ | 8,_ | 9,_ | 10,_ | 11,_ | 12,_ | 13,_ | 14,_ | 15,_ | 16,_ | 17,_ | 18,_ | 19,_=>rfl
 | q+20,h=>exact absurd h (by omega)
section
variable{n:Nat}{K:VK}{Sz:St}
set_option maxHeartbeats 1000000 in
theorem Vx (hM:140737488355329<most){l:List UInt8} (hl:l.length<=1000000) (hK:∀S' cs,aZ Sz S'->lL S' (fun _=>False) bN cs (decode l).1->K (.tuple ⟨[.agg ⟨cs⟩,.int .i64 (.ofNat (decode l).2)]⟩) S'=true):(X most (n+7)).C vK [.string ⟨⟨l⟩⟩] Sz K=true:=by
 rw [aT (by rfl),Ad];unfold KM;rw [SF,eB];have ox:aZ Sz (Sz.new (.cells tL 49 .exact)):= .new Sz _;have ot:(Sz.new (.cells tL 49 .exact)).obj Sz.n=some (.cells tL 49 .exact):=aF;have on:(Sz.new (.cells tL 49 .exact)).n=Sz.n+1:=rfl;revert ox ot on;generalize Sz.new (.cells tL 49 .exact)=S1z;intro ox ot on;refine aCm (n:=n+5) hl fun S2z x2 h2=>?_;rw [on]at h2 ⊢;rw [bF rfl (by simp),dR];have h2l:=h2.lt;have x02:=ox.trans x2;rw [eB];obtain⟨sb,Mf⟩:∃sb,sb=(S2z.new (.cells [.pointer none] 108 .exact)).set S2z.n (.cells [pt (Sz.n+1) 0] 108 .exact):=⟨_,rfl⟩;have e1:∀k:St->Bool,cQ 1 (pt S2z.n 0) (.agg ⟨[Value.pointer none].set 0 (pt (Sz.n+1) 0)⟩) (S2z.new (.cells [.pointer none] 108 .exact)) k=k sb:=fun k=>by rw [Mf];exact kR (vs:=[Value.pointer none]) (cs:=[pt (Sz.n+1) 0]) aF rfl rfl 1 rfl k
 rw [e1];have xsb:aZ S2z sb:=by rw [Mf];exact⟨Nat.le_succ _,fun i hi=>by rw [aJ (by omega),aL (by omega)]⟩
 have nsb:sb.n=S2z.n+1:=by rw [Mf];rfl
 have hin:UU sb S2z.n (Sz.n+1):=⟨by omega,by omega,by rw [Mf];exact aX⟩;have x0b:=x02.trans xsb;have ht2:sb.obj Sz.n=some (.cells tL 49 .exact):=by rw [xsb.same _ (by omega),x2.same _ (by omega)];exact ot
 have hsb:=h2.ext xsb;rw [hin.ld];refine vJ (n:=n+2) (by omega) hsb fun S3z h3 f3=>?_;rw [bF rfl (show 0<tL.length by rw [xY];omega),dR];have n13:=f3.n;obtain⟨Cx,zO⟩:∃Cx:Nat->Prop,Cx=fun i=>i<=S3z.n:=⟨_,rfl⟩;have AF:Cx (Sz.n+1):=by rw [zO];show Sz.n+1<=S3z.n;omega
 have Hf:Cx S3z.n:=by rw [zO];exact Nat.le_refl _
 have r1:lL S3z Cx bN (.int .i64 (i64 (gR 8 (l,0)).1)::(bN.map jM).tail) ((dec .int (l,0)).1::(bN.map JS).tail):= .cons (GN _) (sF S3z Cx bN.tail);refine xG (its:=bN) r1 rfl rfl Hf fun S4 x4 n4 aD0=>?_;have hj4:=(hin.fr f3).fr (x4.fr (Row1 (Sz.n+1)));have g0:Rg sb (Sz.n+1) S2z.n S3z.n Cx 49 bN S4 (dec .int (l,0)).2 _:=⟨⟨_,aD0⟩,h3.ext x4,hj4,f3.trans (x4.fr _),n13,AF,fun i hi=>by rw [zO]at hi;exact hi,by omega,by omega⟩;obtain⟨d0,ed0⟩:∃d,d=(dec .int (l,0)).1:=⟨_,rfl⟩;obtain⟨s0,es0⟩:∃s,s=(dec .int (l,0)).2:=⟨_,rfl⟩;rw [<-ed0,<-es0]at g0;refine Sf (n:=n+1) hM g0 1 rfl fun S10 g1=>?_;obtain⟨d1,ed1⟩:∃d,d=(dec (.list bA) s0).1:=⟨_,rfl⟩;obtain⟨s1,es1⟩:∃s,s=(dec (.list bA) s0).2:=⟨_,rfl⟩;rw [<-ed1,<-es1]at g1;rw [g1.hj.ld];refine aAC (n:=n) hM g1.hy g1.cx g1.lt fun S12 aHd h12 f12 r12=>?_;obtain⟨s2,es2⟩:∃s,s=(bX bZ s1).2:=⟨_,rfl⟩;have el:(bX bZ s1).1.length=20:=JF _ _;obtain⟨w,ew⟩:∃w,w=(bX bZ s1).1:=⟨_,rfl⟩;rw [<-es2]at h12;rw [<-ew]at el r12;obtain⟨b0,b1,b2,b3,b4,b5,b6,b7,b8,b9,b10,b11,b12,b13,b14,b15,b16,b17,b18,b19,rfl⟩:=Gr el;refine g1.aFy (o:=2) (dJ:=bZ) h12 f12 rfl (show 2+20<=30 by omega) aHe r12 fun S13 g2=>?_;refine Sf (n:=n+1) hM g2 22 rfl fun S14 g3=>?_;obtain⟨d3,ed3⟩:∃d,d=(dec (.list bA) s2).1:=⟨_,rfl⟩;obtain⟨s3,es3⟩:∃s,s=(dec (.list bA) s2).2:=⟨_,rfl⟩;rw [<-ed3,<-es3]at g3;refine Sg (n:=n+1) hM g3 23 rfl fun S15 g4=>?_;obtain⟨d4,ed4⟩:∃d,d=(dec (.list aY) s3).1:=⟨_,rfl⟩;obtain⟨s4,es4⟩:∃s,s=(dec (.list aY) s3).2:=⟨_,rfl⟩;rw [<-ed4,<-es4]at g4;refine Sg (n:=n+1) hM g4 24 rfl fun S16 g5=>?_;obtain⟨d5,ed5⟩:∃d,d=(dec (.list aY) s4).1:=⟨_,rfl⟩;obtain⟨s5,es5⟩:∃s,s=(dec (.list aY) s4).2:=⟨_,rfl⟩;rw [<-ed5,<-es5]at g5;refine aAw (n:=n+2) hM g5 25 rfl fun S17 g6=>?_;obtain⟨d6,ed6⟩:∃d,d=(dec .is s5).1:=⟨_,rfl⟩;obtain⟨s6,es6⟩:∃s,s=(dec .is s5).2:=⟨_,rfl⟩;rw [<-ed6,<-es6]at g6;refine aAD (n:=n) hM g6 26 rfl fun S18 g7=>?_;obtain⟨d7,ed7⟩:∃d,d=(dec (.list aD) s6).1:=⟨_,rfl⟩;obtain⟨s7,es7⟩:∃s,s=(dec (.list aD) s6).2:=⟨_,rfl⟩;rw [<-ed7,<-es7]at g7;rw [bP];obtain⟨s8,es8⟩:∃s,s=(dec (.list bE) s7).2:=⟨_,rfl⟩;obtain⟨s9,es9⟩:∃s,s=(dec (.list aV) s8).2:=⟨_,rfl⟩;obtain⟨s10,aFz⟩:∃s,s=(dec (.list aD) s9).2:=⟨_,rfl⟩;have e:bN=[.int,.list bA]++(bZ++[.list bA,.list aY,.list aY,.is,.list aD,.list bE,.list aV,.list aD]):=rfl
 have eS:(bX bN (l,0)).2=s10:=by
  rw [e];simp only [EH,bX,<-es0,<-es1,<-es2,<-es3,<-es4,<-es5,<-es6,<-es7,<-es8,<-es9,<-aFz]
 have eD:(bX bN (l,0)).1=[d0,d1,b0,b1,b2,b3,b4,b5,b6,b7,b8,b9,b10,b11,b12,b13,b14,b15,b16,b17,b18,b19,d3,d4,d5,d6,d7,(dec (.list bE) s7).1,(dec (.list aV) s8).1,(dec (.list aD) s9).1]:=by
  rw [e];simp only [EH,bX,<-es0,<-es1,<-es2,<-es3,<-es4,<-es5,<-es6,<-es7,<-es8,<-es9,<-ed0,<-ed1,<-ew,<-ed3,<-ed4,<-ed5,<-ed6,<-ed7];rfl
 unfold decode at hK;rw [eS,eD]at hK;have hC:∀i,False->Cx i:=fun i h=>h.elim;refine aAE (n:=n) (t2:=Sz.n) (S0:=Sz) (C:=fun _=>False) (z:=tL) hM g7 ?_ rfl ht2 (by omega) (by omega) (by omega) x0b (by omega) hC (by rw [zO];show Sz.n<=S3z.n;omega) es8 es9 aFz (fun hz S' cs xs ra=>?_) (fun hz S' xs=>?_)
 ·rfl
 ·rw [if_pos hz]at hK
  exact hK S' cs xs ra
 ·rw [if_neg hz]at hK
  exact hK S' tL xs (sF S' _ bN)
end
set_option maxRecDepth 100000
variable{most:Nat}
section
variable{n b0:Nat}{S1z:St}{cs:List Value}{ds:List D}{l:List UInt8}{K:VK}
theorem Ae (hM:140737488355329<most) (WU:b0<S1z.n) (o1:S1z.obj b0=some (.cells cs 34 .exact)) (h1:lL S1z (fun _=>False) bN cs ds) (hl':KD ds<9000) (hl:l.length<=40000){i7:Nat} (h7:i7<2){Sz:St}{m:Nat} (hx:aZ S1z Sz){t5:Value}
 (k:∀S',aZ S1z S'->eY (X most (n+10)) m (.string ⟨⟨l⟩⟩) (pt b0 0) t5 (.int .i64 (.ofNat (i7+1))) S' K=true):
 eY (X most (n+10)) (m+1) (.string ⟨⟨l⟩⟩) (pt b0 0) t5 (.int .i64 (.ofNat i7)) Sz K=true:=by
 rw [rJ];unfold lP;have l30:cs.length=30:=h1.len
 have again:∀(S':St),aZ S1z S'->∀K,aR 30 (pt b0 0) S' K=K (.agg ⟨cs⟩) S':=fun S' hx K=>by
  rw [fW (by rw [hx.same _ WU];exact o1) (by omega),List.drop_zero,List.take_of_length_le (by omega)]
 have hs:=h1.fr (hx.fr _);have hc:=small hs hl';have aHB:vO=274877906944:=rfl;rw [aG,show decide (i7<2)=true from decide_eq_true h7,bS,again Sz hx];refine aAF (by omega) (n:=n) hs hc fun S2z x2=>?_;have y2:=hx.trans x2;rw [fV,fH,fV,jL,fH,again S2z y2];refine Gs (n:=n+8) (C:=fun _=>False) (by omega) (fun _ h=>h.elim) (h1.fr (y2.fr _)) (KC hl') fun S3z c3 x3 r3=>?_;have y3:=y2.trans x3;refine SZ (n:=n+3) hM r3 hc fun S4 x4=>?_;have y4:=y3.trans x4;rw [fV,fH,fV,jL,fH];refine Zz (by omega) (n:=n) (by omega) fun S5 c5 x5 r5 ro=>?_;have y5:=y4.trans x5;rw [fV,fH,fV,jL,fH];have l5:c5.length=30:=r5.len;rw [SF,eB,kR aF (by rw [l5,xY]) (List.all_eq_true.2 r5.one) 30 l5.symm];generalize hS6:(S5.new (.cells tL 34 .exact)).set S5.n (.cells c5 34 .exact)=S6;have o6:S6.obj S5.n=some (.cells c5 34 .exact):=by rw [<-hS6];exact aX
 have n6:S6.n=S5.n+1:=by rw [<-hS6];rfl
 have x6:aZ S5 S6:=⟨by omega,fun k hk=>by rw [<-hS6,aJ (by omega),aL (by omega)]⟩;have y6:=y5.trans x6;refine Vx (n:=n+3) hM (by omega) fun S7 c7 x7 r7=>?_;have y7:=y6.trans x7;rw [fV,fH,fV,jL,fH];have l7:c7.length=30:=r7.len;rw [eB,kR aF (by rw [l7,xY]) (List.all_eq_true.2 r7.one) 30 l7.symm];generalize hS8:(S7.new (.cells tL 49 .exact)).set S7.n (.cells c7 49 .exact)=S8;have o8:S8.obj S7.n=some (.cells c7 49 .exact):=by rw [<-hS8];exact aX
 have n8:S8.n=S7.n+1:=by rw [<-hS8];rfl
 have x8:aZ S7 S8:=⟨by omega,fun k hk=>by rw [<-hS8,aJ (by omega),aL (by omega)]⟩;have y8:=y7.trans x8;have x68:=x7.trans x8;have x58:=x6.trans x68;have n56:=x6.n;have n67:=x7.n
 have ldc:∀(S':St),aZ S8 S'->∀K,aR 30 (pt S5.n 0) S' K=K (.agg ⟨c5⟩) S':=fun S' hx K=>by
  rw [fW (by rw [hx.same _ (by omega),x68.same _ (by omega)];exact o6) (by omega),List.drop_zero,List.take_of_length_le (by omega)]
 have ldd:∀(S':St),aZ S8 S'->∀K,aR 30 (pt S7.n 0) S' K=K (.agg ⟨c7⟩) S':=fun S' hx K=>by
  rw [fW (by rw [hx.same _ (by omega)];exact o8) (by omega),List.drop_zero,List.take_of_length_le (by omega)]
 have r5':=r5.fr (x58.fr (fun _=>False));have r7':=r7.fr (x8.fr (fun _=>False));rw [SG,decide_eq_true rfl];simp only [Bool.not_true,cL,cH,bJ];rw [dM,decide_eq_true rfl];simp only [Bool.not_true,bJ,cH];rw [dM,decide_eq_true rfl];simp only [Bool.not_true,bJ,cH,ldc S8 (.refl _),ldd S8 (.refl _)];refine Gs (n:=n+8) (C:=fun _=>False) (by omega) (fun _ h=>h.elim) r5' (Gv l) fun S9 c9 x9 r9=>?_;simp only [NN,ldd S9 x9];have r79:=r7'.fr (x9.fr (fun _=>False));rw [aQ r79.gF];refine ZQ (by omega) (n+5) r9 r79 fun S10 x10=>?_;rw [Km];simp only [aFk,cA];have aD8:=x9.trans x10;have aD9:=x58.trans aD8
 have e1:∀k,k<30->∃u d,c5[k]? =some u/\(decode l).1[k]? =some d:=fun k hk=>by
  have hd:(decode l).1.length=30:=r5.jK;exact⟨c5[k]'(by omega),(decode l).1[k]'(by omega),List.getElem?_eq_getElem _,List.getElem?_eq_getElem _⟩
 obtain⟨u1,d1,p1,q1⟩:=e1 1 (by omega);obtain⟨u2,d2,p2,q2⟩:=e1 24 (by omega);obtain⟨u3,d3,p3,q3⟩:=e1 28 (by omega);obtain⟨l1,k1,w1⟩:=GC.lo (it0:= .text) (its:=[]) (by simp) (ro 1 (.list bA) u1 d1 rfl p1 q1);obtain⟨l2,k2,w2⟩:=GC.lo (it0:= .num) (its:=[.num]) (by simp) (ro 24 (.list aY) u2 d2 rfl p2 q2);obtain⟨l3,k3,w3⟩:=GC.lm (ro 28 (.list aV) u3 d3 rfl p3 q3);have n45:=x5.n
 have hown:Own3 (fun i=>¬(Kd S5 i/\i<S5.n)) S10 S4.n S5.n S5.n c5 u1 u2 u3 l1 l2 l3:=
  ⟨by rw [aD8.same _ (by omega),x68.same _ (by omega)];exact o6,Nat.le_refl _,p1,p2,p3,w1.ext aD9 (Nat.le_refl _),w2.ext aD9 (Nat.le_refl _),w3.ext aD9 (Nat.le_refl _) (fun b hb=>(Classical.not_not.1 hb).2),k1,k2,k3⟩
 rw [bP];refine aD4 (by omega) l1 0 most S10 (by omega) (by omega) hown fun S11 s11=>?_;refine aD5 (by omega) l2 0 most S11 (by omega) (by omega) (hown.sp s11) fun S12 s12=>?_;have aFA:=s11.trans s12;refine aD7 (by omega) h7 l3 0 most S12 (by omega) (by omega) (hown.sp aFA) fun S13 s13=>k S13 ?_;have s:=aFA.trans s13;have y10:=y8.trans aD8;have y4n:=y4.n;exact⟨by rw [s.n];exact y10.n,fun i hi=>by rw [s.out i (.inl (by omega)),y10.same i hi]⟩
theorem Lk (hM:140737488355329<most){Sz:St} (h:lL Sz (fun _=>False) bN cs ds) (hl8:l.length<=140737488355328) (hK:∀S',K (.bool true) S'=true):(X most (n+11)).C fG [.agg ⟨cs⟩,.string ⟨⟨l⟩⟩] Sz K=true:=by
 rw [aT (by rfl),RB];unfold CU;have l30:cs.length=30:=h.len;rw [eI (List.all_eq_true.2 h.one),fW aF (by omega),List.drop_zero,List.take_of_length_le (by omega)];have x1:=aZ.new Sz (.cells cs 34 .exact);have WU:Sz.n<(Sz.new (.cells cs 34 .exact)).n:=Nat.lt_succ_self _;have o1:(Sz.new (.cells cs 34 .exact)).obj Sz.n=some (.cells cs 34 .exact):=aF;revert x1 WU o1;generalize (Sz.new (.cells cs 34 .exact))=S1z;intro x1 WU o1
 have again:∀(S':St),aZ S1z S'->∀K,aR 30 (pt Sz.n 0) S' K=K (.agg ⟨cs⟩) S':=fun S' hx K=>by
  rw [fW (by rw [hx.same _ WU];exact o1) (by omega),List.drop_zero,List.take_of_length_le (by omega)]
 have h1:=h.fr (x1.fr _);refine aCy (n:=n+7) (by omega) h1 fun S2z x2=>?_;by_cases hl:9000<=KD ds
 ·rw [decide_eq_true hl]
  simp only [cL,cS,bL,bS,ZI];exact hK _
 rw [decide_eq_false hl];simp only [cL,cH,bJ,zV];rw [nJ];by_cases hm:40000<l.length
 ·rw [decide_eq_true hm]
  simp only [bS,ZI];exact hK _
 rw [decide_eq_false hm];simp only [cA,again S2z x2];have hl':KD ds<9000:=by omega
 have hlen:l.length<=40000:=by omega
 refine Gs (n:=n+8) (C:=fun _=>False) (by omega) (fun _ h=>h.elim) (h1.fr (x2.fr _)) (KC hl') fun S3z c3 x3 r3=>?_;have y3:=x2.trans x3;have hc:=small h1 hl';refine SZ (n:=n+3) hM r3 hc fun S4 x4=>?_;have y4:=y3.trans x4;rw [fV,fH,fV,jL,fH,bP];obtain⟨m,rfl⟩:∃m,most=m+1+1+1:=⟨most-3,by omega⟩;refine Ae hM WU o1 h1 hl' hlen (i7:=0) (by omega) y4 fun S5 y5=>?_;refine Ae hM WU o1 h1 hl' hlen (i7:=1) (by omega) y5 fun S6 y6=>?_;rw [rJ];unfold lP;rw [aG,show decide (1+1<2)=false from rfl,cA,again S6 y6];refine Gs (n:=n+8) (C:=fun _=>False) (by omega) (fun _ h=>h.elim) (h1.fr (y6.fr _)) (KC hl') fun S7 c7 x7 r7=>?_;refine SZ (n:=n+3) hM r7 hc fun S8 x8=>?_;rw [fV,fH,fV,jL,fH,Dh,decide_eq_true rfl];simp only [cL,cF,ZI,bL];exact hK _
end
theorem Lay.none{P:Program}{w:World} (hsz:P.globals.size<=w.heap.size):Lay P w (Rn.globals P.globals.size) (St.none P.globals.size):=by
 refine⟨Rel.none hsz,fun i o h=>?_⟩;have:(St.none P.globals.size).obj i=Option.none:=rfl;rw [this]at h;cases h
theorem aFl (P:Program) (tb:FuncId->sD) (ov:FuncId->Option (List Value->St->VK->Bool)) (most n:Nat):(xAt P tb ov most n).C=(RY P tb ov most n).call:=rfl
theorem aFm:My PP 8 34=some bN:=by kernel_rfl
theorem aHf:My PP 8 9=some [.text]:=by kernel_rfl
theorem text_laid{H:Type}{enc:TypeId×Value->H}{W:World}{s:ByteArray}{d:DataW H}{p:List MemPlace} (h:DataW.Trod enc PP W 0 (fun _=>true) true 9 (.string s) d p) (hz:∀b off,MemPlace.cell b off∈p->W.frozen? ⟨b,off,none⟩=false)
 (hw:∀x∈d.weights PP 9,x<=reachBytes) (hsz:PP.globals.size<=W.heap.size):s.data.toList.length<=140737488355328:=by
 obtain⟨F,hF⟩:=h;obtain⟨U',S',vs,ds,_,_,_,hvs,hr⟩:=lay (P:=PP) (w:=W) (fun _=>true) (fun _=>rfl) F 8 9 [.string s] d p hF hz hw [.text] aHf _ _ (Lay.none hsz)
 match vs,hvs,hr with
 | [v],hvs,hr=>
  match ds,hr with
  | [x],hr=>
   have:=hr.rd 0 .text v x rfl rfl rfl;cases this with
   | @text l hl=>
    have h1:=hvs.2 0 _ _ rfl rfl;have:=h1.of_flat rfl;injection this with this;subst this;exact hl
theorem called_tells{H:Type}{enc:TypeId×Value->H}{W:World}{cs:Array Value}{s:ByteArray}{d:DataW H}{p:List MemPlace} (hl:Laid [] W) (h:DataW.Trod enc PP W 0 (fun _=>true) true 34 (.agg cs) d p) (hz:∀b off,MemPlace.cell b off∈p->W.frozen? ⟨b,off,none⟩=false)
 (hw:∀x∈d.weights PP 34,x<=reachBytes) (hs:s.data.toList.length<=140737488355328):Calls PP fG #[.agg cs,.string s] W (fun e w'=>e= .returned (.bool true)/\Below W.heap.size W w'):=by
 have hsz:PP.globals.size<=W.heap.size:=by rw [show PP.globals.size=0 from gsz];exact Nat.zero_le _
 obtain⟨F,hF⟩:=h;obtain⟨U',S',vs,ds,_,aDe,_,hvs,hr⟩:=lay (P:=PP) (w:=W) (fun _=>true) (fun _=>rfl) F 8 34 cs.toList d p hF hz hw bN aFm _ _ (Lay.none hsz);obtain⟨most,hM⟩:∃most:Nat,140737488355329<most:=⟨_,Nat.lt_succ_self _⟩;obtain⟨m,-⟩:∃m:Nat,m=0:=⟨0,rfl⟩;have hk:=Lk hM (n:=m) (l:=s.data.toList) hr (K:=fun v _=>isTrue v) hs (fun _=>rfl);rw [aAG,aFl]at hk
 obtain⟨_,hcall⟩:=(Nk (P:=PP) (w0:=W) (tb:=dD) (most:=most) (aCz hsz hl) aAH aAI (m+11)).1 fG [.agg ⟨vs⟩,.string ⟨⟨s.data.toList⟩⟩] S' (fun v _=>isTrue v) U' W [.agg cs,.string s] hk aDe.1
  (.cons (.agg (by simpa using hvs.1) (fun k v v' a b=>hvs.2 k v v' a b)) (.cons (.flat (v:= .string s) rfl) (.nil _)))
 refine Calls.mono (callsIn_wide.1 hcall) ?_
 rintro e w' ⟨v',rfl,U2,v,S2z,hk2,hv,hrel,_⟩
 cases v with
 | bool b=>
  have hb:b=true:=hk2;subst hb;rw [hv.of_flat rfl];exact⟨rfl,hrel.base⟩
 | _=>cases hk2
end Go.Am
