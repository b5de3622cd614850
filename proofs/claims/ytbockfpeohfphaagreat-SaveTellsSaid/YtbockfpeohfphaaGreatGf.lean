/- save: data that are compared. -/
import Derived.Test.YtbockfpeohfphaaGreatGe
import Derived.Test.YtbockfpeohfphaaGreatGd

namespace Go.Am
open Go.RowKit Go.MapKept Go.Proofs Go.Proofs.jB
variable{most:Nat}
def Kk:It->Nat
 | .num=>0
 | .kind=>0
 | .int=>0
 | .text=>1
 | .is=>2
 | _=>3
theorem Uz (a b:Bool) (K:Value->Bool):aK PP .eql 4 (.bool a) (.bool b) K=K (.bool (a==b)):=by
 cases a<;>cases b<;>kernel_rfl
theorem Va (a b:Bool) (K:Value->Bool):aK PP .neq 4 (.bool a) (.bool b) K=K (.bool (!(a==b))):=by
 cases a<;>cases b<;>kernel_rfl
theorem SH{P:Program} (t:TypeId) (k:IntKind) (a b:Int) (K:Value->Bool):aK P .neq t (.int k a) (.int k b) K=K (.bool (!(a==b))):=by
 rw [tG _ _ _ _ _ _ (by simp) (by simp)];simp only [sS,lE,rL]
theorem LF (a b:Int):(a==b)=decide (a=b):=by
 by_cases h:a=b
 ·subst h;simp
 ·rw [decide_eq_false h];simpa using h
theorem Kl (a b:Bool):(a==b)=decide (a=b):=by cases a<;>cases b<;>rfl
section
variable{Sz S':St}{C C':Nat->Prop}{u v:Value}{d e:D}
theorem Gd (h:Rd Sz C .num u d) (k:Rd S' C' .num v e) (t:TypeId) (K:Value->Bool):aK PP .eql t u v K=K (.bool (pI d e))/\aK PP .neq t u v K=K (.bool (!pI d e)):=by
 obtain⟨x,rfl,rfl,_⟩:=h.num_inv;obtain⟨y,rfl,rfl,_⟩:=k.num_inv;rw [PC,SH,LF];exact⟨rfl,rfl⟩
theorem aAa (h:Rd Sz C .kind u d) (k:Rd S' C' .kind v e) (t:TypeId) (K:Value->Bool):aK PP .eql t u v K=K (.bool (pI d e))/\aK PP .neq t u v K=K (.bool (!pI d e)):=by
 obtain⟨x,rfl,rfl,_⟩:=h.DX;obtain⟨y,rfl,rfl,_⟩:=k.DX;rw [PC,SH,LF];exact⟨rfl,rfl⟩
theorem PZ (h:Rd Sz C .int u d) (k:Rd S' C' .int v e) (t:TypeId) (K:Value->Bool):aK PP .eql t u v K=K (.bool (pI d e))/\aK PP .neq t u v K=K (.bool (!pI d e)):=by
 obtain⟨x,rfl,rfl,_⟩:=h.rA;obtain⟨y,rfl,rfl,_⟩:=k.rA;rw [PC,SH,LF];exact⟨rfl,rfl⟩
theorem ZJ (h:Rd Sz C .text u d) (k:Rd S' C' .text v e) (t:TypeId) (K:Value->Bool):aK PP .eql t u v K=K (.bool (pI d e))/\aK PP .neq t u v K=K (.bool (!pI d e)):=by
 obtain⟨x,rfl,rfl,_⟩:=h.uU;obtain⟨y,rfl,rfl,_⟩:=k.uU;rw [Dh,SG];exact⟨rfl,rfl⟩
theorem aAb (h:Rd Sz C .is u d) (k:Rd S' C' .is v e) (K:Value->Bool):aK PP .eql 4 u v K=K (.bool (pI d e))/\aK PP .neq 4 u v K=K (.bool (!pI d e)):=by
 obtain⟨x,rfl,rfl⟩:=h.NH;obtain⟨y,rfl,rfl⟩:=k.NH;rw [Uz,Va,Kl];exact⟨rfl,rfl⟩
end
noncomputable def aDK (f:Field):Nat:=match PP.underlying f.type with
 | some (.int _)=>0
 | some .string=>1
 | some .bool=>2
 | _=>3
theorem Bo (P:Program) (f:Field) (fs:List Field) (a b:Value) (va vb:List Value) (k:Bool->Bool):uL P (f::fs) (a::va) (b::vb) k=KW P f.type a b (fun e=>match e with | true=>uL P fs va vb k | false=>k false):=rfl
theorem Di:∀{its:List It} {fs:List Field} {va vb:List Value} {da db:List D} {Sz S':St} {C C':Nat->Prop} (k:Bool->Bool),fs.map aDK=its.map Kk->(∀it∈its,Kk it<3)->lL Sz C its va da->lL S' C' its vb db->uL PP fs va vb k=k (BG da db):=by
 intro its;induction its with
 | nil=>
  intro fs va vb da db Sz S' C C' k h _ ha hb;have e1:fs=[]:=by simpa using h
  have e2:va=[]:=List.eq_nil_of_length_eq_zero ha.len;have e4:da=[]:=List.eq_nil_of_length_eq_zero ha.jK;have e5:db=[]:=List.eq_nil_of_length_eq_zero hb.jK;subst e1 e2 e4 e5;rfl
 | cons it its ih=>
  intro fs va vb da db Sz S' C C' k h h3 ha hb;have l1:=congrArg List.length h;have l2:=ha.len;have l3:=hb.len;have l4:=ha.jK;have l5:=hb.jK;simp only [List.length_map,List.length_cons]at l1 l2 l3 l4 l5;cases fs with
  | nil=>simp at l1
  | cons f fs=>
  cases va with
  | nil=>simp at l2
  | cons a va=>
  cases vb with
  | nil=>simp at l3
  | cons b vb=>
  cases da with
  | nil=>simp at l4
  | cons d da=>
  cases db with
  | nil=>simp at l5
  | cons e db=>
   simp only [List.map_cons,List.cons.injEq]at h;obtain⟨h0,h⟩:=h;have ra:=ha.rd 0 it a d rfl rfl rfl;have rb:=hb.rd 0 it b e rfl rfl rfl;have ta:lL Sz C its va da:=⟨by simpa using ha.len,by simpa using ha.jK,fun j it v d p q r=>ha.rd (j+1) it v d p q r⟩;have tb:lL S' C' its vb db:=⟨by simpa using hb.len,by simpa using hb.jK,fun j it v d p q r=>hb.rd (j+1) it v d p q r⟩;have hi:=ih (fs:=fs) k h (fun it hit=>h3 it (.tail _ hit)) ta tb;have hf:=h3 it (.head _);have step:∀b0:Bool,(match b0 with | true=>uL PP fs va vb k | false=>k false)=k (b0&&BG da db):=fun b0=>by cases b0 with | true=>rw [hi];simp | false=>rfl
   rw [Bo];simp only [BG];unfold aDK at h0;unfold KW;cases it with
   | num=>
    obtain⟨x,rfl,rfl,_⟩:=ra.num_inv;obtain⟨y,rfl,rfl,_⟩:=rb.num_inv;split at h0<;>first | (rename_i hu;rw [hu];simp only [show oM .u64 .u64=true from rfl,nH,rL,LF];exact step _) | cases h0
   | kind=>
    obtain⟨x,rfl,rfl,_⟩:=ra.DX;obtain⟨y,rfl,rfl,_⟩:=rb.DX;split at h0<;>first | (rename_i hu;rw [hu];simp only [show oM .u8 .u8=true from rfl,nH,rL,LF];exact step _) | cases h0
   | int=>
    obtain⟨x,rfl,rfl,_⟩:=ra.rA;obtain⟨y,rfl,rfl,_⟩:=rb.rA;split at h0<;>first | (rename_i hu;rw [hu];simp only [show oM .i64 .i64=true from rfl,nH,rL,LF];exact step _) | cases h0
   | is=>
    obtain⟨x,rfl,rfl⟩:=ra.NH;obtain⟨y,rfl,rfl⟩:=rb.NH;split at h0<;>first | (rename_i hu;rw [hu];simp only [nH,Kl];exact step _) | cases h0
   | text=>
    obtain⟨x,rfl,rfl,_⟩:=ra.uU;obtain⟨y,rfl,rfl,_⟩:=rb.uU
    have e8:VD x y=decide (x=y):=by
     rw [FU];by_cases h:x=y
     ·subst h;simp
     ·rw [decide_eq_false h];simpa using h
    split at h0<;>first | (rename_i hu;rw [hu];simp only [nH,e8];exact step _) | cases h0
   | nums=>exact absurd hf (by decide)
   | list l=>exact absurd hf (by simp [Kk])
theorem Ge{its:List It}{t:TypeId} (h:(XH PP t).map (fun l=>l.map aDK)=some (its.map Kk)) (h3:∀it∈its,Kk it<3){Sz S':St}{C C':Nat->Prop}{va vb:List Value}{da db:List D} (ha:lL Sz C its va da) (hb:lL S' C' its vb db) (K:Value->Bool):
 aK PP .eql t (.agg ⟨va⟩) (.agg ⟨vb⟩) K=K (.bool (BG da db))/\aK PP .neq t (.agg ⟨va⟩) (.agg ⟨vb⟩) K=K (.bool (!BG da db)):=by
 cases hp:XH PP t with
 | none=>rw [hp]at h;cases h
 | some fs=>
  rw [hp]at h;simp only [Option.map_some,Option.some.injEq]at h;rw [FZ,FZ];refine⟨?_,?_⟩
  ·show DB PP t (.agg ⟨va⟩) (.agg ⟨vb⟩) (fun e=>nG e K)=_
   unfold DB;rw [hp];show uL PP fs va vb _=_;rw [Di _ h h3 ha hb,lE]
  ·show DB PP t (.agg ⟨va⟩) (.agg ⟨vb⟩) (fun e=>nG (!e) K)=_
   unfold DB;rw [hp];show uL PP fs va vb _=_;rw [Di _ h h3 ha hb,lE]
theorem qO.Rm{Sz:St}{C:Nat->Prop}{its:List It}{b o:Nat}{ds:List D} (h:qO Sz C its b o ds) (n:Nat) (hn:n=its.length):∃cs,lL Sz C its cs ds/\∀S',aZ Sz S'->∀K,aR n (pt b o) S' K=K (.agg ⟨cs⟩) S':=by
 obtain⟨vs,e,ck,h1,h2,h3,h4⟩:=h.row;subst hn;refine⟨(vs.drop o).take its.length,⟨by rw [List.length_take,List.length_drop];omega,h.len,fun j it v d a b c=>?_⟩,fun S' hx K=>fW (by rw [hx.same b h.lt];exact h1) h3 K⟩;have hj:=(List.getElem?_eq_some_iff.1 a).1;rw [List.getElem?_take,if_pos hj,List.getElem?_drop]at b;exact h4 j it v d a b c
theorem qO.val'{Sz:St}{C:Nat->Prop}{its:List It}{b o:Nat}{ds:List D} (h:qO Sz C its b o ds) (j:Nat){it:It} (hj:its[j]? =some it):∃v,Rd Sz C it v (ats ds j)/\∀S',aZ Sz S'->∀K,aN (pt b (o+j)) S' K=K v S':=by
 obtain⟨d,hd,hc⟩:=h.cell j hj;obtain⟨vs,e,ck,v,g1,g2,g3,g4⟩:=hc.row;have:ats ds j=d:=by unfold ats;rw [hd];rfl
 exact⟨v,by rw [this];exact g4,fun S' hx K=>cB (by rw [hx.same b h.lt];exact g1) g3 K⟩
def aAc (most:Nat) (f:FuncId) (its:List It) (dp:Nat):Prop:=∀(n:Nat) {Sz:St} {C C':Nat->Prop} {va vb:List Value} {da db:List D} {K:VK},lL Sz C its va da->lL Sz C' its vb db->(∀S',aZ Sz S'->K (.bool (BG da db)) S'=true)->(X most (n+dp)).C f [.agg ⟨va⟩,.agg ⟨vb⟩] Sz K=true
def Gf (most:Nat) (f:FuncId) (its:List It) (dp:Nat):Prop:=∀(n:Nat) {Sz:St} {C C':Nat->Prop} {a b:Value} {es fs:List (List D)} {K:VK},Rd Sz C (.list its) a (.l es)->Rd Sz C' (.list its) b (.l fs)->(∀S',aZ Sz S'->K (.bool (kN es fs)) S'=true)->(X most (n+dp)).C f [a,b] Sz K=true
theorem vA{es fs:List (List D)} (h:es.length≠fs.length):kN es fs=false:=by
 cases hq:kN es fs with
 | false=>rfl
 | true=>exact absurd (congrArg List.length ((gK es fs).1 hq)) h
theorem dF{es fs:List (List D)}{i:Nat} (h1:i<es.length) (h2:i<fs.length):kN (es.drop i) (fs.drop i)=(BG es[i] fs[i]&&kN (es.drop (i+1)) (fs.drop (i+1))):=by
 rw [List.drop_eq_getElem_cons h1,List.drop_eq_getElem_cons h2];simp only [kN]
theorem pM{es fs:List (List D)}{i:Nat} (h1:es.length<=i) (h2:fs.length<=i):kN (es.drop i) (fs.drop i)=true:=by
 rw [List.drop_of_length_le h1,List.drop_of_length_le h2];rfl
theorem aDL{ds:List D}{j:Nat}{d:D} (h:ds[j]? =some d):ats ds j=d:=by unfold ats;rw [h];rfl
theorem QA{ds es:List D} (h1:ds.length=1) (h2:es.length=1):BG ds es=pI (ats ds 0) (ats es 0):=by
 match ds,es,h1,h2 with
 | [d],[e],_,_=>simp [BG,ats]
variable{most:Nat}
def Acc (Sz:St) (C:Nat->Prop) (n0:Nat) (its:List It) (e:TypeId) (v:Value) (es:List (List D)):Prop:=
 (v= .slice none 0 0/\es=[])\/∃j vs olds,n0<=j/\j<Sz.n/\v= .slice (some ⟨j,0,some 0⟩) es.length es.length/\Sz.obj j=some (.cells vs e (.grown olds))/\vs.length=es.length*its.length/\(∀ds∈es,ds.length=its.length)/\
  ∀(k:Nat) (ds:List D) (q:Nat) (it:It) (u:Value) (d:D),es[k]? =some ds->its[q]? =some it->vs[k*its.length+q]? =some u->ds[q]? =some d->Rd Sz (fun i=>i=j\/C i) it u d
theorem Rd.less{Sz:St}{C C':Nat->Prop} (hC:∀i,C' i->C i){it:It}{v:Value}{d:D} (h:Rd Sz C it v d):Rd Sz C' it v d:=
 h.fr ⟨Nat.le_refl _,fun _ _ _=>rfl,fun i hi=> .inl (hC i hi)⟩
theorem Acc.rd{Sz:St}{C:Nat->Prop}{n0:Nat}{its:List It}{e:TypeId}{v:Value}{es:List (List D)} (h:Acc Sz C n0 its e v es) (hC:∀i,C i->i<n0) (hle:es.length<=140737488355328):Rd Sz C (.list its) v (.l es):=by
 rcases h with ⟨rfl,rfl⟩ | ⟨j,vs,olds,h1,h2,rfl,h3,h4,h5,h6⟩
 ·exact .empty
 ·refine .row rfl h2 (fun hc=>by have:=hC j hc;omega) h3 (.inr (.inr ⟨olds,rfl⟩)) rfl (by omega) h5 hle (Nat.le_refl _) fun k ds q it u d a b c g=>?_
  rw [Nat.zero_add]at c;exact(h6 k ds q it u d a b c g).less fun i hi=> .inr hi
theorem Acc.app{Sz S1z:St}{C:Nat->Prop}{n0:Nat}{its:List It}{e bytes:Nat}{v x:Value}{es:List (List D)}{ds:List D}{new:List Value} (h:Acc Sz C n0 its e v es) (hx1:aZ Sz S1z) (hn0:n0<=Sz.n) (hx:Src S1z its.length x 1 new)
 (hnew:∀C':Nat->Prop,(∀i,C' i->C i\/(n0<=i/\i<Sz.n))->lL S1z C' its new ds) (hs:cN PP e=some its.length) (hb:(es.length+1)*(bytes+1)<=1099511627776) {K:VK}
 (hK:∀S' v',(∀i,i<n0->S'.obj i=S1z.obj i)->S1z.n<=S'.n->Acc S' C n0 its e v' (es++[ds])->K v' S'=true):kJ PP e its.length bytes v x S1z K=true:=by
 have hn:=hx1.n;rcases h with ⟨rfl,rfl⟩ | ⟨j,vs,olds,h1,h2,rfl,h3,h4,h5,h6⟩
 ·rw [IW hx (by omega) (by simpa using hb)]
  have hr:=hnew C fun i hi=> .inl hi;refine hK _ _ (fun i hi=>aL (by omega)) (Nat.le_succ _) (.inr ⟨S1z.n,new,[],by omega,Nat.lt_succ_self _,rfl,aF,by simp [hr.len],fun x hx=>?_,fun k d q it u d' a b c g=>?_⟩)
  ·simp at hx;subst hx;exact hr.jK
  ·have hk:k=0:=by
    have:=(List.getElem?_eq_some_iff.1 a).1;simp at this;exact this
   subst hk;simp at a c;subst a
   exact(hr.rd q it u d' b c g).fr ⟨Nat.le_succ _,fun i hi _=>aL (by omega),fun i hi=>by
    rcases hi with hi | hi
    ·exact .inr (by omega)
    ·exact .inl hi⟩
 ·have hj1:S1z.obj j=some (.cells vs e (.grown olds)):=by rw [hx1.same j h2];exact h3
  rw [IX hx (by omega) hb hj1 h4 hs]
  have hr:=hnew (fun i=>i=j\/C i) fun i hi=>by
   rcases hi with hi | hi
   ·subst hi;exact .inr ⟨h1,h2⟩
   ·exact .inl hi
  have f:cM (fun i=>i=j\/C i) S1z ((S1z.set j (.cells vs e .stale)).new (.cells (vs++new) e (.grown (j::olds)))) (fun i=>i=S1z.n\/C i):=by
   refine⟨by rw [kM,gG];omega,fun i hi hb=>?_,fun i hi=>?_⟩
   ·rw [aL (by rw [gG];omega),aJ fun e=>hb (.inl e)]
   ·rcases hi with hi | hi
    ·exact .inr (by omega)
    ·exact .inl (.inr hi)
  refine hK _ _ (fun i hi=>?_) (by rw [kM,gG];omega) (.inr ⟨S1z.n,vs++new,j::olds,by omega,by rw [kM,gG];omega,by simp,?_,?_,fun x hx=>?_,fun k d q it u d' a b c g=>?_⟩)
  ·rw [aL (by rw [gG];omega),aJ (by omega)]
  ·have:S1z.n=(S1z.set j (.cells vs e .stale)).n:=rfl
   rw [this,aF]
  ·simp [h4,hr.len,Nat.add_mul]
  ·rcases List.mem_append.1 hx with hx | hx
   ·exact h5 x hx
   ·simp at hx;subst hx;exact hr.jK
  ·have hq:=(List.getElem?_eq_some_iff.1 b).1
   rcases Nat.lt_or_ge k es.length with hk | hk
   ·rw [List.getElem?_append_left hk]at a
    have hlt:k*its.length+its.length<=es.length*its.length:=by
     have:(k+1)*its.length<=es.length*its.length:=Nat.mul_le_mul_right _ hk
     rwa [Nat.add_mul,Nat.one_mul]at this
    rw [List.getElem?_append_left (by omega)]at c;exact((h6 k d q it u d' a b c g).fr (hx1.fr _)).fr f
   ·have hk':k=es.length:=by
     have:=(List.getElem?_eq_some_iff.1 a).1;simp at this;omega
    subst hk';simp at a;subst a;rw [List.getElem?_append_right (by omega),h4,Nat.add_sub_cancel_left]at c;exact(hr.rd q it u d' b c g).fr f
theorem AJ (el:TypeId){k:Nat}{zero cs:List Value} (hz:zero.length=k) (hc:cs.length=k) (h1:cs.all oneCell=true) (Sz:St) (K:VK):aM el 1 zero [(0,k,.agg ⟨cs⟩)] Sz K=K (.slice (some ⟨Sz.n,0,none⟩) 1 1) (Sz.new (.cells cs el .exact)):=by
 show XF zero 1 (fun c0=>(match allB oneCell cs with | true=>(mJ cs fun m=>match Nat.beq m k with | true=>iA 0 cs c0 (fun cs=>qZ Sz (.cells cs el .exact) fun i Sz=>K (.slice (some ⟨i,0,none⟩) 1 1) Sz) | false=>false) | false=>false))=_;rw [CA,jW,h1,cV];simp only [hc,show Nat.beq k k=true from Nat.beq_refl _];rw [gS,if_pos (by simp;omega),gE]
 congr 3
 simp [splice];omega
theorem Of{Sz:St}{C:Nat->Prop}{v:Value}{d:D} (h:Rd Sz C .text v d):gF v v=true:=by
 obtain⟨l,rfl,_,_⟩:=h.uU;show VD l l=true;rw [FU];simp
variable{Sz S':St}{ds:List D}
theorem lL.at{C:Nat->Prop}{its:List It}{cs:List Value} (h:lL Sz C its cs ds){j:Nat}{it:It} (hj:its[j]? =some it):∃u,cs[j]? =some u/\Rd Sz C it u (ats ds j):=by
 have hlt:=(List.getElem?_eq_some_iff.1 hj).1;have hc:cs[j]? =some (cs[j]'(by rw [h.len];exact hlt)):=List.getElem?_eq_getElem _;have hd:ds[j]? =some (ds[j]'(by rw [h.jK];exact hlt)):=List.getElem?_eq_getElem _;refine⟨_,hc,?_⟩;have:ats ds j=ds[j]'(by rw [h.jK];exact hlt):=by unfold ats;rw [hd];rfl
 rw [this];exact h.rd j it _ _ hj hc hd
theorem KB{f:Nat->List D->Nat} (hf:∀n ds,n<=f n ds):∀(es:List (List D)) (n:Nat),n<=bU f es n:=by
 intro es;induction es with
 | nil=>intro n;exact Nat.le_refl _
 | cons ds es ih=>
  intro n;by_cases h:n<9000
  ·rw [EO h];exact Nat.le_trans (hf n ds) (ih _)
  ·rw [EP h];exact Nat.le_refl _
theorem aAf{f:Nat->List D->Nat} (g:List D->Nat) (hf:∀n ds,n+1+g ds<=f n ds):∀(es:List (List D)) (n:Nat),bU f es n<9000->n+es.length<=bU f es n/\∀ds∈es,g ds<=9000:=by
 intro es;induction es with
 | nil=>intro n _;exact⟨Nat.le_refl _,fun _ h=>by cases h⟩
 | cons ds es ih=>
  intro n hl;by_cases h:n<9000
  ·rw [EO h]at hl ⊢
   obtain⟨h1,h2⟩:=ih _ hl;have:=hf n ds;refine⟨by rw [List.length_cons];omega,fun x hx=>?_⟩;rcases List.mem_cons.1 hx with e | hx
   ·subst e;omega
   ·exact h2 x hx
  ·rw [EP h]at hl;exact absurd hl h
variable{most:Nat}
abbrev Row1 (b:Nat):Nat->Prop:=fun i=>i=b
theorem Rd.OT{Sz:St}{C:Nat->Prop}{it:It}{v:Value}{d:D} (h:Rd Sz C it v d):Am.OT v v=true:=by
 cases h with
 | @num z _=>exact pQ .u64 (.ofNat z)
 | @kind z _=>exact pQ .u8 (.ofNat z)
 | @int z _ _=>exact pQ .i64 z
 | @is b=>cases b<;>rfl
 | text h=>exact Of (.text (Sz:=Sz) (C:=C) h)
 | nums h=>
  have:=cW h;cases h<;>exact this
 | empty=>rfl
 | wK=>exact cW (.wK (Sz:=Sz) (C:=C) (its:=[]))
 | row a b c d e f g h i j l=>
  exact cW (.row a b c d e f g h i j l)
theorem lL.gF{Sz:St}{C:Nat->Prop}:∀{its:List It} {cs:List Value} {ds:List D},lL Sz C its cs ds->Am.gF (.agg ⟨cs⟩) (.agg ⟨cs⟩)=true:=by
 intro its cs ds h;show Cn cs cs=true
 have h0:∀v∈cs,Am.OT v v=true:=by
  intro v hv;obtain⟨j,hj⟩:=List.getElem?_of_mem hv;have hlt:=(List.getElem?_eq_some_iff.1 hj).1;exact(h.rd j _ v _ (List.getElem?_eq_getElem (by rw [<-h.len];exact hlt)) hj (List.getElem?_eq_getElem (by rw [h.jK,<-h.len];exact hlt))).OT
 clear h;induction cs with
 | nil=>rfl
 | cons v cs ih=>
  show(Am.OT v v&&Cn cs cs)=true;rw [h0 v (.head _),ih fun x hx=>h0 x (.tail _ hx)];rfl
theorem qO.ldf{Sz:St}{C:Nat->Prop}{its:List It}{b o:Nat}{ds:List D} (h:qO Sz C its b o ds) (n:Nat) (hn:n=its.length):∃cs,lL Sz C its cs ds/\∀S',cM C Sz S' C->∀K,aR n (pt b o) S' K=K (.agg ⟨cs⟩) S':=by
 obtain⟨vs,e,ck,h1,h2,h3,h4⟩:=h.row;subst hn;refine⟨(vs.drop o).take its.length,⟨by rw [List.length_take,List.length_drop];omega,h.len,fun j it v d a b c=>?_⟩,fun S' f K=>fW (by rw [f.same b h.lt h.nC];exact h1) h3 K⟩;have hj:=(List.getElem?_eq_some_iff.1 a).1;rw [List.getElem?_take,if_pos hj,List.getElem?_drop]at b;exact h4 j it v d a b c
theorem qO.fK{Sz:St}{C:Nat->Prop}{its:List It}{b o:Nat}{ds:List D} (h:qO Sz C its b o ds) (j:Nat){it:It} (hj:its[j]? =some it):∃v,Rd Sz C it v (ats ds j)/\∀S',cM C Sz S' C->∀K,aN (pt b (o+j)) S' K=K v S':=by
 obtain⟨d,hd,hc⟩:=h.cell j hj;obtain⟨vs,e,ck,v,g1,g2,g3,g4⟩:=hc.row;have:ats ds j=d:=by unfold ats;rw [hd];rfl
 exact⟨v,by rw [this];exact g4,fun S' f K=>cB (by rw [f.same b h.lt h.nC];exact g1) g3 K⟩
theorem Acc.fr{Sz S1z:St}{C:Nat->Prop}{n0:Nat}{its:List It}{e:TypeId}{v:Value}{es:List (List D)} (h:Acc Sz C n0 its e v es) (f:cM C Sz S1z C) (hC:∀i,C i->i<n0):Acc S1z C n0 its e v es:=by
 rcases h with ⟨rfl,rfl⟩ | ⟨j,vs,olds,h1,h2,rfl,h3,h4,h5,h6⟩
 ·exact .inl ⟨rfl,rfl⟩
 ·refine .inr ⟨j,vs,olds,h1,Nat.lt_of_lt_of_le h2 f.n,rfl,by rw [f.same j h2 (fun hc=>by have:=hC j hc;omega)];exact h3,h4,h5,fun k ds q it u d a b c g=>(h6 k ds q it u d a b c g).fr ⟨f.n,fun i hi hn=>f.same i hi fun hc=>hn (.inr hc),fun i hi=>?_⟩⟩
  rcases hi with hi | hi
  ·exact .inl (.inl hi)
  ·exact .inl (.inr hi)
theorem Src.single{Sz:St}{i size:Nat}{cs:List Value}{e:TypeId}{ck:CK} (h:Sz.obj i=some (.cells cs e ck)) (hn:cs.length=size) (h1:∀v∈cs,oneCell v=true):Src Sz size (.slice (some ⟨i,0,none⟩) 1 1) 1 cs:=by
 have:=Src.row (n:=1) (o:=0) (c:=1) (size:=size) h (by omega) (fun v hv=>h1 v (by rw [List.drop_zero]at hv;exact List.mem_of_mem_take hv))
 rwa [List.drop_zero,List.take_of_length_le (by omega)]at this
theorem Acc.more{S0 Sz S1z:St}{C:Nat->Prop}{n0:Nat}{its:List It}{e bytes sz:Nat}{v:Value}{es:List (List D)}{ds:List D}{cs:List Value} (hsz:its.length=sz) (h:Acc Sz C n0 its e v es) (f:cM C S0 Sz C) (hn0:n0=S0.n) (hx:aZ Sz S1z)
 (hr:lL S0 C its cs ds) (hs:cN PP e=some sz) (hb:(es.length+1)*(bytes+1)<=1099511627776) {K:VK}
 (hK:∀S' v',S1z.n<=S'.n->(∀i,i<n0->S'.obj i=S1z.obj i)->Acc S' C n0 its e v' (es++[ds])->K v' S'=true):
 kJ PP e sz bytes v (.slice (some ⟨S1z.n,0,none⟩) 1 1) (S1z.new (.cells cs e .exact)) K=true:=by
 subst hsz;have hx':aZ Sz (S1z.new (.cells cs e .exact)):=hx.trans (.new S1z _);have q:=f.n;have q1:=hx.n;refine Acc.app (its:=its) h hx' (by omega) (Src.single aF hr.len hr.one) (fun C' hC'=>hr.fr ⟨by rw [kM];omega,fun i hi hb=>?_,fun i hi=>?_⟩) hs hb fun S' v' h1 h2 h3=>?_
 ·rw [aL (by omega),hx.same i (by omega)];exact f.same i hi hb
 ·rcases hC' i hi with h | h
  ·exact .inl h
  ·exact .inr (by omega)
 ·exact hK S' v' (by rw [kM]at h2;omega) (fun i hi=>by rw [h1 i hi,aL (by omega)]) h3
end Go.Am
set_option linter.unusedVariables false
set_option maxRecDepth 100000
namespace Go.Am
noncomputable def pA (x:EV) (m:Nat) (t1 t2 t3 t4:Value) (Sz:St) (K:VK):Bool:=gJ PP dD pC (x.E PP) [.r,.r,.l,.r,.d] m [] [t1,t2,t3,t4] Sz K
noncomputable def QM (x:EV) (a0:Value) (Sz:St) (K:VK):Bool:=
 iP 34 a0 Sz fun v0 Sz=>
 cC [zI,zL,zI,zS,zF,zI,zI,zI,zI,zI,zI,zI,zS,zS,zI,zI,zF,zF,zS,zL,zL,zL,zL,zL,zL,zF,zL,zL,zL,zL] 49 Sz fun v1 Sz=>
 aC 0 v0 fun v2=>
 aN v2 Sz fun v3 Sz=>
 aC 1 v0 fun v4=>
 aN v4 Sz fun v5 Sz=>
 aC 2 v0 fun v6=>
 aR 20 v6 Sz fun v7 Sz=>
 aC 22 v0 fun v8=>
 aN v8 Sz fun v9 Sz=>
 aC 23 v0 fun v10=>
 aN v10 Sz fun v11 Sz=>
 aC 24 v0 fun v12=>
 aN v12 Sz fun v13 Sz=>
 aC 25 v0 fun v14=>
 aN v14 Sz fun v15 Sz=>
 aC 26 v0 fun v16=>
 aN v16 Sz fun v17 Sz=>
 aC 28 v0 fun v18=>
 aN v18 Sz fun v19 Sz=>
 aC 29 v0 fun v20=>
 aN v20 Sz fun v21 Sz=>
 aN v20 Sz fun v22 Sz=>
 aU v22 v21 (aN v18 Sz fun v23 Sz=>
 aU v23 v19 (aN v16 Sz fun v24 Sz=>
 aU v24 v17 (aN v14 Sz fun v25 Sz=>
 aU v25 v15 (aN v12 Sz fun v26 Sz=>
 aU v26 v13 (aN v10 Sz fun v27 Sz=>
 aU v27 v11 (aN v8 Sz fun v28 Sz=>
 aU v28 v9 (aR 20 v6 Sz fun v29 Sz=>
 aU v29 v7 (aN v4 Sz fun v30 Sz=>
 aU v30 v5 (aN v2 Sz fun v31 Sz=>
 aU v31 v3 (cR (cC [zI,zL,zI,zS,zF,zI,zI,zI,zI,zI,zI,zI,zS,zS,zI,zI,zF,zF,zS,zL,zL,zL,zL,zL,zL,zF,zL,zL,zL,zL] 49 Sz fun v32 Sz=>
 true) (x.C lR [v7] Sz fun v33 Sz=>
 aN v20 Sz fun v34 Sz=>
 aU v34 v21 (aN v18 Sz fun v35 Sz=>
 aU v35 v19 (aN v16 Sz fun v36 Sz=>
 aU v36 v17 (aN v14 Sz fun v37 Sz=>
 aU v37 v15 (aN v12 Sz fun v38 Sz=>
 aU v38 v13 (aN v10 Sz fun v39 Sz=>
 aU v39 v11 (aN v8 Sz fun v40 Sz=>
 aU v40 v9 (aN v4 Sz fun v41 Sz=>
 aU v41 v5 (aN v2 Sz fun v42 Sz=>
 aU v42 v3 (aN v20 Sz fun v43 Sz=>
 aU v43 v21 (aN v18 Sz fun v44 Sz=>
 aU v44 v19 (aN v16 Sz fun v45 Sz=>
 aU v45 v17 (aN v14 Sz fun v46 Sz=>
 aU v46 v15 (aN v12 Sz fun v47 Sz=>
 aU v47 v13 (aN v10 Sz fun v48 Sz=>
 aU v48 v11 (aN v8 Sz fun v49 Sz=>
 aU v49 v9 (aN v4 Sz fun v50 Sz=>
 aU v50 v5 (aN v2 Sz fun v51 Sz=>
 aU v51 v3 (cR (cC [zI,zL,zI,zS,zF,zI,zI,zI,zI,zI,zI,zI,zS,zS,zI,zI,zF,zF,zS,zL,zL,zL,zL,zL,zL,zF,zL,zL,zL,zL] 49 Sz fun v52 Sz=>
 true) (x.C jD [v17] Sz fun v53 Sz=>
 aN v20 Sz fun v54 Sz=>
 aU v54 v21 (aN v18 Sz fun v55 Sz=>
 aU v55 v19 (aN v14 Sz fun v56 Sz=>
 aU v56 v15 (aN v12 Sz fun v57 Sz=>
 aU v57 v13 (aN v10 Sz fun v58 Sz=>
 aU v58 v11 (aN v8 Sz fun v59 Sz=>
 aU v59 v9 (aN v4 Sz fun v60 Sz=>
 aU v60 v5 (aN v2 Sz fun v61 Sz=>
 aU v61 v3 (aN v20 Sz fun v62 Sz=>
 aU v62 v21 (aN v18 Sz fun v63 Sz=>
 aU v63 v19 (aN v14 Sz fun v64 Sz=>
 aU v64 v15 (aN v12 Sz fun v65 Sz=>
 aU v65 v13 (aN v10 Sz fun v66 Sz=>
 aU v66 v11 (aN v8 Sz fun v67 Sz=>
 aU v67 v9 (aN v4 Sz fun v68 Sz=>
 aU v68 v5 (aN v2 Sz fun v69 Sz=>
 aU v69 v3 (cR (cC [zI,zL,zI,zS,zF,zI,zI,zI,zI,zI,zI,zI,zS,zS,zI,zI,zF,zF,zS,zL,zL,zL,zL,zL,zL,zF,zL,zL,zL,zL] 49 Sz fun v70 Sz=>
 true) (x.C jD [v21] Sz fun v71 Sz=>
 aN v18 Sz fun v72 Sz=>
 aU v72 v19 (aN v14 Sz fun v73 Sz=>
 aU v73 v15 (aN v12 Sz fun v74 Sz=>
 aU v74 v13 (aN v10 Sz fun v75 Sz=>
 aU v75 v11 (aN v8 Sz fun v76 Sz=>
 aU v76 v9 (aN v4 Sz fun v77 Sz=>
 aU v77 v5 (aN v2 Sz fun v78 Sz=>
 aU v78 v3 (dK [zI,zL,zI,zS,zF,zI,zI,zI,zI,zI,zI,zI,zS,zS,zI,zI,zF,zF,zS,zL,zL,zL,zL,zL,zL,zF,zL,zL,zL,zL] [(0,1,v3),(1,1,v5),(2,20,v33),(22,1,v9),(23,1,v11),(24,1,v13),(25,1,v15),(26,1,v53),(28,1,v19),(29,1,v71)] fun v79=>
 aN v18 Sz fun v80 Sz=>
 aU v80 v19 (aN v14 Sz fun v81 Sz=>
 aU v81 v15 (aN v12 Sz fun v82 Sz=>
 aU v82 v13 (aN v10 Sz fun v83 Sz=>
 aU v83 v11 (aN v8 Sz fun v84 Sz=>
 aU v84 v9 (aN v4 Sz fun v85 Sz=>
 aU v85 v5 (aN v2 Sz fun v86 Sz=>
 aU v86 v3 (cR (cC [zI,zL,zI,zS,zF,zI,zI,zI,zI,zI,zI,zI,zS,zS,zI,zI,zF,zF,zS,zL,zL,zL,zL,zL,zL,zF,zL,zL,zL,zL] 49 Sz fun v87 Sz=>
 true) (cC [zI,zL,zI,zS,zF,zI,zI,zI,zI,zI,zI,zI,zS,zS,zI,zI,zF,zF,zS,zL,zL,zL,zL,zL,zL,zF,zL,zL,zL,zL] 49 Sz fun v88 Sz=>
 cQ 30 v88 v79 Sz fun Sz=>
 pA x x.most v0 v1 v88 zI Sz K) false))))))))))))))) false))))))))))))))))) false))))))))))))))))))) false))))))))))
theorem Gt (x:EV) (a0:Value) (Sz:St) (K:VK):hZ PP dD pC (x.E PP) [a0] Sz K=QM x a0 Sz K:=by kernel_rfl
noncomputable def rW (x:EV) (m0:Nat) (t1 t2 t3 t4:Value) (Sz:St) (K:VK):Bool:=
 aC 27 t1 fun v0=>
 aN v0 Sz fun v1 Sz=>
 bO v1 fun v2=>
 aK PP .lss 3 t4 v2 fun v3=>
 gD v3 (aC 27 t3 fun v4=>
 aN v4 Sz fun v5 Sz=>
 aC 27 t1 fun v6=>
 aN v6 Sz fun v7 Sz=>
 dC 3 v7 t4 fun v8=>
 aR 3 v8 Sz fun v9 Sz=>
 aR 3 v8 Sz fun v10 Sz=>
 aU v10 v9 (aN v6 Sz fun v11 Sz=>
 aU v11 v7 (aN v4 Sz fun v12 Sz=>
 aU v12 v5 (cR (aM 85 1 [zI,zI,zL] [(0,3,v9)] Sz fun v13 Sz=>
 true) (aM 85 1 [zI,zI,zL] [(0,3,v9)] Sz fun v14 Sz=>
 kJ PP 85 3 40 v5 v14 Sz fun v15 Sz=>
 aN v6 Sz fun v16 Sz=>
 aU v16 v7 (aC 27 t3 fun v17=>
 cQ 1 v17 v15 Sz fun Sz=>
 aK PP .add 3 t4 (.int .i64 (.ofNat 1)) fun v18=>
 pA x m0 t1 t2 t3 v18 Sz K)) false)))) (aR 30 t3 Sz fun v19 Sz=>
 cQ 30 t2 v19 Sz fun Sz=>
 aR 30 t2 Sz fun v20 _=>
 K v20 Sz)
theorem zJ (x:EV) (m0:Nat) (t1 t2 t3 t4:Value) (Sz:St) (K:VK):pA x (m0+1) t1 t2 t3 t4 Sz K=rW x m0 t1 t2 t3 t4 Sz K:=by kernel_rfl
noncomputable def kA (x:EV) (m:Nat) (t1 t2 t3 t4 t5:Value) (Sz:St) (K:VK):Bool:=gJ PP dD lR (x.E PP) [.r,.r,.r,.r,.l,.r,.d] m [] [t1,t2,t3,t4,t5] Sz K
noncomputable def gL (x:EV) (m:Nat) (t1 t2 t4 t6:Value) (Sz:St) (K:VK):Bool:=gJ PP dD lR (x.E PP) [.r,.r,.r,.r,.r,.l,.r,.d] m [] [t1,t2,t4,t6] Sz K
noncomputable def HE (x:EV) (a0:Value) (Sz:St) (K:VK):Bool:=
 iP 29 a0 Sz fun v0 Sz=>
 cC [zI,zS,zF,zI,zI,zI,zI,zI,zI,zI,zS,zS,zI,zI,zF,zF,zS,zL,zL,zL] 45 Sz fun v1 Sz=>
 aC 3 v0 fun v2=>
 aR 15 v2 Sz fun v3 Sz=>
 cC [zI,zI,zI,zI,zI,zI,zI,zS,zS,zI,zI,zF,zF,zS,zL] 25 Sz fun v4 Sz=>
 cQ 15 v4 v3 Sz fun Sz=>
 aC 0 v0 fun v5=>
 aN v5 Sz fun v6 Sz=>
 aC 1 v0 fun v7=>
 aN v7 Sz fun v8 Sz=>
 aC 2 v0 fun v9=>
 aN v9 Sz fun v10 Sz=>
 aC 19 v0 fun v11=>
 aN v11 Sz fun v12 Sz=>
 dK [zI,zS,zF,zI,zI,zI,zI,zI,zI,zI,zS,zS,zI,zI,zF,zF,zS,zL,zL,zL] [(0,1,v6),(1,1,v8),(2,1,v10),(19,1,v12)] fun v13=>
 cC [zI,zS,zF,zI,zI,zI,zI,zI,zI,zI,zS,zS,zI,zI,zF,zF,zS,zL,zL,zL] 45 Sz fun v14 Sz=>
 cQ 20 v14 v13 Sz fun Sz=>
 aC 0 v4 fun v15=>
 aN v15 Sz fun v16 Sz=>
 aC 1 v4 fun v17=>
 aN v17 Sz fun v18 Sz=>
 aC 2 v4 fun v19=>
 aN v19 Sz fun v20 Sz=>
 aC 3 v4 fun v21=>
 aN v21 Sz fun v22 Sz=>
 aC 4 v4 fun v23=>
 aN v23 Sz fun v24 Sz=>
 aC 5 v4 fun v25=>
 aN v25 Sz fun v26 Sz=>
 aC 6 v4 fun v27=>
 aN v27 Sz fun v28 Sz=>
 aC 7 v4 fun v29=>
 aN v29 Sz fun v30 Sz=>
 aC 8 v4 fun v31=>
 aN v31 Sz fun v32 Sz=>
 aC 9 v4 fun v33=>
 aN v33 Sz fun v34 Sz=>
 aC 10 v4 fun v35=>
 aN v35 Sz fun v36 Sz=>
 aC 11 v4 fun v37=>
 aN v37 Sz fun v38 Sz=>
 aC 12 v4 fun v39=>
 aN v39 Sz fun v40 Sz=>
 aC 13 v4 fun v41=>
 aN v41 Sz fun v42 Sz=>
 dK [zI,zI,zI,zI,zI,zI,zI,zS,zS,zI,zI,zF,zF,zS,zL] [(0,1,v16),(1,1,v18),(2,1,v20),(3,1,v22),(4,1,v24),(5,1,v26),(6,1,v28),(7,1,v30),(8,1,v32),(9,1,v34),(10,1,v36),(11,1,v38),(12,1,v40),(13,1,v42)] fun v43=>
 aC 3 v14 fun v44=>
 cQ 15 v44 v43 Sz fun Sz=>
 kA x x.most v0 v1 v4 v14 zI Sz K
theorem VT (x:EV) (a0:Value) (Sz:St) (K:VK):hZ PP dD lR (x.E PP) [a0] Sz K=HE x a0 Sz K:=by kernel_rfl
noncomputable def mM (x:EV) (m0:Nat) (t1 t2 t3 t4 t5:Value) (Sz:St) (K:VK):Bool:=
 aC 14 t3 fun v0=>
 aN v0 Sz fun v1 Sz=>
 bO v1 fun v2=>
 aK PP .lss 3 t5 v2 fun v3=>
 gD v3 (aC 3 t4 fun v4=>
 aC 14 v4 fun v5=>
 aN v5 Sz fun v6 Sz=>
 aC 14 t3 fun v7=>
 aN v7 Sz fun v8 Sz=>
 dC 5 v8 t5 fun v9=>
 aR 5 v9 Sz fun v10 Sz=>
 aR 5 v9 Sz fun v11 Sz=>
 aU v11 v10 (aN v7 Sz fun v12 Sz=>
 aU v12 v8 (aN v5 Sz fun v13 Sz=>
 aU v13 v6 (cR (aM 130 1 [zI,zI,(.int .u8 (.ofNat 0)),zI,zS] [(0,5,v10)] Sz fun v14 Sz=>
 true) (aM 130 1 [zI,zI,(.int .u8 (.ofNat 0)),zI,zS] [(0,5,v10)] Sz fun v15 Sz=>
 kJ PP 130 5 48 v6 v15 Sz fun v16 Sz=>
 aN v7 Sz fun v17 Sz=>
 aU v17 v8 (aC 3 t4 fun v18=>
 aC 14 v18 fun v19=>
 cQ 1 v19 v16 Sz fun Sz=>
 aK PP .add 3 t5 (.int .i64 (.ofNat 1)) fun v20=>
 kA x m0 t1 t2 t3 t4 v20 Sz K)) false)))) (gL x x.most t1 t2 t4 zI Sz K)
theorem sI (x:EV) (m0:Nat) (t1 t2 t3 t4 t5:Value) (Sz:St) (K:VK):kA x (m0+1) t1 t2 t3 t4 t5 Sz K=mM x m0 t1 t2 t3 t4 t5 Sz K:=by kernel_rfl
noncomputable def lN (x:EV) (m0:Nat) (t1 t2 t4 t6:Value) (Sz:St) (K:VK):Bool:=
 aC 18 t1 fun v0=>
 aN v0 Sz fun v1 Sz=>
 bO v1 fun v2=>
 aK PP .lss 3 t6 v2 fun v3=>
 gD v3 (aC 18 t4 fun v4=>
 aN v4 Sz fun v5 Sz=>
 aC 18 t1 fun v6=>
 aN v6 Sz fun v7 Sz=>
 dC 2 v7 t6 fun v8=>
 aR 2 v8 Sz fun v9 Sz=>
 aR 2 v8 Sz fun v10 Sz=>
 aU v10 v9 (aN v6 Sz fun v11 Sz=>
 aU v11 v7 (aN v4 Sz fun v12 Sz=>
 aU v12 v5 (cR (aM 132 1 [zI,zS] [(0,2,v9)] Sz fun v13 Sz=>
 true) (aM 132 1 [zI,zS] [(0,2,v9)] Sz fun v14 Sz=>
 kJ PP 132 2 24 v5 v14 Sz fun v15 Sz=>
 aN v6 Sz fun v16 Sz=>
 aU v16 v7 (aC 18 t4 fun v17=>
 cQ 1 v17 v15 Sz fun Sz=>
 aK PP .add 3 t6 (.int .i64 (.ofNat 1)) fun v18=>
 gL x m0 t1 t2 t4 v18 Sz K)) false)))) (aR 20 t4 Sz fun v19 Sz=>
 cQ 20 t2 v19 Sz fun Sz=>
 aR 20 t2 Sz fun v20 _=>
 K v20 Sz)
theorem rH (x:EV) (m0:Nat) (t1 t2 t4 t6:Value) (Sz:St) (K:VK):gL x (m0+1) t1 t2 t4 t6 Sz K=lN x m0 t1 t2 t4 t6 Sz K:=by kernel_rfl
noncomputable def iH (x:EV) (m:Nat) (t0 t3 t4:Value) (Sz:St) (K:VK):Bool:=gJ PP dD jD (x.E PP) [.r,.r,.l,.r,.d] m [] [t0,t3,t4] Sz K
noncomputable def fY (x:EV) (m:Nat) (m0:Nat) (t0 t3 t4 t5 t6:Value) (Sz:St) (K:VK):Bool:=gJ PP dD jD (x.E PP) [.r,.r,.l,.r,.d,.d,.r,.l,.d,.r,.l,.r,.d] m [m0] [t0,t3,t4,t5,t6] Sz K
noncomputable def eC (x:EV) (m:Nat) (m0:Nat) (t0 t3 t4 t5 t7:Value) (Sz:St) (K:VK):Bool:=gJ PP dD jD (x.E PP) [.r,.r,.l,.r,.d,.d,.r,.l,.d,.r,.r,.l,.r,.d] m [m0] [t0,t3,t4,t5,t7] Sz K
noncomputable def EQ (x:EV) (a0:Value) (Sz:St) (K:VK):Bool:=
 iH x x.most a0 zL zI Sz K
theorem SL (x:EV) (a0:Value) (Sz:St) (K:VK):hZ PP dD jD (x.E PP) [a0] Sz K=EQ x a0 Sz K:=by kernel_rfl
noncomputable def nP (x:EV) (m0:Nat) (t0 t3 t4:Value) (Sz:St) (K:VK):Bool:=
 bO t0 fun v0=>
 aK PP .lss 3 t4 v0 fun v1=>
 gD v1 (dC 8 t0 t4 fun v2=>
 aC 0 v2 fun v3=>
 aN v3 Sz fun v4 Sz=>
 dC 8 t0 t4 fun v5=>
 aC 1 v5 fun v6=>
 aN v6 Sz fun v7 Sz=>
 dC 8 t0 t4 fun v8=>
 aC 2 v8 fun v9=>
 aN v9 Sz fun v10 Sz=>
 dC 8 t0 t4 fun v11=>
 aC 3 v11 fun v12=>
 aN v12 Sz fun v13 Sz=>
 dC 8 t0 t4 fun v14=>
 aC 6 v14 fun v15=>
 aN v15 Sz fun v16 Sz=>
 dC 8 t0 t4 fun v17=>
 aC 7 v17 fun v18=>
 aN v18 Sz fun v19 Sz=>
 dK [zI,zI,zL,zL,zL,zL,zL,zF] [(0,1,v4),(1,1,v7),(2,1,v10),(3,1,v13),(6,1,v16),(7,1,v19)] fun v20=>
 aN v18 Sz fun v21 Sz=>
 aU v21 v19 (aN v15 Sz fun v22 Sz=>
 aU v22 v16 (aN v12 Sz fun v23 Sz=>
 aU v23 v13 (aN v9 Sz fun v24 Sz=>
 aU v24 v10 (aN v6 Sz fun v25 Sz=>
 aU v25 v7 (aN v3 Sz fun v26 Sz=>
 aU v26 v4 (cR (cC [zI,zI,zL,zL,zL,zL,zL,zF] 137 Sz fun v27 Sz=>
 true) (cC [zI,zI,zL,zL,zL,zL,zL,zF] 137 Sz fun v28 Sz=>
 cQ 8 v28 v20 Sz fun Sz=>
 fY x x.most m0 t0 t3 t4 v28 zI Sz K) false))))))) (K t3 Sz)
theorem tW (x:EV) (m0:Nat) (t0 t3 t4:Value) (Sz:St) (K:VK):iH x (m0+1) t0 t3 t4 Sz K=nP x m0 t0 t3 t4 Sz K:=by kernel_rfl
noncomputable def iT (x:EV) (m1:Nat) (m0:Nat) (t0 t3 t4 t5 t6:Value) (Sz:St) (K:VK):Bool:=
 dC 8 t0 t4 fun v0=>
 aC 4 v0 fun v1=>
 aN v1 Sz fun v2 Sz=>
 bO v2 fun v3=>
 aK PP .lss 3 t6 v3 fun v4=>
 gD v4 (aC 4 t5 fun v5=>
 aN v5 Sz fun v6 Sz=>
 dC 8 t0 t4 fun v7=>
 aC 4 v7 fun v8=>
 aN v8 Sz fun v9 Sz=>
 dC 2 v9 t6 fun v10=>
 aR 2 v10 Sz fun v11 Sz=>
 aR 2 v10 Sz fun v12 Sz=>
 aU v12 v11 (aN v8 Sz fun v13 Sz=>
 aU v13 v9 (aN v5 Sz fun v14 Sz=>
 aU v14 v6 (cR (aM 141 1 [zI,zL] [(0,2,v11)] Sz fun v15 Sz=>
 true) (aM 141 1 [zI,zL] [(0,2,v11)] Sz fun v16 Sz=>
 kJ PP 141 2 32 v6 v16 Sz fun v17 Sz=>
 aN v8 Sz fun v18 Sz=>
 aU v18 v9 (aC 4 t5 fun v19=>
 cQ 1 v19 v17 Sz fun Sz=>
 aK PP .add 3 t6 (.int .i64 (.ofNat 1)) fun v20=>
 fY x m1 m0 t0 t3 t4 t5 v20 Sz K)) false)))) (eC x x.most m0 t0 t3 t4 t5 zI Sz K)
theorem mS (x:EV) (m1:Nat) (m0:Nat) (t0 t3 t4 t5 t6:Value) (Sz:St) (K:VK):fY x (m1+1) m0 t0 t3 t4 t5 t6 Sz K=iT x m1 m0 t0 t3 t4 t5 t6 Sz K:=by kernel_rfl
noncomputable def iI (x:EV) (m1:Nat) (m0:Nat) (t0 t3 t4 t5 t7:Value) (Sz:St) (K:VK):Bool:=
 dC 8 t0 t4 fun v0=>
 aC 5 v0 fun v1=>
 aN v1 Sz fun v2 Sz=>
 bO v2 fun v3=>
 aK PP .lss 3 t7 v3 fun v4=>
 gD v4 (aC 5 t5 fun v5=>
 aN v5 Sz fun v6 Sz=>
 dC 8 t0 t4 fun v7=>
 aC 5 v7 fun v8=>
 aN v8 Sz fun v9 Sz=>
 dC 2 v9 t7 fun v10=>
 aR 2 v10 Sz fun v11 Sz=>
 aR 2 v10 Sz fun v12 Sz=>
 aU v12 v11 (aN v8 Sz fun v13 Sz=>
 aU v13 v9 (aN v5 Sz fun v14 Sz=>
 aU v14 v6 (cR (aM 141 1 [zI,zL] [(0,2,v11)] Sz fun v15 Sz=>
 true) (aM 141 1 [zI,zL] [(0,2,v11)] Sz fun v16 Sz=>
 kJ PP 141 2 32 v6 v16 Sz fun v17 Sz=>
 aN v8 Sz fun v18 Sz=>
 aU v18 v9 (aC 5 t5 fun v19=>
 cQ 1 v19 v17 Sz fun Sz=>
 aK PP .add 3 t7 (.int .i64 (.ofNat 1)) fun v20=>
 eC x m1 m0 t0 t3 t4 t5 v20 Sz K)) false)))) (aR 8 t5 Sz fun v21 Sz=>
 aM 137 1 [zI,zI,zL,zL,zL,zL,zL,zF] [(0,8,v21)] Sz fun v22 Sz=>
 kJ PP 137 8 144 t3 v22 Sz fun v23 Sz=>
 aK PP .add 3 t4 (.int .i64 (.ofNat 1)) fun v24=>
 iH x m0 t0 v23 v24 Sz K)
theorem mA (x:EV) (m1:Nat) (m0:Nat) (t0 t3 t4 t5 t7:Value) (Sz:St) (K:VK):eC x (m1+1) m0 t0 t3 t4 t5 t7 Sz K=iI x m1 m0 t0 t3 t4 t5 t7 Sz K:=by kernel_rfl
end Go.Am
namespace Go.Am
open Go.RowKit Go.MapKept Go.Proofs Go.Proofs.jB
variable{most:Nat}
theorem Og{n:Nat}{S1z:St}{C:Nat->Prop}{p1 b:Nat}{t2:Value}{cs ws:List Value}{tw:TypeId}{v:Value}{es:List (List D)}{K:VK} (Dk:C b) (hC:∀i,C i->i<S1z.n) (hv:Rd S1z C (.list bE) v (.l es))
 (hp:∀S',cM (Row1 b) S1z S' (Row1 b)->∀K,aN (pt p1 27) S' K=K v S') (hcs:27<cs.length) (hle:es.length<=2000000)
 (hK:∀S' a,cM (Row1 b) S1z S' (Row1 b)->S'.obj b=some (.cells (cs.set 27 a) 49 .exact)->Rd S' C (.list bE) a (.l es)->(aR 30 (pt b 0) S' fun v19 Sz=>cQ 30 t2 v19 Sz fun Sz=>aR 30 t2 Sz fun v20 _=>K v20 Sz)=true):
 ∀(r i m:Nat) (Sz:St) (a:Value),i+r=es.length->r<m->cM (Row1 b) S1z Sz (Row1 b)->Sz.obj b=some (.cells (cs.set 27 a) 49 .exact)->Acc Sz C S1z.n bE 85 a (es.take i)->pA (X most n) m (pt p1 0) t2 (pt b 0) (.int .i64 (.ofNat i)) Sz K=true:=by
 have hbn:b<S1z.n:=hC b Dk;have up:∀{Sz S':St},cM (Row1 b) Sz S' (Row1 b)->cM C Sz S' C:=fun f=>f.up fun i hi=>by rw [show i=b from hi];exact Dk
 intro r;induction r with
 | zero=>
  intro i m Sz a hi hm f hb ha;obtain⟨m,rfl⟩:=Nat.exists_eq_succ_of_ne_zero (show m≠0 by omega);rw [zJ];unfold rW;rw [aB,Nat.zero_add,hp Sz f,hv.bD.2,aG,show decide (i<bH (.l es))=false from decide_eq_false (show ¬i<es.length by omega),cA];rw [List.take_of_length_le (by omega)]at ha;exact hK Sz a f hb (ha.rd hC (by omega))
 | succ r ih=>
  intro i m Sz a hi hm f hb ha;obtain⟨m,rfl⟩:=Nat.exists_eq_succ_of_ne_zero (show m≠0 by omega);have hlt:i<es.length:=by omega
  have q:=f.n;rw [zJ];unfold rW;obtain⟨b2,o2,hst,hix⟩:=hv.at hlt 3 rfl;obtain⟨us,hra,hld⟩:=hst.ldf 3 rfl;have ha0:(cs.set 27 a)[27]? =some a:=by simp [hcs]
  have hld:=hld Sz (up f);have Rp:∀K,aN (pt b 27) Sz K=K a Sz:=fun K=>cB hb ha0 K
  have hsa:gF a a=true:=by
   rcases ha with ⟨rfl,_⟩ | ⟨j,vs,olds,h1,h2,rfl,h3⟩
   ·rfl
   ·show((Nat.beq j j&&Nat.beq 0 0)&&(Nat.beq _ _&&Nat.beq _ _))=true
    simp
  have hbs:∀K,aM 85 1 [zI,zI,zL] [(0,3,.agg ⟨us⟩)] Sz K=K (.slice (some ⟨Sz.n,0,none⟩) 1 1) (Sz.new (.cells us 85 .exact)):=fun K=>AJ 85 (k:=3) rfl hra.len (List.all_eq_true.2 hra.one) Sz K;rw [aB,Nat.zero_add,hp Sz f,hv.bD.2,aG,show decide (i<bH (.l es))=true from decide_eq_true (show i<es.length from hlt),bS,aB,Nat.zero_add,Rp,aB,Nat.zero_add,hp Sz f,hix,hld,hld,aQ hra.gF,hp Sz f,aQ (cW hv),Rp,aQ hsa,hbs,hbs,fX];refine Acc.more (S0:=S1z) (its:=bE) rfl ha (up f) rfl (.refl Sz) hra (by kernel_rfl) (by rw [List.length_take];omega) fun S' a' h1 h2 h3=>?_;have f':cM (Row1 b) S1z S' (Row1 b):=⟨by omega,fun k hk hkb=>by rw [h2 k hk];exact f.same k hk hkb,fun k hk=> .inl hk⟩;have hb':S'.obj b=some (.cells (cs.set 27 a) 49 .exact):=by rw [h2 b hbn];exact hb
  have h1c:oneCell a'=true:=by
   rcases h3 with ⟨rfl,_⟩ | ⟨j,vs,olds,g1,g2,rfl,g3⟩<;>rfl
  have fs:cM (Row1 b) S' (S'.set b (.cells (cs.set 27 a') 49 .exact)) (Row1 b):=⟨Nat.le_refl _,fun k _ hkb=>aJ hkb,fun k hk=> .inl hk⟩;rw [hp S' f',aQ (cW hv),aB,Nat.zero_add,fI hb' (by simp [hcs]) h1c,List.set_set,aP _ _ _ _ (by omega)];refine ih (i+1) m _ a' (by omega) (by omega) (f'.trans fs) aX ?_;rw [List.take_succ_eq_append_getElem hlt];exact h3.fr (up fs) hC
theorem Gq{n:Nat}{S1z:St}{C:Nat->Prop}{p1 b:Nat}{t2:Value}{cs ws:List Value}{tw:TypeId}{v:Value}{es:List (List D)}{K:VK} (Dk:C b) (hC:∀i,C i->i<S1z.n) (hv:Rd S1z C (.list bC) v (.l es))
 (hp:∀S',cM (Row1 b) S1z S' (Row1 b)->∀K,aN (pt p1 18) S' K=K v S') (hcs:18<cs.length) (hle:es.length<=2000000)
 (hK:∀S' a,cM (Row1 b) S1z S' (Row1 b)->S'.obj b=some (.cells (cs.set 18 a) 45 .exact)->Rd S' C (.list bC) a (.l es)->(aR 20 (pt b 0) S' fun v19 Sz=>cQ 20 t2 v19 Sz fun Sz=>aR 20 t2 Sz fun v20 _=>K v20 Sz)=true):
 ∀(r i m:Nat) (Sz:St) (a:Value),i+r=es.length->r<m->cM (Row1 b) S1z Sz (Row1 b)->Sz.obj b=some (.cells (cs.set 18 a) 45 .exact)->Acc Sz C S1z.n bC 132 a (es.take i)->gL (X most n) m (pt p1 0) t2 (pt b 0) (.int .i64 (.ofNat i)) Sz K=true:=by
 have hbn:b<S1z.n:=hC b Dk;have up:∀{Sz S':St},cM (Row1 b) Sz S' (Row1 b)->cM C Sz S' C:=fun f=>f.up fun i hi=>by rw [show i=b from hi];exact Dk
 intro r;induction r with
 | zero=>
  intro i m Sz a hi hm f hb ha;obtain⟨m,rfl⟩:=Nat.exists_eq_succ_of_ne_zero (show m≠0 by omega);rw [rH];unfold lN;rw [aB,Nat.zero_add,hp Sz f,hv.bD.2,aG,show decide (i<bH (.l es))=false from decide_eq_false (show ¬i<es.length by omega),cA];rw [List.take_of_length_le (by omega)]at ha;exact hK Sz a f hb (ha.rd hC (by omega))
 | succ r ih=>
  intro i m Sz a hi hm f hb ha;obtain⟨m,rfl⟩:=Nat.exists_eq_succ_of_ne_zero (show m≠0 by omega);have hlt:i<es.length:=by omega
  have q:=f.n;rw [rH];unfold lN;obtain⟨b2,o2,hst,hix⟩:=hv.at hlt 2 rfl;obtain⟨us,hra,hld⟩:=hst.ldf 2 rfl;have ha0:(cs.set 18 a)[18]? =some a:=by simp [hcs]
  have hld:=hld Sz (up f);have Rp:∀K,aN (pt b 18) Sz K=K a Sz:=fun K=>cB hb ha0 K
  have hsa:gF a a=true:=by
   rcases ha with ⟨rfl,_⟩ | ⟨j,vs,olds,h1,h2,rfl,h3⟩
   ·rfl
   ·show((Nat.beq j j&&Nat.beq 0 0)&&(Nat.beq _ _&&Nat.beq _ _))=true
    simp
  have hbs:∀K,aM 132 1 [zI,zS] [(0,2,.agg ⟨us⟩)] Sz K=K (.slice (some ⟨Sz.n,0,none⟩) 1 1) (Sz.new (.cells us 132 .exact)):=fun K=>AJ 132 (k:=2) rfl hra.len (List.all_eq_true.2 hra.one) Sz K;rw [aB,Nat.zero_add,hp Sz f,hv.bD.2,aG,show decide (i<bH (.l es))=true from decide_eq_true (show i<es.length from hlt),bS,aB,Nat.zero_add,Rp,aB,Nat.zero_add,hp Sz f,hix,hld,hld,aQ hra.gF,hp Sz f,aQ (cW hv),Rp,aQ hsa,hbs,hbs,fX];refine Acc.more (S0:=S1z) (its:=bC) rfl ha (up f) rfl (.refl Sz) hra (by kernel_rfl) (by rw [List.length_take];omega) fun S' a' h1 h2 h3=>?_;have f':cM (Row1 b) S1z S' (Row1 b):=⟨by omega,fun k hk hkb=>by rw [h2 k hk];exact f.same k hk hkb,fun k hk=> .inl hk⟩;have hb':S'.obj b=some (.cells (cs.set 18 a) 45 .exact):=by rw [h2 b hbn];exact hb
  have h1c:oneCell a'=true:=by
   rcases h3 with ⟨rfl,_⟩ | ⟨j,vs,olds,g1,g2,rfl,g3⟩<;>rfl
  have fs:cM (Row1 b) S' (S'.set b (.cells (cs.set 18 a') 45 .exact)) (Row1 b):=⟨Nat.le_refl _,fun k _ hkb=>aJ hkb,fun k hk=> .inl hk⟩;rw [hp S' f',aQ (cW hv),aB,Nat.zero_add,fI hb' (by simp [hcs]) h1c,List.set_set,aP _ _ _ _ (by omega)];refine ih (i+1) m _ a' (by omega) (by omega) (f'.trans fs) aX ?_;rw [List.take_succ_eq_append_getElem hlt];exact h3.fr (up fs) hC
theorem Br{n:Nat}{S1z:St}{C:Nat->Prop}{p1 b:Nat}{t1 t2:Value}{cs ws:List Value}{tw:TypeId}{v:Value}{es:List (List D)}{K:VK} (Dk:C b) (hC:∀i,C i->i<S1z.n) (hv:Rd S1z C (.list aW) v (.l es))
 (hp:∀S',cM (Row1 b) S1z S' (Row1 b)->∀K,aN (pt p1 14) S' K=K v S') (hcs:17<cs.length) (hle:es.length<=2000000)
 (hK:∀S' a,cM (Row1 b) S1z S' (Row1 b)->S'.obj b=some (.cells (cs.set 17 a) 45 .exact)->Rd S' C (.list aW) a (.l es)->(gL (X most n) (X most n).most t1 t2 (pt b 0) zI S' K)=true):
 ∀(r i m:Nat) (Sz:St) (a:Value),i+r=es.length->r<m->cM (Row1 b) S1z Sz (Row1 b)->Sz.obj b=some (.cells (cs.set 17 a) 45 .exact)->Acc Sz C S1z.n aW 130 a (es.take i)->kA (X most n) m t1 t2 (pt p1 0) (pt b 0) (.int .i64 (.ofNat i)) Sz K=true:=by
 have hbn:b<S1z.n:=hC b Dk;have up:∀{Sz S':St},cM (Row1 b) Sz S' (Row1 b)->cM C Sz S' C:=fun f=>f.up fun i hi=>by rw [show i=b from hi];exact Dk
 intro r;induction r with
 | zero=>
  intro i m Sz a hi hm f hb ha;obtain⟨m,rfl⟩:=Nat.exists_eq_succ_of_ne_zero (show m≠0 by omega);rw [sI];unfold mM;rw [aB,Nat.zero_add,hp Sz f,hv.bD.2,aG,show decide (i<bH (.l es))=false from decide_eq_false (show ¬i<es.length by omega),cA];rw [List.take_of_length_le (by omega)]at ha;exact hK Sz a f hb (ha.rd hC (by omega))
 | succ r ih=>
  intro i m Sz a hi hm f hb ha;obtain⟨m,rfl⟩:=Nat.exists_eq_succ_of_ne_zero (show m≠0 by omega);have hlt:i<es.length:=by omega
  have q:=f.n;rw [sI];unfold mM;obtain⟨b2,o2,hst,hix⟩:=hv.at hlt 5 rfl;obtain⟨us,hra,hld⟩:=hst.ldf 5 rfl;have ha0:(cs.set 17 a)[17]? =some a:=by simp [hcs]
  have hld:=hld Sz (up f);have Rp:∀K,aN (pt b 17) Sz K=K a Sz:=fun K=>cB hb ha0 K
  have hsa:gF a a=true:=by
   rcases ha with ⟨rfl,_⟩ | ⟨j,vs,olds,h1,h2,rfl,h3⟩
   ·rfl
   ·show((Nat.beq j j&&Nat.beq 0 0)&&(Nat.beq _ _&&Nat.beq _ _))=true
    simp
  have hbs:∀K,aM 130 1 [zI,zI,(.int .u8 (.ofNat 0)),zI,zS] [(0,5,.agg ⟨us⟩)] Sz K=K (.slice (some ⟨Sz.n,0,none⟩) 1 1) (Sz.new (.cells us 130 .exact)):=fun K=>AJ 130 (k:=5) rfl hra.len (List.all_eq_true.2 hra.one) Sz K;rw [aB,Nat.zero_add,hp Sz f,hv.bD.2,aG,show decide (i<bH (.l es))=true from decide_eq_true (show i<es.length from hlt),bS,aB,Nat.zero_add,aB,Rp,aB,Nat.zero_add,hp Sz f,hix,hld,hld,aQ hra.gF,hp Sz f,aQ (cW hv),Rp,aQ hsa,hbs,hbs,fX];refine Acc.more (S0:=S1z) (its:=aW) rfl ha (up f) rfl (.refl Sz) hra (by kernel_rfl) (by rw [List.length_take];omega) fun S' a' h1 h2 h3=>?_;have f':cM (Row1 b) S1z S' (Row1 b):=⟨by omega,fun k hk hkb=>by rw [h2 k hk];exact f.same k hk hkb,fun k hk=> .inl hk⟩;have hb':S'.obj b=some (.cells (cs.set 17 a) 45 .exact):=by rw [h2 b hbn];exact hb
  have h1c:oneCell a'=true:=by
   rcases h3 with ⟨rfl,_⟩ | ⟨j,vs,olds,g1,g2,rfl,g3⟩<;>rfl
  have fs:cM (Row1 b) S' (S'.set b (.cells (cs.set 17 a') 45 .exact)) (Row1 b):=⟨Nat.le_refl _,fun k _ hkb=>aJ hkb,fun k hk=> .inl hk⟩;rw [hp S' f',aQ (cW hv),aB,Nat.zero_add,aB,fI hb' (by simp [hcs]) h1c,List.set_set,aP _ _ _ _ (by omega)];refine ih (i+1) m _ a' (by omega) (by omega) (f'.trans fs) aX ?_;rw [List.take_succ_eq_append_getElem hlt];exact h3.fr (up fs) hC
theorem SK{n:Nat}{S1z:St}{C:Nat->Prop}{p1 o1 b:Nat}{m0 p0:Nat}{t0 t3:Value}{cs ws:List Value}{tw:TypeId}{v:Value}{es:List (List D)}{K:VK} (Dk:C b) (hC:∀i,C i->i<S1z.n) (hv:Rd S1z C (.list bB) v (.l es))
 (h0:∀K,dC 8 t0 (.int .i64 (.ofNat p0)) K=K (pt p1 o1)) (hp:∀S',cM (Row1 b) S1z S' (Row1 b)->∀K,aN (pt p1 (o1+5)) S' K=K v S') (hcs:5<cs.length) (hle:es.length<=2000000)
 (hK:∀S' a,cM (Row1 b) S1z S' (Row1 b)->S'.obj b=some (.cells (cs.set 5 a) 137 .exact)->Rd S' C (.list bB) a (.l es)->(aR 8 (pt b 0) S' fun v21 Sz=>aM 137 1 [zI,zI,zL,zL,zL,zL,zL,zF] [(0,8,v21)] Sz fun v22 Sz=>kJ PP 137 8 144 t3 v22 Sz fun v23 Sz=>aK PP .add 3 (.int .i64 (.ofNat p0)) (.int .i64 (.ofNat 1)) fun v24=>iH (X most n) m0 t0 v23 v24 Sz K)=true):
 ∀(r i m:Nat) (Sz:St) (a:Value),i+r=es.length->r<m->cM (Row1 b) S1z Sz (Row1 b)->Sz.obj b=some (.cells (cs.set 5 a) 137 .exact)->Acc Sz C S1z.n bB 141 a (es.take i)->eC (X most n) m m0 t0 t3 (.int .i64 (.ofNat p0)) (pt b 0) (.int .i64 (.ofNat i)) Sz K=true:=by
 have hbn:b<S1z.n:=hC b Dk;have up:∀{Sz S':St},cM (Row1 b) Sz S' (Row1 b)->cM C Sz S' C:=fun f=>f.up fun i hi=>by rw [show i=b from hi];exact Dk
 intro r;induction r with
 | zero=>
  intro i m Sz a hi hm f hb ha;obtain⟨m,rfl⟩:=Nat.exists_eq_succ_of_ne_zero (show m≠0 by omega);rw [mA];unfold iI;rw [h0,aB,hp Sz f,hv.bD.2,aG,show decide (i<bH (.l es))=false from decide_eq_false (show ¬i<es.length by omega),cA];rw [List.take_of_length_le (by omega)]at ha;exact hK Sz a f hb (ha.rd hC (by omega))
 | succ r ih=>
  intro i m Sz a hi hm f hb ha;obtain⟨m,rfl⟩:=Nat.exists_eq_succ_of_ne_zero (show m≠0 by omega);have hlt:i<es.length:=by omega
  have q:=f.n;rw [mA];unfold iI;obtain⟨b2,o2,hst,hix⟩:=hv.at hlt 2 rfl;obtain⟨us,hra,hld⟩:=hst.ldf 2 rfl;have ha0:(cs.set 5 a)[5]? =some a:=by simp [hcs]
  have hld:=hld Sz (up f);have Rp:∀K,aN (pt b 5) Sz K=K a Sz:=fun K=>cB hb ha0 K
  have hsa:gF a a=true:=by
   rcases ha with ⟨rfl,_⟩ | ⟨j,vs,olds,h1,h2,rfl,h3⟩
   ·rfl
   ·show((Nat.beq j j&&Nat.beq 0 0)&&(Nat.beq _ _&&Nat.beq _ _))=true
    simp
  have hbs:∀K,aM 141 1 [zI,zL] [(0,2,.agg ⟨us⟩)] Sz K=K (.slice (some ⟨Sz.n,0,none⟩) 1 1) (Sz.new (.cells us 141 .exact)):=fun K=>AJ 141 (k:=2) rfl hra.len (List.all_eq_true.2 hra.one) Sz K;rw [h0,aB,hp Sz f,hv.bD.2,aG,show decide (i<bH (.l es))=true from decide_eq_true (show i<es.length from hlt),bS,aB,Nat.zero_add,Rp,h0,aB,hp Sz f,hix,hld,hld,aQ hra.gF,hp Sz f,aQ (cW hv),Rp,aQ hsa,hbs,hbs,fX];refine Acc.more (S0:=S1z) (its:=bB) rfl ha (up f) rfl (.refl Sz) hra (by kernel_rfl) (by rw [List.length_take];omega) fun S' a' h1 h2 h3=>?_;have f':cM (Row1 b) S1z S' (Row1 b):=⟨by omega,fun k hk hkb=>by rw [h2 k hk];exact f.same k hk hkb,fun k hk=> .inl hk⟩;have hb':S'.obj b=some (.cells (cs.set 5 a) 137 .exact):=by rw [h2 b hbn];exact hb
  have h1c:oneCell a'=true:=by
   rcases h3 with ⟨rfl,_⟩ | ⟨j,vs,olds,g1,g2,rfl,g3⟩<;>rfl
  have fs:cM (Row1 b) S' (S'.set b (.cells (cs.set 5 a') 137 .exact)) (Row1 b):=⟨Nat.le_refl _,fun k _ hkb=>aJ hkb,fun k hk=> .inl hk⟩;rw [hp S' f',aQ (cW hv),aB,Nat.zero_add,fI hb' (by simp [hcs]) h1c,List.set_set,aP _ _ _ _ (by omega)];refine ih (i+1) m _ a' (by omega) (by omega) (f'.trans fs) aX ?_;rw [List.take_succ_eq_append_getElem hlt];exact h3.fr (up fs) hC
theorem ZR{n:Nat}{S1z:St}{C:Nat->Prop}{p1 o1 b:Nat}{m0 p0:Nat}{t0 t3:Value}{cs ws:List Value}{tw:TypeId}{v:Value}{es:List (List D)}{K:VK} (Dk:C b) (hC:∀i,C i->i<S1z.n) (hv:Rd S1z C (.list bB) v (.l es))
 (h0:∀K,dC 8 t0 (.int .i64 (.ofNat p0)) K=K (pt p1 o1)) (hp:∀S',cM (Row1 b) S1z S' (Row1 b)->∀K,aN (pt p1 (o1+4)) S' K=K v S') (hcs:4<cs.length) (hle:es.length<=2000000)
 (hK:∀S' a,cM (Row1 b) S1z S' (Row1 b)->S'.obj b=some (.cells (cs.set 4 a) 137 .exact)->Rd S' C (.list bB) a (.l es)->(eC (X most n) (X most n).most m0 t0 t3 (.int .i64 (.ofNat p0)) (pt b 0) zI S' K)=true):
 ∀(r i m:Nat) (Sz:St) (a:Value),i+r=es.length->r<m->cM (Row1 b) S1z Sz (Row1 b)->Sz.obj b=some (.cells (cs.set 4 a) 137 .exact)->Acc Sz C S1z.n bB 141 a (es.take i)->fY (X most n) m m0 t0 t3 (.int .i64 (.ofNat p0)) (pt b 0) (.int .i64 (.ofNat i)) Sz K=true:=by
 have hbn:b<S1z.n:=hC b Dk;have up:∀{Sz S':St},cM (Row1 b) Sz S' (Row1 b)->cM C Sz S' C:=fun f=>f.up fun i hi=>by rw [show i=b from hi];exact Dk
 intro r;induction r with
 | zero=>
  intro i m Sz a hi hm f hb ha;obtain⟨m,rfl⟩:=Nat.exists_eq_succ_of_ne_zero (show m≠0 by omega);rw [mS];unfold iT;rw [h0,aB,hp Sz f,hv.bD.2,aG,show decide (i<bH (.l es))=false from decide_eq_false (show ¬i<es.length by omega),cA];rw [List.take_of_length_le (by omega)]at ha;exact hK Sz a f hb (ha.rd hC (by omega))
 | succ r ih=>
  intro i m Sz a hi hm f hb ha;obtain⟨m,rfl⟩:=Nat.exists_eq_succ_of_ne_zero (show m≠0 by omega);have hlt:i<es.length:=by omega
  have q:=f.n;rw [mS];unfold iT;obtain⟨b2,o2,hst,hix⟩:=hv.at hlt 2 rfl;obtain⟨us,hra,hld⟩:=hst.ldf 2 rfl;have ha0:(cs.set 4 a)[4]? =some a:=by simp [hcs]
  have hld:=hld Sz (up f);have Rp:∀K,aN (pt b 4) Sz K=K a Sz:=fun K=>cB hb ha0 K
  have hsa:gF a a=true:=by
   rcases ha with ⟨rfl,_⟩ | ⟨j,vs,olds,h1,h2,rfl,h3⟩
   ·rfl
   ·show((Nat.beq j j&&Nat.beq 0 0)&&(Nat.beq _ _&&Nat.beq _ _))=true
    simp
  have hbs:∀K,aM 141 1 [zI,zL] [(0,2,.agg ⟨us⟩)] Sz K=K (.slice (some ⟨Sz.n,0,none⟩) 1 1) (Sz.new (.cells us 141 .exact)):=fun K=>AJ 141 (k:=2) rfl hra.len (List.all_eq_true.2 hra.one) Sz K;rw [h0,aB,hp Sz f,hv.bD.2,aG,show decide (i<bH (.l es))=true from decide_eq_true (show i<es.length from hlt),bS,aB,Nat.zero_add,Rp,h0,aB,hp Sz f,hix,hld,hld,aQ hra.gF,hp Sz f,aQ (cW hv),Rp,aQ hsa,hbs,hbs,fX];refine Acc.more (S0:=S1z) (its:=bB) rfl ha (up f) rfl (.refl Sz) hra (by kernel_rfl) (by rw [List.length_take];omega) fun S' a' h1 h2 h3=>?_;have f':cM (Row1 b) S1z S' (Row1 b):=⟨by omega,fun k hk hkb=>by rw [h2 k hk];exact f.same k hk hkb,fun k hk=> .inl hk⟩;have hb':S'.obj b=some (.cells (cs.set 4 a) 137 .exact):=by rw [h2 b hbn];exact hb
  have h1c:oneCell a'=true:=by
   rcases h3 with ⟨rfl,_⟩ | ⟨j,vs,olds,g1,g2,rfl,g3⟩<;>rfl
  have fs:cM (Row1 b) S' (S'.set b (.cells (cs.set 4 a') 137 .exact)) (Row1 b):=⟨Nat.le_refl _,fun k _ hkb=>aJ hkb,fun k hk=> .inl hk⟩;rw [hp S' f',aQ (cW hv),aB,Nat.zero_add,fI hb' (by simp [hcs]) h1c,List.set_set,aP _ _ _ _ (by omega)];refine ih (i+1) m _ a' (by omega) (by omega) (f'.trans fs) aX ?_;rw [List.take_succ_eq_append_getElem hlt];exact h3.fr (up fs) hC
variable{most:Nat}
theorem bF{z:List Value}{o:Nat}{v:Value}{ps:List (Nat×Nat×Value)} (h:oneCell v=true) (ho:o<z.length) (K:Value->Bool):dK z ((o,1,v)::ps) K=dK (z.set o v) ps K:=by
 show iB v (fun new=>mJ new fun m=>match Nat.beq m 1 with | true=>iA o new z (fun cs=>DZ ps cs fun cs=>K (.agg ⟨cs⟩)) | false=>false)=_;rw [lW h,cV];show iA o [v] z _=_;rw [gS,if_pos (by simp;omega)];unfold splice;rw [List.set_eq_take_append_cons_drop,if_pos ho];simp only [List.append_assoc,List.singleton_append,List.length_singleton];rfl
theorem Oh{z cs:List Value}{o n:Nat}{ps:List (Nat×Nat×Value)} (h:cs.all oneCell=true) (hn:cs.length=n) (ho:o+n<=z.length) (K:Value->Bool):dK z ((o,n,.agg ⟨cs⟩)::ps) K=dK (splice o cs z) ps K:=by
 show(match allB oneCell cs with | true=>(mJ cs fun m=>match Nat.beq m n with | true=>iA o cs z (fun cs=>DZ ps cs fun cs=>K (.agg ⟨cs⟩)) | false=>false) | false=>false)=_;rw [jW,h,cV,hn];simp only [show Nat.beq n n=true from Nat.beq_refl _];rw [gS,if_pos (by omega)];rfl
theorem lL.of{Sz:St}{C:Nat->Prop}{its:List It}{cs:List Value}{ds:List D} (hl:cs.length=its.length) (hd:ds.length=its.length) (h:∀(j:Nat) (it:It) (u:Value),its[j]? =some it->cs[j]? =some u->Rd Sz C it u (ats ds j)):lL Sz C its cs ds:=
 ⟨hl,hd,fun j it v d a b c=>by have:=h j it v a b;rwa [aDL c]at this⟩
theorem lL.cons{Sz:St}{C:Nat->Prop}{it:It}{its:List It}{v:Value}{cs:List Value}{d:D}{ds:List D} (h:Rd Sz C it v d) (k:lL Sz C its cs ds):lL Sz C (it::its) (v::cs) (d::ds):=by
 refine⟨by simp [k.len],by simp [k.jK],fun j it v d a b c=>?_⟩
 match j,a,b,c with
 | 0,a,b,c=>injection a with a;injection b with b;injection c with c;subst a b c;exact h
 | j+1,a,b,c=>exact k.rd j it v d a b c
theorem lL.nil{Sz:St}{C:Nat->Prop}:lL Sz C [] [] []:=⟨rfl,rfl,fun j it v d a=>by simp at a⟩
theorem Rd.GJ{Sz:St}{C:Nat->Prop}{its:List It}{v:Value}{d:D} (h:Rd Sz C (.list its) v d):Rd Sz C (.list its) v (.l (bT d))/\d= .l (bT d):=by
 obtain⟨es,rfl⟩:=h.iW;exact⟨h,rfl⟩
theorem Rd.pB{Sz:St}{C:Nat->Prop}{it:It}{v:Value}{d:D} (h:Rd Sz C it v d):Am.gF v v=true:=by
 have:=h.OT;cases v<;>first | exact this | (cases h;rename_i h;cases h)
theorem Bs (hM:2000000<most){n:Nat}{S0:St}{C:Nat->Prop}{v:Value}{es:List (List D)}{K:VK} (hC:∀i,C i->i<S0.n) (hv:Rd S0 C (.list aD) v (.l es)) (hle:es.length<=2000000)
 (hin:∀x∈es,(bT (ats x 4)).length<=2000000/\(bT (ats x 5)).length<=2000000) (hK:∀S' a,aZ S0 S'->Rd S' C (.list aD) a (.l es)->K a S'=true):
 ∀(r i m:Nat) (Sz:St) (a:Value),i+r=es.length->r<m->aZ S0 Sz->Acc Sz C S0.n aD 137 a (es.take i)->iH (X most n) m v a (.int .i64 (.ofNat i)) Sz K=true:=by
 intro r;induction r with
 | zero=>
  intro i m Sz a hi hm hx ha;obtain⟨m,rfl⟩:=Nat.exists_eq_succ_of_ne_zero (show m≠0 by omega);rw [tW];unfold nP;rw [hv.bD.2,aG,show decide (i<bH (.l es))=false from decide_eq_false (show ¬i<es.length by omega),cA];rw [List.take_of_length_le (by omega)]at ha;exact hK Sz a hx (ha.rd hC (by omega))
 | succ r ih=>
  intro i m Sz a hi hm hx ha;obtain⟨m,rfl⟩:=Nat.exists_eq_succ_of_ne_zero (show m≠0 by omega);have hlt:i<es.length:=by omega
  have q:=hx.n;obtain⟨aGW,aGX⟩:=hin _ (List.getElem_mem hlt);rw [tW];unfold nP;obtain⟨p1,o1,hst,hix⟩:=hv.at hlt 8 rfl;have hdl:es[i].length=8:=hst.len;obtain⟨u0,r0,l0⟩:=hst.fK 0 (it:= .int) rfl;obtain⟨u1,r1,l1⟩:=hst.fK 1 (it:= .int) rfl;obtain⟨u2,r2,l2⟩:=hst.fK 2 (it:= .list cO) rfl;obtain⟨u3,r3,l3⟩:=hst.fK 3 (it:= .nums) rfl;obtain⟨u4,r4,l4⟩:=hst.fK 4 (it:= .list bB) rfl;obtain⟨u5,r5,l5⟩:=hst.fK 5 (it:= .list bB) rfl;obtain⟨u6,r6,l6⟩:=hst.fK 6 (it:= .nums) rfl;obtain⟨u7,r7,l7⟩:=hst.fK 7 (it:= .is) rfl;have fx:cM C S0 Sz C:=hx.fr C;have e4:=r4.GJ;have e5:=r5.GJ
  have hb:∀K,dK [zI,zI,zL,zL,zL,zL,zL,zF] [(0,1,u0),(1,1,u1),(2,1,u2),(3,1,u3),(6,1,u6),(7,1,u7)] K=K (.agg ⟨[u0,u1,u2,u3,.slice none 0 0,.slice none 0 0,u6,u7]⟩):=fun K=>by
   rw [bF r0.one (by simp),bF r1.one (by simp),bF r2.one (by simp),bF r3.one (by simp),bF r6.one (by simp),bF r7.one (by simp),dR];rfl
  rw [hv.bD.2,aG,show decide (i<bH (.l es))=true from decide_eq_true (show i<es.length from hlt),bS];rw [hix,aB,l0 Sz fx,hix,aB,l1 Sz fx,hix,aB,l2 Sz fx,hix,aB,l3 Sz fx,hix,aB,l6 Sz fx,hix,aB,l7 Sz fx,hb];rw [l7 Sz fx,aQ r7.pB,l6 Sz fx,aQ r6.pB,l3 Sz fx,aQ r3.pB,l2 Sz fx,aQ r2.pB,l1 Sz fx,aQ r1.pB,l0 Sz fx,aQ r0.pB,eB,fX,eB]
  let cs8:List Value:=[u0,u1,u2,u3,.slice none 0 0,.slice none 0 0,u6,u7]
  have aGY:cs8.all oneCell=true:=by simp [cs8,r0.one,r1.one,r2.one,r3.one,r6.one,r7.one];rfl
  rw [kR (vs:=[zI,zI,zL,zL,zL,zL,zL,zF]) (cs:=cs8) aF rfl aGY 8 rfl];generalize hS1:(Sz.new (.cells [zI,zI,zL,zL,zL,zL,zL,zF] 137 .exact)).set Sz.n (.cells cs8 137 .exact)=S1z;have n1:S1z.n=Sz.n+1:=by rw [<-hS1];rfl
  have o1b:S1z.obj Sz.n=some (.cells (cs8.set 4 zL) 137 .exact):=by rw [<-hS1];exact aX
  have x1:aZ Sz S1z:=⟨by omega,fun k hk=>by rw [<-hS1,aJ (by omega),aL (by omega)]⟩
  let C1:Nat->Prop:=fun k=>k=Sz.n\/C k\/(S0.n<=k/\k<Sz.n)
  have hC1:∀k,C1 k->k<S1z.n:=fun k hk=>by
   rcases hk with h | h | h
   ·omega
   ·have:=hC k h;omega
   ·omega
  have aDO:C1 Sz.n:= .inl rfl
  have fC1:∀{S':St},aZ S0 S'->cM C S0 S' C1:=fun h=>⟨h.n,fun k hk _=>h.same k hk,fun k hk=>by
   rcases hk with h | h | h
   ·exact .inr (by omega)
   ·exact .inl h
   ·exact .inr h.1⟩
  have xb:∀{S':St},cM (Row1 Sz.n) S1z S' (Row1 Sz.n)->aZ Sz S':=fun f=>f.ext x1 (fun k hk=>by rw [show k=Sz.n from hk];exact Nat.le_refl _);have aFe:∀{S':St},aZ Sz S'->cM C S0 S' C:=fun h=>(hx.trans h).fr C;refine ZR (n:=n) (S1z:=S1z) (C:=C1) (p1:=p1) (o1:=o1) (b:=Sz.n) (m0:=m) (p0:=i) (t0:=v) (t3:=a) (cs:=cs8) (ws:=[]) (tw:=0) aDO hC1 (e4.1.fr (fC1 (hx.trans x1))) hix (fun S' f=>l4 S' (aFe (xb f))) (by simp [cs8]) aGW (fun S2z a4 f2 hb2 h4=>?_) _ 0 _ S1z zL (Nat.zero_add _) (by rw [bP];omega) (.refl _ _) o1b (.inl ⟨rfl,by simp⟩);have x2:aZ Sz S2z:=xb f2;have q2:=f2.n;have xb2:∀{S':St},cM (Row1 Sz.n) S2z S' (Row1 Sz.n)->aZ Sz S':=fun f=>f.ext x2 (fun k hk=>by rw [show k=Sz.n from hk];exact Nat.le_refl _);refine SK (n:=n) (S1z:=S2z) (C:=C1) (p1:=p1) (o1:=o1) (b:=Sz.n) (m0:=m) (p0:=i) (t0:=v) (t3:=a) (cs:=cs8.set 4 a4) (ws:=[]) (tw:=0) aDO (fun k hk=>by have:=hC1 k hk;omega) (e5.1.fr (fC1 (hx.trans x2))) hix (fun S' f=>l5 S' (aFe (xb2 f))) (by simp [cs8]) aGX (fun S3z a5 f3 hb3 h5=>?_) _ 0 _ S2z zL (Nat.zero_add _) (by rw [bP];omega) (.refl _ _) hb2 (.inl ⟨rfl,by simp⟩);have x3:aZ Sz S3z:=xb2 f3;have q3:=f3.n;have h4':Rd S3z C1 (.list bB) a4 (.l (bT (ats es[i] 4))):=h4.fr (f3.up fun k hk=>by rw [show k=Sz.n from hk];exact aDO)
  let cs9:List Value:=[u0,u1,u2,u3,a4,a5,u6,u7]
  have hb3:S3z.obj Sz.n=some (.cells cs9 137 .exact):=hb3
  have r9:∀C':Nat->Prop,(∀k,C' k->C k\/(S0.n<=k/\k<Sz.n))->lL (S3z.new (.cells cs9 137 .exact)) C' aD cs9 es[i]:=fun C' hC'=>by
   have F:cM C S0 (S3z.new (.cells cs9 137 .exact)) C':=⟨by have:=x3.n;rw [kM];omega,fun k hk _=>by rw [aL (by have:=x3.n;omega)];exact(hx.trans x3).same k hk,fun k hk=>by
    rcases hC' k hk with h | h
    ·exact .inl h
    ·exact .inr h.1⟩
   have G:cM C1 S3z (S3z.new (.cells cs9 137 .exact)) C':=⟨Nat.le_succ _,fun k hk _=>aL (by omega),fun k hk=> .inl (.inr (hC' k hk))⟩;refine lL.of rfl hdl fun j it u a b=>?_
   match j,a,b with
   | 0,a,b=>injection a with a;injection b with b;subst a b;exact r0.fr F
   | 1,a,b=>injection a with a;injection b with b;subst a b;exact r1.fr F
   | 2,a,b=>injection a with a;injection b with b;subst a b;exact r2.fr F
   | 3,a,b=>injection a with a;injection b with b;subst a b;exact r3.fr F
   | 4,a,b=>injection a with a;injection b with b;subst a b;rw [e4.2];exact h4'.fr G
   | 5,a,b=>injection a with a;injection b with b;subst a b;rw [e5.2];exact h5.fr G
   | 6,a,b=>injection a with a;injection b with b;subst a b;exact r6.fr F
   | 7,a,b=>injection a with a;injection b with b;subst a b;exact r7.fr F
   | j+8,a,_=>cases a
  have aFf:∀w∈cs9,oneCell w=true:=(r9 C fun k hk=> .inl hk).one;have hbs:∀K,aM 137 1 [zI,zI,zL,zL,zL,zL,zL,zF] [(0,8,.agg ⟨cs9⟩)] S3z K=K (.slice (some ⟨S3z.n,0,none⟩) 1 1) (S3z.new (.cells cs9 137 .exact)):=fun K=>AJ 137 (k:=8) rfl rfl (List.all_eq_true.2 aFf) S3z K;rw [fW hb3 (by simp [cs9])];show aM 137 1 _ [(0,8,.agg ⟨cs9⟩)] S3z _=true;rw [hbs];refine Acc.app (its:=aD) (bytes:=144) ha (x3.trans (.new S3z _)) q (Src.single aF rfl aFf) r9 (by kernel_rfl) (by rw [List.length_take];omega) fun S4 a' h1 h2 h3=>?_;rw [aP _ _ _ _ (by omega)];have q4:=x3.n;refine ih (i+1) m S4 a' (by omega) (by omega) ⟨by rw [kM]at h2;omega,fun k hk=>by rw [h1 k hk,aL (by omega)];exact(hx.trans x3).same k hk⟩ ?_;rw [List.take_succ_eq_append_getElem hlt];exact h3
theorem ZS (hM:2000000<most){n:Nat}{S0:St}{C:Nat->Prop}{v:Value}{es:List (List D)}{K:VK} (hC:∀i,C i->i<S0.n) (hv:Rd S0 C (.list aD) v (.l es)) (hle:es.length<=2000000)
 (hin:∀x∈es,(bT (ats x 4)).length<=2000000/\(bT (ats x 5)).length<=2000000) (hK:∀S' a,aZ S0 S'->Rd S' C (.list aD) a (.l es)->K a S'=true):(X most (n+1)).C jD [v] S0 K=true:=by
 rw [aT (by rfl),SL];unfold EQ;exact Bs hM hC hv hle hin hK es.length 0 _ S0 _ (Nat.zero_add _) (by rw [bP];omega) (.refl S0) (.inl ⟨rfl,by simp⟩)
variable{most:Nat}
theorem Kp{Sz:St}{i o n:Nat}{vs cs:List Value}{e:TypeId} (h:Sz.obj i=some (.cells vs e .exact)) (ho:o+n<=vs.length) (hn:cs.length=n) (h1:cs.all oneCell=true) (k:St->Bool):
 cQ n (pt i o) (.agg ⟨cs⟩) Sz k=k (Sz.set i (.cells (splice o cs vs) e .exact)):=by
 show(match allB oneCell cs with | true=>(mJ cs fun m=>match Nat.beq m n with | true=>eX Sz i o cs k | false=>false) | false=>false)=_;rw [jW,h1,cV,hn];simp only [show Nat.beq n n=true from Nat.beq_refl _];unfold eX;rw [iY h];show iA o cs vs (fun vs=>uG Sz i (.cells vs e .exact) k)=_;rw [gS,if_pos (by omega),jX]
theorem Gr{α:Type}{l:List α} (h:l.length=20):∃c0 c1 c2 c3 c4 c5 c6 c7 c8 c9 c10 c11 c12 c13 c14 c15 c16 c17 c18 c19:α,l=[c0,c1,c2,c3,c4,c5,c6,c7,c8,c9,c10,c11,c12,c13,c14,c15,c16,c17,c18,c19]:=by
 match l,h with
 | [c0,c1,c2,c3,c4,c5,c6,c7,c8,c9,c10,c11,c12,c13,c14,c15,c16,c17,c18,c19],_=>exact⟨_,_,_,_,_,_,_,_,_,_,_,_,_,_,_,_,_,_,_,_,rfl⟩
theorem aAg{α:Type}{l:List α} (h:l.length=30):∃c0 c1 c2 c3 c4 c5 c6 c7 c8 c9 c10 c11 c12 c13 c14 c15 c16 c17 c18 c19 c20 c21 QL c23 c24 c25 c26 c27 c28 c29:α,l=[c0,c1,c2,c3,c4,c5,c6,c7,c8,c9,c10,c11,c12,c13,c14,c15,c16,c17,c18,c19,c20,c21,QL,c23,c24,c25,c26,c27,c28,c29]:=by
 match l,h with
 | [c0,c1,c2,c3,c4,c5,c6,c7,c8,c9,c10,c11,c12,c13,c14,c15,c16,c17,c18,c19,c20,c21,QL,c23,c24,c25,c26,c27,c28,c29],_=>exact⟨_,_,_,_,_,_,_,_,_,_,_,_,_,_,_,_,_,_,_,_,_,_,_,_,_,_,_,_,_,_,rfl⟩
set_option maxRecDepth 100000 in
theorem Vc (hM:2000000<most){n:Nat}{Sz:St}{C:Nat->Prop}{cs:List Value}{ds:List D}{K:VK} (hC:∀i,C i->i<Sz.n) (h:lL Sz C bZ cs ds) (hl1:(bT (ats ds 17)).length<=2000000) (hl2:(bT (ats ds 18)).length<=2000000)
 (hK:∀S' cs',aZ Sz S'->lL S' C bZ cs' ds->K (.agg ⟨cs'⟩) S'=true):(X most (n+1)).C lR [.agg ⟨cs⟩] Sz K=true:=by
 rw [aT (by rfl),VT];unfold HE;have hdl:ds.length=20:=h.jK;have hone:=List.all_eq_true.2 h.one;obtain⟨c0,c1,c2,c3,c4,c5,c6,c7,c8,c9,c10,c11,c12,c13,c14,c15,c16,c17,c18,c19,rfl⟩:=Gr (show cs.length=20 from h.len);have r0:Rd Sz C (.int) c0 (ats ds 0):=by obtain⟨u,hu,hr⟩:=h.at (j:=0) (it:= .int) rfl;injection hu with hu;subst hu;exact hr
 have r1:Rd Sz C (.text) c1 (ats ds 1):=by obtain⟨u,hu,hr⟩:=h.at (j:=1) (it:= .text) rfl;injection hu with hu;subst hu;exact hr
 have r2:Rd Sz C (.is) c2 (ats ds 2):=by obtain⟨u,hu,hr⟩:=h.at (j:=2) (it:= .is) rfl;injection hu with hu;subst hu;exact hr
 have r3:Rd Sz C (.int) c3 (ats ds 3):=by obtain⟨u,hu,hr⟩:=h.at (j:=3) (it:= .int) rfl;injection hu with hu;subst hu;exact hr
 have r4:Rd Sz C (.int) c4 (ats ds 4):=by obtain⟨u,hu,hr⟩:=h.at (j:=4) (it:= .int) rfl;injection hu with hu;subst hu;exact hr
 have r5:Rd Sz C (.int) c5 (ats ds 5):=by obtain⟨u,hu,hr⟩:=h.at (j:=5) (it:= .int) rfl;injection hu with hu;subst hu;exact hr
 have r6:Rd Sz C (.int) c6 (ats ds 6):=by obtain⟨u,hu,hr⟩:=h.at (j:=6) (it:= .int) rfl;injection hu with hu;subst hu;exact hr
 have r7:Rd Sz C (.int) c7 (ats ds 7):=by obtain⟨u,hu,hr⟩:=h.at (j:=7) (it:= .int) rfl;injection hu with hu;subst hu;exact hr
 have r8:Rd Sz C (.int) c8 (ats ds 8):=by obtain⟨u,hu,hr⟩:=h.at (j:=8) (it:= .int) rfl;injection hu with hu;subst hu;exact hr
 have r9:Rd Sz C (.int) c9 (ats ds 9):=by obtain⟨u,hu,hr⟩:=h.at (j:=9) (it:= .int) rfl;injection hu with hu;subst hu;exact hr
 have r10:Rd Sz C (.text) c10 (ats ds 10):=by obtain⟨u,hu,hr⟩:=h.at (j:=10) (it:= .text) rfl;injection hu with hu;subst hu;exact hr
 have r11:Rd Sz C (.text) c11 (ats ds 11):=by obtain⟨u,hu,hr⟩:=h.at (j:=11) (it:= .text) rfl;injection hu with hu;subst hu;exact hr
 have r12:Rd Sz C (.int) c12 (ats ds 12):=by obtain⟨u,hu,hr⟩:=h.at (j:=12) (it:= .int) rfl;injection hu with hu;subst hu;exact hr
 have r13:Rd Sz C (.int) c13 (ats ds 13):=by obtain⟨u,hu,hr⟩:=h.at (j:=13) (it:= .int) rfl;injection hu with hu;subst hu;exact hr
 have r14:Rd Sz C (.is) c14 (ats ds 14):=by obtain⟨u,hu,hr⟩:=h.at (j:=14) (it:= .is) rfl;injection hu with hu;subst hu;exact hr
 have r15:Rd Sz C (.is) c15 (ats ds 15):=by obtain⟨u,hu,hr⟩:=h.at (j:=15) (it:= .is) rfl;injection hu with hu;subst hu;exact hr
 have r16:Rd Sz C (.text) c16 (ats ds 16):=by obtain⟨u,hu,hr⟩:=h.at (j:=16) (it:= .text) rfl;injection hu with hu;subst hu;exact hr
 have r17:Rd Sz C (.list aW) c17 (ats ds 17):=by obtain⟨u,hu,hr⟩:=h.at (j:=17) (it:= .list aW) rfl;injection hu with hu;subst hu;exact hr
 have r18:Rd Sz C (.list bC) c18 (ats ds 18):=by obtain⟨u,hu,hr⟩:=h.at (j:=18) (it:= .list bC) rfl;injection hu with hu;subst hu;exact hr
 have r19:Rd Sz C (.list aV) c19 (ats ds 19):=by obtain⟨u,hu,hr⟩:=h.at (j:=19) (it:= .list aV) rfl;injection hu with hu;subst hu;exact hr
 rw [eI hone,eB]
 let Sb:=(Sz.new (.cells [c0,c1,c2,c3,c4,c5,c6,c7,c8,c9,c10,c11,c12,c13,c14,c15,c16,c17,c18,c19] 29 .exact)).new (.cells [zI,zS,zF,zI,zI,zI,zI,zI,zI,zI,zS,zS,zI,zI,zF,zF,zS,zL,zL,zL] 45 .exact)
 have nb:Sb.n=Sz.n+2:=rfl;have ob0:Sb.obj Sz.n=some (.cells [c0,c1,c2,c3,c4,c5,c6,c7,c8,c9,c10,c11,c12,c13,c14,c15,c16,c17,c18,c19] 29 .exact):=by show((Sz.new _).new _).obj Sz.n=_;rw [aL (by rw [kM];omega),aF]
 have ob1:Sb.obj (Sz.n+1)=some (.cells [zI,zS,zF,zI,zI,zI,zI,zI,zI,zI,zS,zS,zI,zI,zF,zF,zS,zL,zL,zL] 45 .exact):=aF;have xb:aZ Sz Sb:=(aZ.new Sz _).trans (.new _ _);show(aC 3 (pt Sz.n 0) fun v2=>aR 15 v2 Sb _)=true;rw [aB,Nat.zero_add,fW ob0 (by simp)];have aFg:[c3,c4,c5,c6,c7,c8,c9,c10,c11,c12,c13,c14,c15,c16,c17].all oneCell=true:=by simp [r3.one,r4.one,r5.one,r6.one,r7.one,r8.one,r9.one,r10.one,r11.one,r12.one,r13.one,r14.one,r15.one,r16.one,r17.one]
 revert nb ob0 ob1 xb;show _->_->_->_->(cC [zI,zI,zI,zI,zI,zI,zI,zS,zS,zI,zI,zF,zF,zS,zL] 25 Sb _)=true;generalize Sb=Sb;intro nb ob0 ob1 xb;rw [eB];show cQ 15 (pt Sb.n 0) (.agg ⟨[c3,c4,c5,c6,c7,c8,c9,c10,c11,c12,c13,c14,c15,c16,c17]⟩) _ _=true;rw [kR (vs:=[zI,zI,zI,zI,zI,zI,zI,zS,zS,zI,zI,zF,zF,zS,zL]) (cs:=[c3,c4,c5,c6,c7,c8,c9,c10,c11,c12,c13,c14,c15,c16,c17]) aF rfl aFg 15 rfl];generalize hSc:(Sb.new (.cells [zI,zI,zI,zI,zI,zI,zI,zS,zS,zI,zI,zF,zF,zS,zL] 25 .exact)).set Sb.n (.cells [c3,c4,c5,c6,c7,c8,c9,c10,c11,c12,c13,c14,c15,c16,c17] 25 .exact)=Sc;have nc:Sc.n=Sz.n+3:=by rw [<-hSc];show Sb.n+1=_;omega
 have xc:aZ Sb Sc:=⟨by omega,fun k hk=>by rw [<-hSc,aJ (by omega),aL (by omega)]⟩;have oc0:=(xc.same Sz.n (by omega)).trans ob0;have oc1:=(xc.same (Sz.n+1) (by omega)).trans ob1;have oc2:Sc.obj Sb.n=some (.cells [c3,c4,c5,c6,c7,c8,c9,c10,c11,c12,c13,c14,c15,c16,c17] 25 .exact):=by rw [<-hSc];exact aX
 rw [nb]at oc2
 have hb1:∀K,dK [zI,zS,zF,zI,zI,zI,zI,zI,zI,zI,zS,zS,zI,zI,zF,zF,zS,zL,zL,zL] [(0,1,c0),(1,1,c1),(2,1,c2),(19,1,c19)] K=K (.agg ⟨[c0,c1,c2,zI,zI,zI,zI,zI,zI,zI,zS,zS,zI,zI,zF,zF,zS,zL,zL,c19]⟩):=fun K=>by
  rw [bF r0.one (by simp),bF r1.one (by simp),bF r2.one (by simp),bF r19.one (by simp),dR];rfl
 have hb2:∀K,dK [zI,zI,zI,zI,zI,zI,zI,zS,zS,zI,zI,zF,zF,zS,zL] [(0,1,c3),(1,1,c4),(2,1,c5),(3,1,c6),(4,1,c7),(5,1,c8),(6,1,c9),(7,1,c10),(8,1,c11),(9,1,c12),(10,1,c13),(11,1,c14),(12,1,c15),(13,1,c16)] K=K (.agg ⟨[c3,c4,c5,c6,c7,c8,c9,c10,c11,c12,c13,c14,c15,c16,zL]⟩):=fun K=>by
  rw [bF r3.one (by simp),bF r4.one (by simp),bF r5.one (by simp),bF r6.one (by simp),bF r7.one (by simp),bF r8.one (by simp),bF r9.one (by simp),bF r10.one (by simp),bF r11.one (by simp),bF r12.one (by simp),bF r13.one (by simp),bF r14.one (by simp),bF r15.one (by simp),bF r16.one (by simp),dR];rfl
 simp only [aB,Nat.zero_add,nb];rw [cB oc0 (v:=c0) rfl,cB oc0 (v:=c1) rfl,cB oc0 (v:=c2) rfl,cB oc0 (v:=c19) rfl,hb1,eB];have aGZ:[c0,c1,c2,zI,zI,zI,zI,zI,zI,zI,zS,zS,zI,zI,zF,zF,zS,zL,zL,c19].all oneCell=true:=by simp [r0.one,r1.one,r2.one,r19.one];decide
 rw [kR (vs:=[zI,zS,zF,zI,zI,zI,zI,zI,zI,zI,zS,zS,zI,zI,zF,zF,zS,zL,zL,zL]) (cs:=[c0,c1,c2,zI,zI,zI,zI,zI,zI,zI,zS,zS,zI,zI,zF,zF,zS,zL,zL,c19]) aF rfl aGZ 20 rfl];generalize hSd:(Sc.new (.cells [zI,zS,zF,zI,zI,zI,zI,zI,zI,zI,zS,zS,zI,zI,zF,zF,zS,zL,zL,zL] 45 .exact)).set Sc.n (.cells [c0,c1,c2,zI,zI,zI,zI,zI,zI,zI,zS,zS,zI,zI,zF,zF,zS,zL,zL,c19] 45 .exact)=Sd;have nd:Sd.n=Sz.n+4:=by rw [<-hSd];show Sc.n+1=_;omega
 have xd:aZ Sc Sd:=⟨by omega,fun k hk=>by rw [<-hSd,aJ (by omega),aL (by omega)]⟩;have od0:=(xd.same Sz.n (by omega)).trans oc0;have od1:=(xd.same (Sz.n+1) (by omega)).trans oc1;have Oi:=(xd.same (Sz.n+2) (by omega)).trans oc2;have od3:Sd.obj Sc.n=some (.cells [c0,c1,c2,zI,zI,zI,zI,zI,zI,zI,zS,zS,zI,zI,zF,zF,zS,zL,zL,c19] 45 .exact):=by rw [<-hSd];exact aX
 rw [nc]at od3;simp only [nc];rw [cB Oi (v:=c3) rfl,cB Oi (v:=c4) rfl,cB Oi (v:=c5) rfl,cB Oi (v:=c6) rfl,cB Oi (v:=c7) rfl,cB Oi (v:=c8) rfl,cB Oi (v:=c9) rfl,cB Oi (v:=c10) rfl,cB Oi (v:=c11) rfl,cB Oi (v:=c12) rfl,cB Oi (v:=c13) rfl,cB Oi (v:=c14) rfl,cB Oi (v:=c15) rfl,cB Oi (v:=c16) rfl,hb2,aB,Nat.zero_add];have aFh:[c3,c4,c5,c6,c7,c8,c9,c10,c11,c12,c13,c14,c15,c16,zL].all oneCell=true:=by simp [r3.one,r4.one,r5.one,r6.one,r7.one,r8.one,r9.one,r10.one,r11.one,r12.one,r13.one,r14.one,r15.one,r16.one];decide
 rw [Kp (o:=3) (n:=15) od3 (by simp) rfl aFh];generalize hSe:Sd.set (Sz.n+3) (.cells (splice 3 [c3,c4,c5,c6,c7,c8,c9,c10,c11,c12,c13,c14,c15,c16,zL] [c0,c1,c2,zI,zI,zI,zI,zI,zI,zI,zS,zS,zI,zI,zF,zF,zS,zL,zL,c19]) 45 .exact)=Se;have ne:Se.n=Sz.n+4:=by rw [<-hSe];exact nd
 have oe0:Se.obj Sz.n=some (.cells [c0,c1,c2,c3,c4,c5,c6,c7,c8,c9,c10,c11,c12,c13,c14,c15,c16,c17,c18,c19] 29 .exact):=by rw [<-hSe,aJ (by omega)];exact od0
 have oe1:Se.obj (Sz.n+1)=some (.cells [zI,zS,zF,zI,zI,zI,zI,zI,zI,zI,zS,zS,zI,zI,zF,zF,zS,zL,zL,zL] 45 .exact):=by rw [<-hSe,aJ (by omega)];exact od1
 have oe2:Se.obj (Sz.n+2)=some (.cells [c3,c4,c5,c6,c7,c8,c9,c10,c11,c12,c13,c14,c15,c16,c17] 25 .exact):=by rw [<-hSe,aJ (by omega)];exact Oi
 have oe3:Se.obj (Sz.n+3)=some (.cells ([c0,c1,c2,c3,c4,c5,c6,c7,c8,c9,c10,c11,c12,c13,c14,c15,c16,zL,zL,c19].set 17 zL) 45 .exact):=by rw [<-hSe,aX];rfl
 have xe:aZ Sz Se:=⟨by omega,fun k hk=>by rw [<-hSe,aJ (by omega),xd.same k (by omega),xc.same k (by omega)];exact xb.same k hk⟩
 let C1:Nat->Prop:=fun k=>k=Sz.n+3\/k=Sz.n+1\/C k
 have Dk:C1 (Sz.n+3):= .inl rfl
 have hC1:∀k,C1 k->k<Se.n:=fun k hk=>by
  rcases hk with h | h | h
  ·omega
  ·omega
  ·have:=hC k h;omega
 have F1:∀{S':St},aZ Sz S'->cM C Sz S' C1:=fun hx=>⟨hx.n,fun k hk _=>hx.same k hk,fun k hk=>by
  rcases hk with h | h | h
  ·exact .inr (by omega)
  ·exact .inr (by omega)
  ·exact .inl h⟩
 have e17:=r17.GJ;have e18:=r18.GJ;refine Br (n:=n) (S1z:=Se) (C:=C1) (p1:=Sz.n+2) (b:=Sz.n+3) (cs:=[c0,c1,c2,c3,c4,c5,c6,c7,c8,c9,c10,c11,c12,c13,c14,c15,c16,zL,zL,c19]) (ws:=[]) (tw:=0) Dk hC1 (e17.1.fr (F1 xe)) (fun S' f K=>cB (by rw [f.same (Sz.n+2) (by omega) (by show ¬(Sz.n+2=Sz.n+3);omega)];exact oe2) rfl K) (by simp) hl1 (fun S2z a2 f2 hb2 h2=>?_) _ 0 _ Se zL (Nat.zero_add _) (by rw [bP];omega) (.refl _ _) oe3 (.inl ⟨rfl,by simp⟩);have q2:=f2.n;have x2:aZ Sz S2z:=f2.ext xe fun k hk=>by rw [show k=Sz.n+3 from hk];omega
 refine Gq (n:=n) (S1z:=S2z) (C:=C1) (p1:=Sz.n) (b:=Sz.n+3) (cs:=[c0,c1,c2,c3,c4,c5,c6,c7,c8,c9,c10,c11,c12,c13,c14,c15,c16,zL,zL,c19].set 17 a2) (ws:=[]) (tw:=0) Dk (fun k hk=>by have:=hC1 k hk;omega) (e18.1.fr (F1 x2)) (fun S' f K=>cB (by rw [f.same Sz.n (by omega) (by show ¬(Sz.n=Sz.n+3);omega),f2.same Sz.n (by omega) (by show ¬(Sz.n=Sz.n+3);omega)];exact oe0) rfl K) (by simp) hl2 (fun S3z a3 f3 hb3 h3=>?_) _ 0 _ S2z zL (Nat.zero_add _) (by rw [bP];omega) (.refl _ _) hb2 (.inl ⟨rfl,by simp⟩);have q3:=f3.n;have x3:aZ Sz S3z:=f3.ext x2 fun k hk=>by rw [show k=Sz.n+3 from hk];omega
 have h2':Rd S3z C1 (.list aW) a2 (.l (bT (ats ds 17))):=h2.fr (f3.up fun k hk=>by rw [show k=Sz.n+3 from hk];exact Dk);have hb3:S3z.obj (Sz.n+3)=some (.cells [c0,c1,c2,c3,c4,c5,c6,c7,c8,c9,c10,c11,c12,c13,c14,c15,c16,a2,a3,c19] 45 .exact):=hb3;have o31:S3z.obj (Sz.n+1)=some (.cells [zI,zS,zF,zI,zI,zI,zI,zI,zI,zI,zS,zS,zI,zI,zF,zF,zS,zL,zL,zL] 45 .exact):=by rw [f3.same _ (by omega) (by show ¬(Sz.n+1=Sz.n+3);omega),f2.same _ (by omega) (by show ¬(Sz.n+1=Sz.n+3);omega)];exact oe1
 rw [fW hb3 (by simp)];show cQ 20 (pt (Sz.n+1) 0) (.agg ⟨[c0,c1,c2,c3,c4,c5,c6,c7,c8,c9,c10,c11,c12,c13,c14,c15,c16,a2,a3,c19]⟩) S3z _=true;have aB9:[c0,c1,c2,c3,c4,c5,c6,c7,c8,c9,c10,c11,c12,c13,c14,c15,c16,a2,a3,c19].all oneCell=true:=by simp [r0.one,r1.one,r2.one,r3.one,r4.one,r5.one,r6.one,r7.one,r8.one,r9.one,r10.one,r11.one,r12.one,r13.one,r14.one,r15.one,r16.one,r19.one,h2.one,h3.one]
 rw [kR (vs:=[zI,zS,zF,zI,zI,zI,zI,zI,zI,zI,zS,zS,zI,zI,zF,zF,zS,zL,zL,zL]) (cs:=[c0,c1,c2,c3,c4,c5,c6,c7,c8,c9,c10,c11,c12,c13,c14,c15,c16,a2,a3,c19]) o31 rfl aB9 20 rfl];show aR 20 (pt (Sz.n+1) 0) _ _=true;rw [fW aX (by simp)];have x4:aZ Sz (S3z.set (Sz.n+1) (.cells [c0,c1,c2,c3,c4,c5,c6,c7,c8,c9,c10,c11,c12,c13,c14,c15,c16,a2,a3,c19] 45 .exact)):=⟨x3.n,fun k hk=>by rw [aJ (by omega)];exact x3.same k hk⟩;have F4:cM C Sz (S3z.set (Sz.n+1) (.cells [c0,c1,c2,c3,c4,c5,c6,c7,c8,c9,c10,c11,c12,c13,c14,c15,c16,a2,a3,c19] 45 .exact)) C:=x4.fr C;have G4:cM C1 S3z (S3z.set (Sz.n+1) (.cells [c0,c1,c2,c3,c4,c5,c6,c7,c8,c9,c10,c11,c12,c13,c14,c15,c16,a2,a3,c19] 45 .exact)) C:=⟨Nat.le_refl _,fun k hk hc=>aJ fun e=>hc (.inr (.inl e)),fun k hk=> .inl (.inr (.inr hk))⟩;refine hK _ [c0,c1,c2,c3,c4,c5,c6,c7,c8,c9,c10,c11,c12,c13,c14,c15,c16,a2,a3,c19] x4 (lL.of rfl hdl fun j it u a b=>?_)
 match j,a,b with
 | 0,a,b=>injection a with a;injection b with b;subst a b;exact r0.fr F4
 | 1,a,b=>injection a with a;injection b with b;subst a b;exact r1.fr F4
 | 2,a,b=>injection a with a;injection b with b;subst a b;exact r2.fr F4
 | 3,a,b=>injection a with a;injection b with b;subst a b;exact r3.fr F4
 | 4,a,b=>injection a with a;injection b with b;subst a b;exact r4.fr F4
 | 5,a,b=>injection a with a;injection b with b;subst a b;exact r5.fr F4
 | 6,a,b=>injection a with a;injection b with b;subst a b;exact r6.fr F4
 | 7,a,b=>injection a with a;injection b with b;subst a b;exact r7.fr F4
 | 8,a,b=>injection a with a;injection b with b;subst a b;exact r8.fr F4
 | 9,a,b=>injection a with a;injection b with b;subst a b;exact r9.fr F4
 | 10,a,b=>injection a with a;injection b with b;subst a b;exact r10.fr F4
 | 11,a,b=>injection a with a;injection b with b;subst a b;exact r11.fr F4
 | 12,a,b=>injection a with a;injection b with b;subst a b;exact r12.fr F4
 | 13,a,b=>injection a with a;injection b with b;subst a b;exact r13.fr F4
 | 14,a,b=>injection a with a;injection b with b;subst a b;exact r14.fr F4
 | 15,a,b=>injection a with a;injection b with b;subst a b;exact r15.fr F4
 | 16,a,b=>injection a with a;injection b with b;subst a b;exact r16.fr F4
 | 17,a,b=>injection a with a;injection b with b;subst a b;exact by rw [e17.2];exact h2'.fr G4
 | 18,a,b=>injection a with a;injection b with b;subst a b;exact by rw [e18.2];exact h3.fr G4
 | 19,a,b=>injection a with a;injection b with b;subst a b;exact r19.fr F4
 | j+20,a,_=>cases a
structure Rq (ds:List D):Prop where
 l19:(bT (ats ds 19)).length<=2000000
 l20:(bT (ats ds 20)).length<=2000000
 l26:(bT (ats ds 26)).length<=2000000
 i26:∀x∈bT (ats ds 26),(bT (ats x 4)).length<=2000000/\(bT (ats x 5)).length<=2000000
 l27:(bT (ats ds 27)).length<=2000000
 l29:(bT (ats ds 29)).length<=2000000
 i29:∀x∈bT (ats ds 29),(bT (ats x 4)).length<=2000000/\(bT (ats x 5)).length<=2000000
set_option maxRecDepth 100000 in
theorem Gs (hM:2000000<most){n:Nat}{Sz:St}{C:Nat->Prop}{cs:List Value}{ds:List D}{K:VK} (hC:∀i,C i->i<Sz.n) (h:lL Sz C bN cs ds) (hB:Rq ds)
 (hK:∀S' cs',aZ Sz S'->lL S' C bN cs' ds->K (.agg ⟨cs'⟩) S'=true):(X most (n+2)).C pC [.agg ⟨cs⟩] Sz K=true:=by
 rw [aT (by rfl),Gt];unfold QM;have hdl:ds.length=30:=h.jK;have hone:=List.all_eq_true.2 h.one;obtain⟨c0,c1,c2,c3,c4,c5,c6,c7,c8,c9,c10,c11,c12,c13,c14,c15,c16,c17,c18,c19,c20,c21,QL,c23,c24,c25,c26,c27,c28,c29,rfl⟩:=aAg (show cs.length=30 from h.len);have r0:Rd Sz C (.int) c0 (ats ds 0):=by obtain⟨u,hu,hr⟩:=h.at (j:=0) (it:= .int) rfl;injection hu with hu;subst hu;exact hr
 have r1:Rd Sz C (.list bA) c1 (ats ds 1):=by obtain⟨u,hu,hr⟩:=h.at (j:=1) (it:= .list bA) rfl;injection hu with hu;subst hu;exact hr
 have r2:Rd Sz C (.int) c2 (ats ds 2):=by obtain⟨u,hu,hr⟩:=h.at (j:=2) (it:= .int) rfl;injection hu with hu;subst hu;exact hr
 have r3:Rd Sz C (.text) c3 (ats ds 3):=by obtain⟨u,hu,hr⟩:=h.at (j:=3) (it:= .text) rfl;injection hu with hu;subst hu;exact hr
 have r4:Rd Sz C (.is) c4 (ats ds 4):=by obtain⟨u,hu,hr⟩:=h.at (j:=4) (it:= .is) rfl;injection hu with hu;subst hu;exact hr
 have r5:Rd Sz C (.int) c5 (ats ds 5):=by obtain⟨u,hu,hr⟩:=h.at (j:=5) (it:= .int) rfl;injection hu with hu;subst hu;exact hr
 have r6:Rd Sz C (.int) c6 (ats ds 6):=by obtain⟨u,hu,hr⟩:=h.at (j:=6) (it:= .int) rfl;injection hu with hu;subst hu;exact hr
 have r7:Rd Sz C (.int) c7 (ats ds 7):=by obtain⟨u,hu,hr⟩:=h.at (j:=7) (it:= .int) rfl;injection hu with hu;subst hu;exact hr
 have r8:Rd Sz C (.int) c8 (ats ds 8):=by obtain⟨u,hu,hr⟩:=h.at (j:=8) (it:= .int) rfl;injection hu with hu;subst hu;exact hr
 have r9:Rd Sz C (.int) c9 (ats ds 9):=by obtain⟨u,hu,hr⟩:=h.at (j:=9) (it:= .int) rfl;injection hu with hu;subst hu;exact hr
 have r10:Rd Sz C (.int) c10 (ats ds 10):=by obtain⟨u,hu,hr⟩:=h.at (j:=10) (it:= .int) rfl;injection hu with hu;subst hu;exact hr
 have r11:Rd Sz C (.int) c11 (ats ds 11):=by obtain⟨u,hu,hr⟩:=h.at (j:=11) (it:= .int) rfl;injection hu with hu;subst hu;exact hr
 have r12:Rd Sz C (.text) c12 (ats ds 12):=by obtain⟨u,hu,hr⟩:=h.at (j:=12) (it:= .text) rfl;injection hu with hu;subst hu;exact hr
 have r13:Rd Sz C (.text) c13 (ats ds 13):=by obtain⟨u,hu,hr⟩:=h.at (j:=13) (it:= .text) rfl;injection hu with hu;subst hu;exact hr
 have r14:Rd Sz C (.int) c14 (ats ds 14):=by obtain⟨u,hu,hr⟩:=h.at (j:=14) (it:= .int) rfl;injection hu with hu;subst hu;exact hr
 have r15:Rd Sz C (.int) c15 (ats ds 15):=by obtain⟨u,hu,hr⟩:=h.at (j:=15) (it:= .int) rfl;injection hu with hu;subst hu;exact hr
 have r16:Rd Sz C (.is) c16 (ats ds 16):=by obtain⟨u,hu,hr⟩:=h.at (j:=16) (it:= .is) rfl;injection hu with hu;subst hu;exact hr
 have r17:Rd Sz C (.is) c17 (ats ds 17):=by obtain⟨u,hu,hr⟩:=h.at (j:=17) (it:= .is) rfl;injection hu with hu;subst hu;exact hr
 have r18:Rd Sz C (.text) c18 (ats ds 18):=by obtain⟨u,hu,hr⟩:=h.at (j:=18) (it:= .text) rfl;injection hu with hu;subst hu;exact hr
 have r19:Rd Sz C (.list aW) c19 (ats ds 19):=by obtain⟨u,hu,hr⟩:=h.at (j:=19) (it:= .list aW) rfl;injection hu with hu;subst hu;exact hr
 have r20:Rd Sz C (.list bC) c20 (ats ds 20):=by obtain⟨u,hu,hr⟩:=h.at (j:=20) (it:= .list bC) rfl;injection hu with hu;subst hu;exact hr
 have r21:Rd Sz C (.list aV) c21 (ats ds 21):=by obtain⟨u,hu,hr⟩:=h.at (j:=21) (it:= .list aV) rfl;injection hu with hu;subst hu;exact hr
 have r22:Rd Sz C (.list bA) QL (ats ds 22):=by obtain⟨u,hu,hr⟩:=h.at (j:=22) (it:= .list bA) rfl;injection hu with hu;subst hu;exact hr
 have r23:Rd Sz C (.list aY) c23 (ats ds 23):=by obtain⟨u,hu,hr⟩:=h.at (j:=23) (it:= .list aY) rfl;injection hu with hu;subst hu;exact hr
 have r24:Rd Sz C (.list aY) c24 (ats ds 24):=by obtain⟨u,hu,hr⟩:=h.at (j:=24) (it:= .list aY) rfl;injection hu with hu;subst hu;exact hr
 have r25:Rd Sz C (.is) c25 (ats ds 25):=by obtain⟨u,hu,hr⟩:=h.at (j:=25) (it:= .is) rfl;injection hu with hu;subst hu;exact hr
 have r26:Rd Sz C (.list aD) c26 (ats ds 26):=by obtain⟨u,hu,hr⟩:=h.at (j:=26) (it:= .list aD) rfl;injection hu with hu;subst hu;exact hr
 have r27:Rd Sz C (.list bE) c27 (ats ds 27):=by obtain⟨u,hu,hr⟩:=h.at (j:=27) (it:= .list bE) rfl;injection hu with hu;subst hu;exact hr
 have r28:Rd Sz C (.list aV) c28 (ats ds 28):=by obtain⟨u,hu,hr⟩:=h.at (j:=28) (it:= .list aV) rfl;injection hu with hu;subst hu;exact hr
 have r29:Rd Sz C (.list aD) c29 (ats ds 29):=by obtain⟨u,hu,hr⟩:=h.at (j:=29) (it:= .list aD) rfl;injection hu with hu;subst hu;exact hr
 have hm:lL Sz C bZ [c2,c3,c4,c5,c6,c7,c8,c9,c10,c11,c12,c13,c14,c15,c16,c17,c18,c19,c20,c21] ((ds.drop 2).take 20):=by
  refine lL.of rfl (by rw [List.length_take,List.length_drop];show min 20 (ds.length-2)=20;omega) fun j it u a b=>?_
  match j,a,b with
  | 0,a,b=>injection a with a;injection b with b;subst a b;rw [bV _ _ _ _ (by omega)];exact r2
  | 1,a,b=>injection a with a;injection b with b;subst a b;rw [bV _ _ _ _ (by omega)];exact r3
  | 2,a,b=>injection a with a;injection b with b;subst a b;rw [bV _ _ _ _ (by omega)];exact r4
  | 3,a,b=>injection a with a;injection b with b;subst a b;rw [bV _ _ _ _ (by omega)];exact r5
  | 4,a,b=>injection a with a;injection b with b;subst a b;rw [bV _ _ _ _ (by omega)];exact r6
  | 5,a,b=>injection a with a;injection b with b;subst a b;rw [bV _ _ _ _ (by omega)];exact r7
  | 6,a,b=>injection a with a;injection b with b;subst a b;rw [bV _ _ _ _ (by omega)];exact r8
  | 7,a,b=>injection a with a;injection b with b;subst a b;rw [bV _ _ _ _ (by omega)];exact r9
  | 8,a,b=>injection a with a;injection b with b;subst a b;rw [bV _ _ _ _ (by omega)];exact r10
  | 9,a,b=>injection a with a;injection b with b;subst a b;rw [bV _ _ _ _ (by omega)];exact r11
  | 10,a,b=>injection a with a;injection b with b;subst a b;rw [bV _ _ _ _ (by omega)];exact r12
  | 11,a,b=>injection a with a;injection b with b;subst a b;rw [bV _ _ _ _ (by omega)];exact r13
  | 12,a,b=>injection a with a;injection b with b;subst a b;rw [bV _ _ _ _ (by omega)];exact r14
  | 13,a,b=>injection a with a;injection b with b;subst a b;rw [bV _ _ _ _ (by omega)];exact r15
  | 14,a,b=>injection a with a;injection b with b;subst a b;rw [bV _ _ _ _ (by omega)];exact r16
  | 15,a,b=>injection a with a;injection b with b;subst a b;rw [bV _ _ _ _ (by omega)];exact r17
  | 16,a,b=>injection a with a;injection b with b;subst a b;rw [bV _ _ _ _ (by omega)];exact r18
  | 17,a,b=>injection a with a;injection b with b;subst a b;rw [bV _ _ _ _ (by omega)];exact r19
  | 18,a,b=>injection a with a;injection b with b;subst a b;rw [bV _ _ _ _ (by omega)];exact r20
  | 19,a,b=>injection a with a;injection b with b;subst a b;rw [bV _ _ _ _ (by omega)];exact r21
  | j+20,a,_=>cases a
 have sm:=hm.gF;have s0:=r0.pB;have s1:=r1.pB;have s22:=r22.pB;have s23:=r23.pB;have s24:=r24.pB;have s25:=r25.pB;have s26:=r26.pB;have s28:=r28.pB;have s29:=r29.pB;rw [eI hone,eB]
 let Sb:=(Sz.new (.cells [c0,c1,c2,c3,c4,c5,c6,c7,c8,c9,c10,c11,c12,c13,c14,c15,c16,c17,c18,c19,c20,c21,QL,c23,c24,c25,c26,c27,c28,c29] 34 .exact)).new (.cells [zI,zL,zI,zS,zF,zI,zI,zI,zI,zI,zI,zI,zS,zS,zI,zI,zF,zF,zS,zL,zL,zL,zL,zL,zL,zF,zL,zL,zL,zL] 49 .exact)
 have nb:Sb.n=Sz.n+2:=rfl;have ob0:Sb.obj Sz.n=some (.cells [c0,c1,c2,c3,c4,c5,c6,c7,c8,c9,c10,c11,c12,c13,c14,c15,c16,c17,c18,c19,c20,c21,QL,c23,c24,c25,c26,c27,c28,c29] 34 .exact):=by show((Sz.new _).new _).obj Sz.n=_;rw [aL (by rw [kM];omega),aF]
 have ob1:Sb.obj (Sz.n+1)=some (.cells [zI,zL,zI,zS,zF,zI,zI,zI,zI,zI,zI,zI,zS,zS,zI,zI,zF,zF,zS,zL,zL,zL,zL,zL,zL,zF,zL,zL,zL,zL] 49 .exact):=aF;have xb:aZ Sz Sb:=(aZ.new Sz _).trans (.new _ _)
 have ld:∀S':St,S'.obj Sz.n=some (.cells [c0,c1,c2,c3,c4,c5,c6,c7,c8,c9,c10,c11,c12,c13,c14,c15,c16,c17,c18,c19,c20,c21,QL,c23,c24,c25,c26,c27,c28,c29] 34 .exact)->∀K,aN (pt Sz.n 0) S' K=K c0 S'/\aN (pt Sz.n 1) S' K=K c1 S'/\aN (pt Sz.n 22) S' K=K QL S'/\aN (pt Sz.n 23) S' K=K c23 S'/\aN (pt Sz.n 24) S' K=K c24 S'/\aN (pt Sz.n 25) S' K=K c25 S'/\aN (pt Sz.n 26) S' K=K c26 S'/\aN (pt Sz.n 28) S' K=K c28 S'/\aN (pt Sz.n 29) S' K=K c29 S'/\aR 20 (pt Sz.n 2) S' K=K (.agg ⟨[c2,c3,c4,c5,c6,c7,c8,c9,c10,c11,c12,c13,c14,c15,c16,c17,c18,c19,c20,c21]⟩) S':=fun S' o K=>
  ⟨cB o rfl K,cB o rfl K,cB o rfl K,cB o rfl K,cB o rfl K,cB o rfl K,cB o rfl K,cB o rfl K,cB o rfl K,fW o (by simp) K⟩
 show(aC 0 (pt Sz.n 0) fun v2=>aN v2 Sb _)=true;have L1:=ld Sb ob0;simp only [aB,Nat.zero_add,L1,aQ s0,aQ s1,aQ s22,aQ s23,aQ s24,aQ s25,aQ s26,aQ s28,aQ s29,aQ sm];show(cR (cC [zI,zL,zI,zS,zF,zI,zI,zI,zI,zI,zI,zI,zS,zS,zI,zI,zF,zF,zS,zL,zL,zL,zL,zL,zL,zF,zL,zL,zL,zL] 49 Sb _) (_) false)=true;rw [eB,fX];revert nb ob0 ob1 xb;show _->_->_->_->((X most (n+1)).C lR [.agg ⟨[c2,c3,c4,c5,c6,c7,c8,c9,c10,c11,c12,c13,c14,c15,c16,c17,c18,c19,c20,c21]⟩] Sb _)=true;clear L1;generalize Sb=Sb;intro nb ob0 ob1 xb
 let C0:Nat->Prop:=fun k=>k=Sz.n+1\/C k
 have hC1:∀k,C0 k->k<Sz.n+2:=fun k hk=>by
  rcases hk with h | h
  ·omega
  ·have:=hC k h;omega
 have F0:∀{S':St},aZ Sz S'->cM C Sz S' C0:=fun hx=>⟨hx.n,fun k hk _=>hx.same k hk,fun k hk=>by
  rcases hk with h | h
  ·exact .inr (by omega)
  ·exact .inl h⟩
 refine Vc (n:=n) (C:=C0) hM (fun k hk=>by have:=hC1 k hk;omega) (hm.fr (F0 xb)) (by rw [bV _ _ _ _ (by omega)];exact hB.l19) (by rw [bV _ _ _ _ (by omega)];exact hB.l20) fun S2z ws x2 hw=>?_;have q2:=x2.n;have o20:=(x2.same Sz.n (by omega)).trans ob0;have L2:=ld S2z o20;simp only [L2,aQ s0,aQ s1,aQ s22,aQ s23,aQ s24,aQ s25,aQ s26,aQ s28,aQ s29];show(cR (cC [zI,zL,zI,zS,zF,zI,zI,zI,zI,zI,zI,zI,zS,zS,zI,zI,zF,zF,zS,zL,zL,zL,zL,zL,zL,zF,zL,zL,zL,zL] 49 S2z _) (_) false)=true;rw [eB,fX];have e26:=r26.GJ;have e27:=r27.GJ;have e29:=r29.GJ;refine ZS (n:=n) (C:=C0) hM (fun k hk=>by have:=hC1 k hk;omega) (e26.1.fr (F0 (xb.trans x2))) hB.l26 hB.i26 fun S3z a26 x3 Oj=>?_;have q3:=x3.n;have o30:=(x3.same Sz.n (by omega)).trans o20;have L3:=ld S3z o30;simp only [L3,aQ s0,aQ s1,aQ s22,aQ s23,aQ s24,aQ s25,aQ s28,aQ s29];show(cR (cC [zI,zL,zI,zS,zF,zI,zI,zI,zI,zI,zI,zI,zS,zS,zI,zI,zF,zF,zS,zL,zL,zL,zL,zL,zL,zF,zL,zL,zL,zL] 49 S3z _) (_) false)=true;rw [eB,fX];refine ZS (n:=n) (C:=C0) hM (fun k hk=>by have:=hC1 k hk;omega) (e29.1.fr (F0 ((xb.trans x2).trans x3))) hB.l29 hB.i29 fun S4 a29 x4 Ok=>?_;have q4:=x4.n;have o40:=(x4.same Sz.n (by omega)).trans o30;have o41:S4.obj (Sz.n+1)=some (.cells [zI,zL,zI,zS,zF,zI,zI,zI,zI,zI,zI,zI,zS,zS,zI,zI,zF,zF,zS,zL,zL,zL,zL,zL,zL,zF,zL,zL,zL,zL] 49 .exact):=by rw [x4.same _ (by omega),x3.same _ (by omega),x2.same _ (by omega)];exact ob1
 have xt:aZ Sz S4:=((xb.trans x2).trans x3).trans x4;have aFi:=List.all_eq_true.2 hw.one;obtain⟨w0,w1,w2,w3,w4,w5,w6,w7,w8,w9,w10,JZ,w12,HA,RJ,VU,w16,ZT,WW,WX,rfl⟩:=Gr (show ws.length=20 from hw.len)
 have hbd:∀K,dK [zI,zL,zI,zS,zF,zI,zI,zI,zI,zI,zI,zI,zS,zS,zI,zI,zF,zF,zS,zL,zL,zL,zL,zL,zL,zF,zL,zL,zL,zL] [(0,1,c0),(1,1,c1),(2,20,.agg ⟨[w0,w1,w2,w3,w4,w5,w6,w7,w8,w9,w10,JZ,w12,HA,RJ,VU,w16,ZT,WW,WX]⟩),(22,1,QL),(23,1,c23),(24,1,c24),(25,1,c25),(26,1,a26),(28,1,c28),(29,1,a29)] K=K (.agg ⟨[c0,c1,w0,w1,w2,w3,w4,w5,w6,w7,w8,w9,w10,JZ,w12,HA,RJ,VU,w16,ZT,WW,WX,QL,c23,c24,c25,a26,zL,c28,a29]⟩):=fun K=>by
  rw [bF r0.one (by simp),bF r1.one (by simp),Oh (n:=20) aFi rfl (by simp)];rw [show splice 2 [w0,w1,w2,w3,w4,w5,w6,w7,w8,w9,w10,JZ,w12,HA,RJ,VU,w16,ZT,WW,WX] (([zI,zL,zI,zS,zF,zI,zI,zI,zI,zI,zI,zI,zS,zS,zI,zI,zF,zF,zS,zL,zL,zL,zL,zL,zL,zF,zL,zL,zL,zL].set 0 c0).set 1 c1)=[c0,c1,w0,w1,w2,w3,w4,w5,w6,w7,w8,w9,w10,JZ,w12,HA,RJ,VU,w16,ZT,WW,WX,zL,zL,zL,zF,zL,zL,zL,zL]from rfl];rw [bF r22.one (by simp),bF r23.one (by simp),bF r24.one (by simp),bF r25.one (by simp),bF Oj.one (by simp),bF r28.one (by simp),bF Ok.one (by simp),dR];rfl
 have L4:=ld S4 o40;simp only [L4,aQ s0,aQ s1,aQ s22,aQ s23,aQ s24,aQ s25,aQ s28,hbd];show(cR (cC [zI,zL,zI,zS,zF,zI,zI,zI,zI,zI,zI,zI,zS,zS,zI,zI,zF,zF,zS,zL,zL,zL,zL,zL,zL,zF,zL,zL,zL,zL] 49 S4 _) (_) false)=true;rw [eB,fX];rw [eB];have aG0:∀v∈[w0,w1,w2,w3,w4,w5,w6,w7,w8,w9,w10,JZ,w12,HA,RJ,VU,w16,ZT,WW,WX],oneCell v=true:=hw.one
 have aB9:[c0,c1,w0,w1,w2,w3,w4,w5,w6,w7,w8,w9,w10,JZ,w12,HA,RJ,VU,w16,ZT,WW,WX,QL,c23,c24,c25,a26,zL,c28,a29].all oneCell=true:=by
  refine List.all_eq_true.2 fun v hv=>?_
  have:v∈[c0,c1]\/v∈[w0,w1,w2,w3,w4,w5,w6,w7,w8,w9,w10,JZ,w12,HA,RJ,VU,w16,ZT,WW,WX]\/v∈[QL,c23,c24,c25,a26,.slice none 0 0,c28,a29]:=by
   rw [show [c0,c1,w0,w1,w2,w3,w4,w5,w6,w7,w8,w9,w10,JZ,w12,HA,RJ,VU,w16,ZT,WW,WX,QL,c23,c24,c25,a26,zL,c28,a29]=[c0,c1]++([w0,w1,w2,w3,w4,w5,w6,w7,w8,w9,w10,JZ,w12,HA,RJ,VU,w16,ZT,WW,WX]++[QL,c23,c24,c25,a26,.slice none 0 0,c28,a29])from rfl]at hv;rcases List.mem_append.1 hv with hv | hv
   ·exact .inl hv
   ·exact .inr (List.mem_append.1 hv)
  rcases this with hv | hv | hv
  ·have:[c0,c1].all oneCell=true:=by simp [r0.one,r1.one]
   exact List.all_eq_true.1 this v hv
  ·exact aG0 v hv
  ·have:[QL,c23,c24,c25,a26,.slice none 0 0,c28,a29].all oneCell=true:=by simp [r22.one,r23.one,r24.one,r25.one,Oj.one,r28.one,Ok.one];rfl
   exact List.all_eq_true.1 this v hv
 rw [kR (vs:=[zI,zL,zI,zS,zF,zI,zI,zI,zI,zI,zI,zI,zS,zS,zI,zI,zF,zF,zS,zL,zL,zL,zL,zL,zL,zF,zL,zL,zL,zL]) (cs:=[c0,c1,w0,w1,w2,w3,w4,w5,w6,w7,w8,w9,w10,JZ,w12,HA,RJ,VU,w16,ZT,WW,WX,QL,c23,c24,c25,a26,zL,c28,a29]) aF rfl aB9 30 rfl];generalize hS5:(S4.new (.cells [zI,zL,zI,zS,zF,zI,zI,zI,zI,zI,zI,zI,zS,zS,zI,zI,zF,zF,zS,zL,zL,zL,zL,zL,zL,zF,zL,zL,zL,zL] 49 .exact)).set S4.n (.cells [c0,c1,w0,w1,w2,w3,w4,w5,w6,w7,w8,w9,w10,JZ,w12,HA,RJ,VU,w16,ZT,WW,WX,QL,c23,c24,c25,a26,zL,c28,a29] 49 .exact)=S5;have n5:S5.n=S4.n+1:=by rw [<-hS5];rfl
 have x5:aZ S4 S5:=⟨by omega,fun k hk=>by rw [<-hS5,aJ (by omega),aL (by omega)]⟩;have o5:S5.obj S4.n=some (.cells ([c0,c1,w0,w1,w2,w3,w4,w5,w6,w7,w8,w9,w10,JZ,w12,HA,RJ,VU,w16,ZT,WW,WX,QL,c23,c24,c25,a26,zL,c28,a29].set 27 zL) 49 .exact):=by rw [<-hS5];exact aX
 have x5t:aZ Sz S5:=xt.trans x5
 let C1:Nat->Prop:=fun k=>k=S4.n\/k=Sz.n+1\/C k
 have Dk:C1 S4.n:= .inl rfl
 have hC5:∀k,C1 k->k<S5.n:=fun k hk=>by
  rcases hk with h | h | h
  ·omega
  ·omega
  ·have:=hC k h;omega
 have F1:∀{S':St},aZ Sz S'->cM C Sz S' C1:=fun hx=>⟨hx.n,fun k hk _=>hx.same k hk,fun k hk=>by
  rcases hk with h | h | h
  ·exact .inr (by omega)
  ·exact .inr (by omega)
  ·exact .inl h⟩
 refine Og (n:=n+1) (S1z:=S5) (C:=C1) (p1:=Sz.n) (b:=S4.n) (cs:=[c0,c1,w0,w1,w2,w3,w4,w5,w6,w7,w8,w9,w10,JZ,w12,HA,RJ,VU,w16,ZT,WW,WX,QL,c23,c24,c25,a26,zL,c28,a29]) (ws:=[]) (tw:=0) Dk hC5 (e27.1.fr (F1 x5t)) (fun S' f K=>cB (by rw [f.same Sz.n (by omega) (by show ¬(Sz.n=S4.n);omega),x5.same Sz.n (by omega)];exact o40) rfl K) (by simp) hB.l27 (fun S6 a27 f6 hb6 h27=>?_) _ 0 _ S5 zL (Nat.zero_add _) (by have:=hB.l27;rw [bP];omega) (.refl _ _) o5 (.inl ⟨rfl,by simp⟩);have q6:=f6.n;have hb6:S6.obj S4.n=some (.cells [c0,c1,w0,w1,w2,w3,w4,w5,w6,w7,w8,w9,w10,JZ,w12,HA,RJ,VU,w16,ZT,WW,WX,QL,c23,c24,c25,a26,a27,c28,a29] 49 .exact):=hb6;have o61:S6.obj (Sz.n+1)=some (.cells [zI,zL,zI,zS,zF,zI,zI,zI,zI,zI,zI,zI,zS,zS,zI,zI,zF,zF,zS,zL,zL,zL,zL,zL,zL,zF,zL,zL,zL,zL] 49 .exact):=by rw [f6.same _ (by omega) (by show ¬(Sz.n+1=S4.n);omega),x5.same _ (by omega)];exact o41
 have aFj:[c0,c1,w0,w1,w2,w3,w4,w5,w6,w7,w8,w9,w10,JZ,w12,HA,RJ,VU,w16,ZT,WW,WX,QL,c23,c24,c25,a26,a27,c28,a29].all oneCell=true:=by
  refine List.all_eq_true.2 fun v hv=>?_;have hv:v∈[c0,c1,w0,w1,w2,w3,w4,w5,w6,w7,w8,w9,w10,JZ,w12,HA,RJ,VU,w16,ZT,WW,WX,QL,c23,c24,c25,a26,zL,c28,a29].set 27 a27:=hv;rcases List.mem_or_eq_of_mem_set hv with hv | hv
  ·exact List.all_eq_true.1 aB9 v hv
  ·rw [hv];exact h27.one
 have x6:aZ S4 S6:=f6.ext x5 fun k hk=>by rw [show k=S4.n from hk];exact Nat.le_refl _
 have x6t:aZ Sz S6:=xt.trans x6;rw [fW hb6 (by simp)];show cQ 30 (pt (Sz.n+1) 0) (.agg ⟨[c0,c1,w0,w1,w2,w3,w4,w5,w6,w7,w8,w9,w10,JZ,w12,HA,RJ,VU,w16,ZT,WW,WX,QL,c23,c24,c25,a26,a27,c28,a29]⟩) S6 _=true;rw [kR (vs:=[zI,zL,zI,zS,zF,zI,zI,zI,zI,zI,zI,zI,zS,zS,zI,zI,zF,zF,zS,zL,zL,zL,zL,zL,zL,zF,zL,zL,zL,zL]) (cs:=[c0,c1,w0,w1,w2,w3,w4,w5,w6,w7,w8,w9,w10,JZ,w12,HA,RJ,VU,w16,ZT,WW,WX,QL,c23,c24,c25,a26,a27,c28,a29]) o61 rfl aFj 30 rfl];show aR 30 (pt (Sz.n+1) 0) _ _=true;rw [fW aX (by simp)];have H7:∀{S':St},Sz.n+2<=S'.n->aZ S' S6->cM C0 S' (S6.set (Sz.n+1) (.cells [c0,c1,w0,w1,w2,w3,w4,w5,w6,w7,w8,w9,w10,JZ,w12,HA,RJ,VU,w16,ZT,WW,WX,QL,c23,c24,c25,a26,a27,c28,a29] 49 .exact)) C:=fun h1 h2=>⟨h2.n,fun k hk hc=>by rw [aJ fun e=>hc (.inl e)];exact h2.same k hk,fun k hk=> .inl (.inr hk)⟩;have hw7:=hw.fr (H7 (by omega) ((x3.trans x4).trans x6));have aG1:=Oj.fr (H7 (by omega) (x4.trans x6));have aG2:=Ok.fr (H7 (by omega) x6);have x7:aZ Sz (S6.set (Sz.n+1) (.cells [c0,c1,w0,w1,w2,w3,w4,w5,w6,w7,w8,w9,w10,JZ,w12,HA,RJ,VU,w16,ZT,WW,WX,QL,c23,c24,c25,a26,a27,c28,a29] 49 .exact)):=⟨x6t.n,fun k hk=>by rw [aJ (by omega)];exact x6t.same k hk⟩;have F7:cM C Sz (S6.set (Sz.n+1) (.cells [c0,c1,w0,w1,w2,w3,w4,w5,w6,w7,w8,w9,w10,JZ,w12,HA,RJ,VU,w16,ZT,WW,WX,QL,c23,c24,c25,a26,a27,c28,a29] 49 .exact)) C:=x7.fr C;have G7:cM C1 S6 (S6.set (Sz.n+1) (.cells [c0,c1,w0,w1,w2,w3,w4,w5,w6,w7,w8,w9,w10,JZ,w12,HA,RJ,VU,w16,ZT,WW,WX,QL,c23,c24,c25,a26,a27,c28,a29] 49 .exact)) C:=⟨Nat.le_refl _,fun k hk hc=>aJ fun e=>hc (.inr (.inl e)),fun k hk=> .inl (.inr (.inr hk))⟩;refine hK _ [c0,c1,w0,w1,w2,w3,w4,w5,w6,w7,w8,w9,w10,JZ,w12,HA,RJ,VU,w16,ZT,WW,WX,QL,c23,c24,c25,a26,a27,c28,a29] x7 (lL.of rfl hdl fun j it u a b=>?_)
 match j,a,b with
 | 0,a,b=>injection a with a;injection b with b;subst a b;exact r0.fr F7
 | 1,a,b=>injection a with a;injection b with b;subst a b;exact r1.fr F7
 | 2,a,b=>injection a with a;injection b with b;subst a b;exact by rw [<-bV ds 2 20 0 (by omega)];obtain⟨u,hu,hr⟩:=hw7.at (j:=0) (it:= .int) rfl;injection hu with hu;subst hu;exact hr
 | 3,a,b=>injection a with a;injection b with b;subst a b;exact by rw [<-bV ds 2 20 1 (by omega)];obtain⟨u,hu,hr⟩:=hw7.at (j:=1) (it:= .text) rfl;injection hu with hu;subst hu;exact hr
 | 4,a,b=>injection a with a;injection b with b;subst a b;exact by rw [<-bV ds 2 20 2 (by omega)];obtain⟨u,hu,hr⟩:=hw7.at (j:=2) (it:= .is) rfl;injection hu with hu;subst hu;exact hr
 | 5,a,b=>injection a with a;injection b with b;subst a b;exact by rw [<-bV ds 2 20 3 (by omega)];obtain⟨u,hu,hr⟩:=hw7.at (j:=3) (it:= .int) rfl;injection hu with hu;subst hu;exact hr
 | 6,a,b=>injection a with a;injection b with b;subst a b;exact by rw [<-bV ds 2 20 4 (by omega)];obtain⟨u,hu,hr⟩:=hw7.at (j:=4) (it:= .int) rfl;injection hu with hu;subst hu;exact hr
 | 7,a,b=>injection a with a;injection b with b;subst a b;exact by rw [<-bV ds 2 20 5 (by omega)];obtain⟨u,hu,hr⟩:=hw7.at (j:=5) (it:= .int) rfl;injection hu with hu;subst hu;exact hr
 | 8,a,b=>injection a with a;injection b with b;subst a b;exact by rw [<-bV ds 2 20 6 (by omega)];obtain⟨u,hu,hr⟩:=hw7.at (j:=6) (it:= .int) rfl;injection hu with hu;subst hu;exact hr
 | 9,a,b=>injection a with a;injection b with b;subst a b;exact by rw [<-bV ds 2 20 7 (by omega)];obtain⟨u,hu,hr⟩:=hw7.at (j:=7) (it:= .int) rfl;injection hu with hu;subst hu;exact hr
 | 10,a,b=>injection a with a;injection b with b;subst a b;exact by rw [<-bV ds 2 20 8 (by omega)];obtain⟨u,hu,hr⟩:=hw7.at (j:=8) (it:= .int) rfl;injection hu with hu;subst hu;exact hr
 | 11,a,b=>injection a with a;injection b with b;subst a b;exact by rw [<-bV ds 2 20 9 (by omega)];obtain⟨u,hu,hr⟩:=hw7.at (j:=9) (it:= .int) rfl;injection hu with hu;subst hu;exact hr
 | 12,a,b=>injection a with a;injection b with b;subst a b;exact by rw [<-bV ds 2 20 10 (by omega)];obtain⟨u,hu,hr⟩:=hw7.at (j:=10) (it:= .text) rfl;injection hu with hu;subst hu;exact hr
 | 13,a,b=>injection a with a;injection b with b;subst a b;exact by rw [<-bV ds 2 20 11 (by omega)];obtain⟨u,hu,hr⟩:=hw7.at (j:=11) (it:= .text) rfl;injection hu with hu;subst hu;exact hr
 | 14,a,b=>injection a with a;injection b with b;subst a b;exact by rw [<-bV ds 2 20 12 (by omega)];obtain⟨u,hu,hr⟩:=hw7.at (j:=12) (it:= .int) rfl;injection hu with hu;subst hu;exact hr
 | 15,a,b=>injection a with a;injection b with b;subst a b;exact by rw [<-bV ds 2 20 13 (by omega)];obtain⟨u,hu,hr⟩:=hw7.at (j:=13) (it:= .int) rfl;injection hu with hu;subst hu;exact hr
 | 16,a,b=>injection a with a;injection b with b;subst a b;exact by rw [<-bV ds 2 20 14 (by omega)];obtain⟨u,hu,hr⟩:=hw7.at (j:=14) (it:= .is) rfl;injection hu with hu;subst hu;exact hr
 | 17,a,b=>injection a with a;injection b with b;subst a b;exact by rw [<-bV ds 2 20 15 (by omega)];obtain⟨u,hu,hr⟩:=hw7.at (j:=15) (it:= .is) rfl;injection hu with hu;subst hu;exact hr
 | 18,a,b=>injection a with a;injection b with b;subst a b;exact by rw [<-bV ds 2 20 16 (by omega)];obtain⟨u,hu,hr⟩:=hw7.at (j:=16) (it:= .text) rfl;injection hu with hu;subst hu;exact hr
 | 19,a,b=>injection a with a;injection b with b;subst a b;exact by rw [<-bV ds 2 20 17 (by omega)];obtain⟨u,hu,hr⟩:=hw7.at (j:=17) (it:= .list aW) rfl;injection hu with hu;subst hu;exact hr
 | 20,a,b=>injection a with a;injection b with b;subst a b;exact by rw [<-bV ds 2 20 18 (by omega)];obtain⟨u,hu,hr⟩:=hw7.at (j:=18) (it:= .list bC) rfl;injection hu with hu;subst hu;exact hr
 | 21,a,b=>injection a with a;injection b with b;subst a b;exact by rw [<-bV ds 2 20 19 (by omega)];obtain⟨u,hu,hr⟩:=hw7.at (j:=19) (it:= .list aV) rfl;injection hu with hu;subst hu;exact hr
 | 22,a,b=>injection a with a;injection b with b;subst a b;exact r22.fr F7
 | 23,a,b=>injection a with a;injection b with b;subst a b;exact r23.fr F7
 | 24,a,b=>injection a with a;injection b with b;subst a b;exact r24.fr F7
 | 25,a,b=>injection a with a;injection b with b;subst a b;exact r25.fr F7
 | 26,a,b=>injection a with a;injection b with b;subst a b;exact by rw [e26.2];exact aG1
 | 27,a,b=>injection a with a;injection b with b;subst a b;exact by rw [e27.2];exact h27.fr G7
 | 28,a,b=>injection a with a;injection b with b;subst a b;exact r28.fr F7
 | 29,a,b=>injection a with a;injection b with b;subst a b;exact by rw [e29.2];exact aG2
 | j+30,a,_=>cases a
end Go.Am
set_option maxRecDepth 100000
namespace Go.Am
noncomputable def oZ (x:EV) (m:Nat) (t2 t3 t5:Value) (Sz:St) (K:VK):Bool:=gJ PP dD AC (x.E PP) [.r,.r,.l,.r,.d] m [] [t2,t3,t5] Sz K
noncomputable def QK (x:EV) (a0 a1:Value) (Sz:St) (K:VK):Bool:=
 iP 49 a0 Sz fun v0 Sz=>
 iP 49 a1 Sz fun v1 Sz=>
 aC 0 v0 fun v2=>
 aN v2 Sz fun v3 Sz=>
 aC 0 v1 fun v4=>
 aN v4 Sz fun v5 Sz=>
 aK PP .neq 3 v3 v5 fun v6=>
 shut x.most (aA false v6 (fun k=>aC 25 v0 fun v7=>
 k v7 Sz) Sz fun v8 Sz=>
 shut x.most (aA false v6 (fun k=>aN v8 Sz fun v9 Sz=>
 k v9 Sz) Sz fun v10 Sz=>
 shut x.most (aA false v6 (fun k=>aC 25 v1 fun v11=>
 k v11 Sz) Sz fun v12 Sz=>
 shut x.most (aA false v6 (fun k=>aN v12 Sz fun v13 Sz=>
 k v13 Sz) Sz fun v14 Sz=>
 shut x.most (aA false v6 (fun k=>aK PP .neq 4 v10 v14 fun v15=>
 k v15 Sz) Sz fun v16 Sz=>
 shut x.most (bY v6 (.bool true) v16 fun v17=>
 shut x.most (aA false v17 (fun k=>aC 1 v0 fun v18=>
 k v18 Sz) Sz fun v19 Sz=>
 shut x.most (aA false v17 (fun k=>aN v19 Sz fun v20 Sz=>
 k v20 Sz) Sz fun v21 Sz=>
 shut x.most (aA false v17 (fun k=>aC 1 v1 fun v22=>
 k v22 Sz) Sz fun v23 Sz=>
 shut x.most (aA false v17 (fun k=>aN v23 Sz fun v24 Sz=>
 k v24 Sz) Sz fun v25 Sz=>
 shut x.most (aA false v17 (fun k=>x.C pN [v21,v25] Sz fun v26 Sz=>
 k v26 Sz) Sz fun v27 Sz=>
 shut x.most (aA false v17 (fun k=>Ar .not v27 fun v28=>
 k v28 Sz) Sz fun v29 Sz=>
 shut x.most (bY v17 (.bool true) v29 fun v30=>
 shut x.most (aA false v30 (fun k=>aC 22 v0 fun v31=>
 k v31 Sz) Sz fun v32 Sz=>
 shut x.most (aA false v30 (fun k=>aN v32 Sz fun v33 Sz=>
 k v33 Sz) Sz fun v34 Sz=>
 shut x.most (aA false v30 (fun k=>aC 22 v1 fun v35=>
 k v35 Sz) Sz fun v36 Sz=>
 shut x.most (aA false v30 (fun k=>aN v36 Sz fun v37 Sz=>
 k v37 Sz) Sz fun v38 Sz=>
 shut x.most (aA false v30 (fun k=>x.C pN [v34,v38] Sz fun v39 Sz=>
 k v39 Sz) Sz fun v40 Sz=>
 shut x.most (aA false v30 (fun k=>Ar .not v40 fun v41=>
 k v41 Sz) Sz fun v42 Sz=>
 shut x.most (bY v30 (.bool true) v42 fun v43=>
 shut x.most (aA false v43 (fun k=>aC 2 v0 fun v44=>
 k v44 Sz) Sz fun v45 Sz=>
 shut x.most (aA false v43 (fun k=>aR 20 v45 Sz fun v46 Sz=>
 k v46 Sz) Sz fun v47 Sz=>
 shut x.most (aA false v43 (fun k=>aC 2 v1 fun v48=>
 k v48 Sz) Sz fun v49 Sz=>
 shut x.most (aA false v43 (fun k=>aR 20 v49 Sz fun v50 Sz=>
 k v50 Sz) Sz fun v51 Sz=>
 shut x.most (aA false v43 (fun k=>x.C AB [v47,v51] Sz fun v52 Sz=>
 k v52 Sz) Sz fun v53 Sz=>
 shut x.most (aA false v43 (fun k=>Ar .not v53 fun v54=>
 k v54 Sz) Sz fun v55 Sz=>
 shut x.most (bY v43 (.bool true) v55 fun v56=>
 shut x.most (aA false v56 (fun k=>aC 23 v0 fun v57=>
 k v57 Sz) Sz fun v58 Sz=>
 shut x.most (aA false v56 (fun k=>aN v58 Sz fun v59 Sz=>
 k v59 Sz) Sz fun v60 Sz=>
 shut x.most (aA false v56 (fun k=>aC 23 v1 fun v61=>
 k v61 Sz) Sz fun v62 Sz=>
 shut x.most (aA false v56 (fun k=>aN v62 Sz fun v63 Sz=>
 k v63 Sz) Sz fun v64 Sz=>
 shut x.most (aA false v56 (fun k=>x.C vF [v60,v64] Sz fun v65 Sz=>
 k v65 Sz) Sz fun v66 Sz=>
 shut x.most (aA false v56 (fun k=>Ar .not v66 fun v67=>
 k v67 Sz) Sz fun v68 Sz=>
 shut x.most (bY v56 (.bool true) v68 fun v69=>
 shut x.most (aA false v69 (fun k=>aC 24 v0 fun v70=>
 k v70 Sz) Sz fun v71 Sz=>
 shut x.most (aA false v69 (fun k=>aN v71 Sz fun v72 Sz=>
 k v72 Sz) Sz fun v73 Sz=>
 shut x.most (aA false v69 (fun k=>aC 24 v1 fun v74=>
 k v74 Sz) Sz fun v75 Sz=>
 shut x.most (aA false v69 (fun k=>aN v75 Sz fun v76 Sz=>
 k v76 Sz) Sz fun v77 Sz=>
 shut x.most (aA false v69 (fun k=>x.C vF [v73,v77] Sz fun v78 Sz=>
 k v78 Sz) Sz fun v79 Sz=>
 shut x.most (aA false v69 (fun k=>Ar .not v79 fun v80=>
 k v80 Sz) Sz fun v81 Sz=>
 shut x.most (bY v69 (.bool true) v81 fun v82=>
 shut x.most (aA false v82 (fun k=>aC 26 v0 fun v83=>
 k v83 Sz) Sz fun v84 Sz=>
 shut x.most (aA false v82 (fun k=>aN v84 Sz fun v85 Sz=>
 k v85 Sz) Sz fun v86 Sz=>
 shut x.most (aA false v82 (fun k=>aC 26 v1 fun v87=>
 k v87 Sz) Sz fun v88 Sz=>
 shut x.most (aA false v82 (fun k=>aN v88 Sz fun v89 Sz=>
 k v89 Sz) Sz fun v90 Sz=>
 shut x.most (aA false v82 (fun k=>x.C nO [v86,v90] Sz fun v91 Sz=>
 k v91 Sz) Sz fun v92 Sz=>
 shut x.most (aA false v82 (fun k=>Ar .not v92 fun v93=>
 k v93 Sz) Sz fun Pv Sz=>
 shut x.most (bY v82 (.bool true) Pv fun v95=>
 shut x.most (aA false v95 (fun k=>aC 29 v0 fun v96=>
 k v96 Sz) Sz fun v97 Sz=>
 shut x.most (aA false v95 (fun k=>aN v97 Sz fun v98 Sz=>
 k v98 Sz) Sz fun v99 Sz=>
 shut x.most (aA false v95 (fun k=>aC 29 v1 fun aAT=>
 k aAT Sz) Sz fun aAU Sz=>
 shut x.most (aA false v95 (fun k=>aN aAU Sz fun aAV Sz=>
 k aAV Sz) Sz fun aAW Sz=>
 shut x.most (aA false v95 (fun k=>x.C nO [v99,aAW] Sz fun aAX Sz=>
 k aAX Sz) Sz fun v105 Sz=>
 shut x.most (aA false v95 (fun k=>Ar .not v105 fun aAY=>
 k aAY Sz) Sz fun v107 Sz=>
 shut x.most (bY v95 (.bool true) v107 fun Aq=>
 shut x.most (aA false Aq (fun k=>aC 28 v0 fun v109=>
 k v109 Sz) Sz fun aAZ Sz=>
 shut x.most (aA false Aq (fun k=>aN aAZ Sz fun aA0 Sz=>
 k aA0 Sz) Sz fun aA1 Sz=>
 shut x.most (aA false Aq (fun k=>aC 28 v1 fun aA2=>
 k aA2 Sz) Sz fun aA3 Sz=>
 shut x.most (aA false Aq (fun k=>aN aA3 Sz fun aA4 Sz=>
 k aA4 Sz) Sz fun Ce Sz=>
 shut x.most (aA false Aq (fun k=>x.C vG [aA1,Ce] Sz fun v117 Sz=>
 k v117 Sz) Sz fun aA5 Sz=>
 shut x.most (aA false Aq (fun k=>Ar .not aA5 fun aA6=>
 k aA6 Sz) Sz fun aA7 Sz=>
 shut x.most (bY Aq (.bool true) aA7 fun Cf=>
 shut x.most (aA false Cf (fun k=>aC 27 v0 fun aEg=>
 k aEg Sz) Sz fun aEh Sz=>
 shut x.most (aA false Cf (fun k=>aN aEh Sz fun v124 Sz=>
 k v124 Sz) Sz fun aEi Sz=>
 shut x.most (aA false Cf (fun k=>bO aEi fun aEj=>
 k aEj Sz) Sz fun v127 Sz=>
 shut x.most (aA false Cf (fun k=>aC 27 v1 fun aEk=>
 k aEk Sz) Sz fun aEl Sz=>
 shut x.most (aA false Cf (fun k=>aN aEl Sz fun v130 Sz=>
 k v130 Sz) Sz fun v131 Sz=>
 shut x.most (aA false Cf (fun k=>bO v131 fun aEm=>
 k aEm Sz) Sz fun aEn Sz=>
 shut x.most (aA false Cf (fun k=>aK PP .neq 3 v127 aEn fun aEo=>
 k aEo Sz) Sz fun aEp Sz=>
 shut x.most (bY Cf (.bool true) aEp fun aEq=>
 gD aEq (K zF Sz) (oZ x x.most v0 v1 zI Sz K)))))))))))))))))))))))))))))))))))))))))))))))))))))))))))))))))))))))
theorem Gp (x:EV) (a0 a1:Value) (Sz:St) (K:VK):hZ PP dD AC (x.E PP) [a0,a1] Sz K=QK x a0 a1 Sz K:=by kernel_rfl
noncomputable def rV (x:EV) (m0:Nat) (t2 t3 t5:Value) (Sz:St) (K:VK):Bool:=
 aC 27 t2 fun v0=>
 aN v0 Sz fun v1 Sz=>
 bO v1 fun v2=>
 aK PP .lss 3 t5 v2 fun v3=>
 gD v3 (aC 27 t2 fun v4=>
 aN v4 Sz fun v5 Sz=>
 dC 3 v5 t5 fun v6=>
 aC 0 v6 fun v7=>
 aN v7 Sz fun v8 Sz=>
 aC 27 t3 fun v9=>
 aN v9 Sz fun v10 Sz=>
 dC 3 v10 t5 fun v11=>
 aC 0 v11 fun v12=>
 aN v12 Sz fun v13 Sz=>
 aK PP .neq 3 v8 v13 fun v14=>
 shut x.most (aA false v14 (fun k=>aC 27 t2 fun v15=>
 k v15 Sz) Sz fun v16 Sz=>
 shut x.most (aA false v14 (fun k=>aN v16 Sz fun v17 Sz=>
 k v17 Sz) Sz fun v18 Sz=>
 shut x.most (aA false v14 (fun k=>k t5 Sz) Sz fun v19 Sz=>
 shut x.most (aA false v14 (fun k=>dC 3 v18 v19 fun v20=>
 k v20 Sz) Sz fun v21 Sz=>
 shut x.most (aA false v14 (fun k=>aC 1 v21 fun v22=>
 k v22 Sz) Sz fun v23 Sz=>
 shut x.most (aA false v14 (fun k=>aN v23 Sz fun v24 Sz=>
 k v24 Sz) Sz fun v25 Sz=>
 shut x.most (aA false v14 (fun k=>aC 27 t3 fun v26=>
 k v26 Sz) Sz fun v27 Sz=>
 shut x.most (aA false v14 (fun k=>aN v27 Sz fun v28 Sz=>
 k v28 Sz) Sz fun v29 Sz=>
 shut x.most (aA false v14 (fun k=>k t5 Sz) Sz fun v30 Sz=>
 shut x.most (aA false v14 (fun k=>dC 3 v29 v30 fun v31=>
 k v31 Sz) Sz fun v32 Sz=>
 shut x.most (aA false v14 (fun k=>aC 1 v32 fun v33=>
 k v33 Sz) Sz fun v34 Sz=>
 shut x.most (aA false v14 (fun k=>aN v34 Sz fun v35 Sz=>
 k v35 Sz) Sz fun v36 Sz=>
 shut x.most (aA false v14 (fun k=>aK PP .neq 3 v25 v36 fun v37=>
 k v37 Sz) Sz fun v38 Sz=>
 shut x.most (bY v14 (.bool true) v38 fun v39=>
 shut x.most (aA false v39 (fun k=>aC 27 t2 fun v40=>
 k v40 Sz) Sz fun v41 Sz=>
 shut x.most (aA false v39 (fun k=>aN v41 Sz fun v42 Sz=>
 k v42 Sz) Sz fun v43 Sz=>
 shut x.most (aA false v39 (fun k=>k t5 Sz) Sz fun v44 Sz=>
 shut x.most (aA false v39 (fun k=>dC 3 v43 v44 fun v45=>
 k v45 Sz) Sz fun v46 Sz=>
 shut x.most (aA false v39 (fun k=>aC 2 v46 fun v47=>
 k v47 Sz) Sz fun v48 Sz=>
 shut x.most (aA false v39 (fun k=>aN v48 Sz fun v49 Sz=>
 k v49 Sz) Sz fun v50 Sz=>
 shut x.most (aA false v39 (fun k=>aC 27 t3 fun v51=>
 k v51 Sz) Sz fun v52 Sz=>
 shut x.most (aA false v39 (fun k=>aN v52 Sz fun v53 Sz=>
 k v53 Sz) Sz fun v54 Sz=>
 shut x.most (aA false v39 (fun k=>k t5 Sz) Sz fun v55 Sz=>
 shut x.most (aA false v39 (fun k=>dC 3 v54 v55 fun v56=>
 k v56 Sz) Sz fun v57 Sz=>
 shut x.most (aA false v39 (fun k=>aC 2 v57 fun v58=>
 k v58 Sz) Sz fun v59 Sz=>
 shut x.most (aA false v39 (fun k=>aN v59 Sz fun v60 Sz=>
 k v60 Sz) Sz fun v61 Sz=>
 shut x.most (aA false v39 (fun k=>x.C vB [v50,v61] Sz fun v62 Sz=>
 k v62 Sz) Sz fun v63 Sz=>
 shut x.most (sW false v39 v54 (fun k=>aN v52 Sz fun v64 Sz=>
 aU v64 v54 k) (shut x.most (sW false v39 v43 (fun k=>aN v41 Sz fun v65 Sz=>
 aU v65 v43 k) (shut x.most (sW false v14 v36 (fun k=>aN v34 Sz fun v66 Sz=>
 aU v66 v36 k) (shut x.most (sW false v14 v29 (fun k=>aN v27 Sz fun v67 Sz=>
 aU v67 v29 k) (shut x.most (sW false v14 v25 (fun k=>aN v23 Sz fun v68 Sz=>
 aU v68 v25 k) (shut x.most (sW false v14 v18 (fun k=>aN v16 Sz fun v69 Sz=>
 aU v69 v18 k) (aN v12 Sz fun v70 Sz=>
 aU v70 v13 (aN v9 Sz fun v71 Sz=>
 aU v71 v10 (aN v7 Sz fun v72 Sz=>
 aU v72 v8 (aN v4 Sz fun v73 Sz=>
 aU v73 v5 (shut x.most (aA false v39 (fun k=>Ar .not v63 fun v74=>
 k v74 Sz) Sz fun v75 Sz=>
 shut x.most (bY v39 (.bool true) v75 fun v76=>
 gD v76 (K zF Sz) (aK PP .add 3 t5 (.int .i64 (.ofNat 1)) fun v77=>
 oZ x m0 t2 t3 v77 Sz K))))))))))))))))))))))))))))))))))))))))))))))) (K (.bool true) Sz)
theorem zH (x:EV) (m0:Nat) (t2 t3 t5:Value) (Sz:St) (K:VK):oZ x (m0+1) t2 t3 t5 Sz K=rV x m0 t2 t3 t5 Sz K:=by kernel_rfl
noncomputable def lJ (x:EV) (m:Nat) (t0 t1 t5:Value) (Sz:St) (K:VK):Bool:=gJ PP dD pN (x.E PP) [.r,.r,.l,.r,.d] m [] [t0,t1,t5] Sz K
noncomputable def GZ (x:EV) (a0 a1:Value) (Sz:St) (K:VK):Bool:=
 bO a0 fun v0=>
 bO a1 fun v1=>
 aK PP .neq 3 v0 v1 fun v2=>
 gD v2 (K zF Sz) (lJ x x.most a0 a1 zI Sz K)
theorem VQ (x:EV) (a0 a1:Value) (Sz:St) (K:VK):hZ PP dD pN (x.E PP) [a0,a1] Sz K=GZ x a0 a1 Sz K:=by kernel_rfl
noncomputable def oT (x:EV) (m0:Nat) (t0 t1 t5:Value) (Sz:St) (K:VK):Bool:=
 bO t0 fun v0=>
 aK PP .lss 3 t5 v0 fun v1=>
 gD v1 (dC 1 t0 t5 fun v2=>
 aN v2 Sz fun v3 Sz=>
 dC 1 t1 t5 fun v4=>
 aN v4 Sz fun v5 Sz=>
 aK PP .neq 9 v3 v5 fun v6=>
 gD v6 (K zF Sz) (aK PP .add 3 t5 (.int .i64 (.ofNat 1)) fun v7=>
 lJ x m0 t0 t1 v7 Sz K)) (K (.bool true) Sz)
theorem vE (x:EV) (m0:Nat) (t0 t1 t5:Value) (Sz:St) (K:VK):lJ x (m0+1) t0 t1 t5 Sz K=oT x m0 t0 t1 t5 Sz K:=by kernel_rfl
noncomputable def oY (x:EV) (m:Nat) (t2 t3 t5:Value) (Sz:St) (K:VK):Bool:=gJ PP dD AB (x.E PP) [.r,.r,.l,.r,.d] m [] [t2,t3,t5] Sz K
noncomputable def QI (x:EV) (a0 a1:Value) (Sz:St) (K:VK):Bool:=
 iP 45 a0 Sz fun v0 Sz=>
 iP 45 a1 Sz fun v1 Sz=>
 aC 0 v0 fun v2=>
 aN v2 Sz fun v3 Sz=>
 aC 0 v1 fun v4=>
 aN v4 Sz fun v5 Sz=>
 aK PP .neq 3 v3 v5 fun v6=>
 shut x.most (aA false v6 (fun k=>aC 1 v0 fun v7=>
 k v7 Sz) Sz fun v8 Sz=>
 shut x.most (aA false v6 (fun k=>aN v8 Sz fun v9 Sz=>
 k v9 Sz) Sz fun v10 Sz=>
 shut x.most (aA false v6 (fun k=>aC 1 v1 fun v11=>
 k v11 Sz) Sz fun v12 Sz=>
 shut x.most (aA false v6 (fun k=>aN v12 Sz fun v13 Sz=>
 k v13 Sz) Sz fun v14 Sz=>
 shut x.most (aA false v6 (fun k=>aK PP .neq 9 v10 v14 fun v15=>
 k v15 Sz) Sz fun v16 Sz=>
 shut x.most (bY v6 (.bool true) v16 fun v17=>
 shut x.most (aA false v17 (fun k=>aC 2 v0 fun v18=>
 k v18 Sz) Sz fun v19 Sz=>
 shut x.most (aA false v17 (fun k=>aN v19 Sz fun v20 Sz=>
 k v20 Sz) Sz fun v21 Sz=>
 shut x.most (aA false v17 (fun k=>aC 2 v1 fun v22=>
 k v22 Sz) Sz fun v23 Sz=>
 shut x.most (aA false v17 (fun k=>aN v23 Sz fun v24 Sz=>
 k v24 Sz) Sz fun v25 Sz=>
 shut x.most (aA false v17 (fun k=>aK PP .neq 4 v21 v25 fun v26=>
 k v26 Sz) Sz fun v27 Sz=>
 shut x.most (bY v17 (.bool true) v27 fun v28=>
 shut x.most (aA false v28 (fun k=>aC 3 v0 fun v29=>
 k v29 Sz) Sz fun v30 Sz=>
 shut x.most (aA false v28 (fun k=>aR 15 v30 Sz fun v31 Sz=>
 k v31 Sz) Sz fun v32 Sz=>
 shut x.most (aA false v28 (fun k=>aC 3 v1 fun v33=>
 k v33 Sz) Sz fun v34 Sz=>
 shut x.most (aA false v28 (fun k=>aR 15 v34 Sz fun v35 Sz=>
 k v35 Sz) Sz fun v36 Sz=>
 shut x.most (aA false v28 (fun k=>x.C GH [v32,v36] Sz fun v37 Sz=>
 k v37 Sz) Sz fun v38 Sz=>
 shut x.most (aA false v28 (fun k=>Ar .not v38 fun v39=>
 k v39 Sz) Sz fun v40 Sz=>
 shut x.most (bY v28 (.bool true) v40 fun v41=>
 shut x.most (aA false v41 (fun k=>aC 18 v0 fun v42=>
 k v42 Sz) Sz fun v43 Sz=>
 shut x.most (aA false v41 (fun k=>aN v43 Sz fun v44 Sz=>
 k v44 Sz) Sz fun v45 Sz=>
 shut x.most (aA false v41 (fun k=>bO v45 fun v46=>
 k v46 Sz) Sz fun v47 Sz=>
 shut x.most (aA false v41 (fun k=>aC 18 v1 fun v48=>
 k v48 Sz) Sz fun v49 Sz=>
 shut x.most (aA false v41 (fun k=>aN v49 Sz fun v50 Sz=>
 k v50 Sz) Sz fun v51 Sz=>
 shut x.most (aA false v41 (fun k=>bO v51 fun v52=>
 k v52 Sz) Sz fun v53 Sz=>
 shut x.most (aA false v41 (fun k=>aK PP .neq 3 v47 v53 fun v54=>
 k v54 Sz) Sz fun v55 Sz=>
 shut x.most (bY v41 (.bool true) v55 fun v56=>
 shut x.most (aA false v56 (fun k=>aC 19 v0 fun v57=>
 k v57 Sz) Sz fun v58 Sz=>
 shut x.most (aA false v56 (fun k=>aN v58 Sz fun v59 Sz=>
 k v59 Sz) Sz fun v60 Sz=>
 shut x.most (aA false v56 (fun k=>aC 19 v1 fun v61=>
 k v61 Sz) Sz fun v62 Sz=>
 shut x.most (aA false v56 (fun k=>aN v62 Sz fun v63 Sz=>
 k v63 Sz) Sz fun v64 Sz=>
 shut x.most (aA false v56 (fun k=>x.C vG [v60,v64] Sz fun v65 Sz=>
 k v65 Sz) Sz fun v66 Sz=>
 shut x.most (aA false v56 (fun k=>Ar .not v66 fun v67=>
 k v67 Sz) Sz fun v68 Sz=>
 shut x.most (bY v56 (.bool true) v68 fun v69=>
 gD v69 (K zF Sz) (oY x x.most v0 v1 zI Sz K)))))))))))))))))))))))))))))))))))
theorem Gm (x:EV) (a0 a1:Value) (Sz:St) (K:VK):hZ PP dD AB (x.E PP) [a0,a1] Sz K=QI x a0 a1 Sz K:=by kernel_rfl
noncomputable def rU (x:EV) (m0:Nat) (t2 t3 t5:Value) (Sz:St) (K:VK):Bool:=
 aC 18 t2 fun v0=>
 aN v0 Sz fun v1 Sz=>
 bO v1 fun v2=>
 aK PP .lss 3 t5 v2 fun v3=>
 gD v3 (aC 18 t2 fun v4=>
 aN v4 Sz fun v5 Sz=>
 dC 2 v5 t5 fun v6=>
 aR 2 v6 Sz fun v7 Sz=>
 aC 18 t3 fun v8=>
 aN v8 Sz fun v9 Sz=>
 dC 2 v9 t5 fun v10=>
 aR 2 v10 Sz fun v11 Sz=>
 aK PP .neq 132 v7 v11 fun v12=>
 gD v12 (K zF Sz) (aK PP .add 3 t5 (.int .i64 (.ofNat 1)) fun v13=>
 oY x m0 t2 t3 v13 Sz K)) (K (.bool true) Sz)
theorem zG (x:EV) (m0:Nat) (t2 t3 t5:Value) (Sz:St) (K:VK):oY x (m0+1) t2 t3 t5 Sz K=rU x m0 t2 t3 t5 Sz K:=by kernel_rfl
noncomputable def oU (x:EV) (m:Nat) (t0 t1 t5:Value) (Sz:St) (K:VK):Bool:=gJ PP dD vF (x.E PP) [.r,.r,.l,.r,.d] m [] [t0,t1,t5] Sz K
noncomputable def QD (x:EV) (a0 a1:Value) (Sz:St) (K:VK):Bool:=
 bO a0 fun v0=>
 bO a1 fun v1=>
 aK PP .neq 3 v0 v1 fun v2=>
 gD v2 (K zF Sz) (oU x x.most a0 a1 zI Sz K)
theorem Gh (x:EV) (a0 a1:Value) (Sz:St) (K:VK):hZ PP dD vF (x.E PP) [a0,a1] Sz K=QD x a0 a1 Sz K:=by kernel_rfl
noncomputable def rQ (x:EV) (m0:Nat) (t0 t1 t5:Value) (Sz:St) (K:VK):Bool:=
 bO t0 fun v0=>
 aK PP .lss 3 t5 v0 fun v1=>
 gD v1 (dC 2 t0 t5 fun v2=>
 aR 2 v2 Sz fun v3 Sz=>
 dC 2 t1 t5 fun v4=>
 aR 2 v4 Sz fun v5 Sz=>
 aK PP .neq 59 v3 v5 fun v6=>
 gD v6 (K zF Sz) (aK PP .add 3 t5 (.int .i64 (.ofNat 1)) fun v7=>
 oU x m0 t0 t1 v7 Sz K)) (K (.bool true) Sz)
theorem zB (x:EV) (m0:Nat) (t0 t1 t5:Value) (Sz:St) (K:VK):oU x (m0+1) t0 t1 t5 Sz K=rQ x m0 t0 t1 t5 Sz K:=by kernel_rfl
noncomputable def kS (x:EV) (m:Nat) (t0 t1 t5:Value) (Sz:St) (K:VK):Bool:=gJ PP dD nO (x.E PP) [.r,.r,.l,.r,.d] m [] [t0,t1,t5] Sz K
noncomputable def EN (x:EV) (a0 a1:Value) (Sz:St) (K:VK):Bool:=
 bO a0 fun v0=>
 bO a1 fun v1=>
 aK PP .neq 3 v0 v1 fun v2=>
 gD v2 (K zF Sz) (kS x x.most a0 a1 zI Sz K)
theorem SJ (x:EV) (a0 a1:Value) (Sz:St) (K:VK):hZ PP dD nO (x.E PP) [a0,a1] Sz K=EN x a0 a1 Sz K:=by kernel_rfl
noncomputable def nN (x:EV) (m0:Nat) (t0 t1 t5:Value) (Sz:St) (K:VK):Bool:=
 bO t0 fun v0=>
 aK PP .lss 3 t5 v0 fun v1=>
 gD v1 (dC 8 t0 t5 fun v2=>
 aR 8 v2 Sz fun v3 Sz=>
 dC 8 t1 t5 fun v4=>
 aR 8 v4 Sz fun v5 Sz=>
 x.C GI [v3,v5] Sz fun v6 Sz=>
 Ar .not v6 fun v7=>
 gD v7 (K zF Sz) (aK PP .add 3 t5 (.int .i64 (.ofNat 1)) fun v8=>
 kS x m0 t0 t1 v8 Sz K)) (K (.bool true) Sz)
theorem tV (x:EV) (m0:Nat) (t0 t1 t5:Value) (Sz:St) (K:VK):kS x (m0+1) t0 t1 t5 Sz K=nN x m0 t0 t1 t5 Sz K:=by kernel_rfl
noncomputable def oX (x:EV) (m:Nat) (t0 t1 t5:Value) (Sz:St) (K:VK):Bool:=gJ PP dD vG (x.E PP) [.r,.r,.l,.r,.d] m [] [t0,t1,t5] Sz K
noncomputable def QG (x:EV) (a0 a1:Value) (Sz:St) (K:VK):Bool:=
 bO a0 fun v0=>
 bO a1 fun v1=>
 aK PP .neq 3 v0 v1 fun v2=>
 gD v2 (K zF Sz) (oX x x.most a0 a1 zI Sz K)
theorem Gk (x:EV) (a0 a1:Value) (Sz:St) (K:VK):hZ PP dD vG (x.E PP) [a0,a1] Sz K=QG x a0 a1 Sz K:=by kernel_rfl
noncomputable def rT (x:EV) (m0:Nat) (t0 t1 t5:Value) (Sz:St) (K:VK):Bool:=
 bO t0 fun v0=>
 aK PP .lss 3 t5 v0 fun v1=>
 gD v1 (dC 11 t0 t5 fun v2=>
 aR 11 v2 Sz fun v3 Sz=>
 dC 11 t1 t5 fun v4=>
 aR 11 v4 Sz fun v5 Sz=>
 x.C AA [v3,v5] Sz fun v6 Sz=>
 Ar .not v6 fun v7=>
 gD v7 (K zF Sz) (aK PP .add 3 t5 (.int .i64 (.ofNat 1)) fun v8=>
 oX x m0 t0 t1 v8 Sz K)) (K (.bool true) Sz)
theorem zE (x:EV) (m0:Nat) (t0 t1 t5:Value) (Sz:St) (K:VK):oX x (m0+1) t0 t1 t5 Sz K=rT x m0 t0 t1 t5 Sz K:=by kernel_rfl
noncomputable def oR (x:EV) (m:Nat) (t0 t1 t5:Value) (Sz:St) (K:VK):Bool:=gJ PP dD vB (x.E PP) [.r,.r,.l,.r,.d] m [] [t0,t1,t5] Sz K
noncomputable def QC (x:EV) (a0 a1:Value) (Sz:St) (K:VK):Bool:=
 bO a0 fun v0=>
 bO a1 fun v1=>
 aK PP .neq 3 v0 v1 fun v2=>
 gD v2 (K zF Sz) (oR x x.most a0 a1 zI Sz K)
theorem Gg (x:EV) (a0 a1:Value) (Sz:St) (K:VK):hZ PP dD vB (x.E PP) [a0,a1] Sz K=QC x a0 a1 Sz K:=by kernel_rfl
noncomputable def rP (x:EV) (m0:Nat) (t0 t1 t5:Value) (Sz:St) (K:VK):Bool:=
 bO t0 fun v0=>
 aK PP .lss 3 t5 v0 fun v1=>
 gD v1 (dC 1 t0 t5 fun v2=>
 aN v2 Sz fun v3 Sz=>
 dC 1 t1 t5 fun v4=>
 aN v4 Sz fun v5 Sz=>
 aK PP .neq 57 v3 v5 fun v6=>
 gD v6 (K zF Sz) (aK PP .add 3 t5 (.int .i64 (.ofNat 1)) fun v7=>
 oR x m0 t0 t1 v7 Sz K)) (K (.bool true) Sz)
theorem zA (x:EV) (m0:Nat) (t0 t1 t5:Value) (Sz:St) (K:VK):oR x (m0+1) t0 t1 t5 Sz K=rP x m0 t0 t1 t5 Sz K:=by kernel_rfl
noncomputable def oV (x:EV) (m:Nat) (t0 t1 t5:Value) (Sz:St) (K:VK):Bool:=gJ PP dD zZ (x.E PP) [.r,.r,.l,.r,.d] m [] [t0,t1,t5] Sz K
noncomputable def QE (x:EV) (a0 a1:Value) (Sz:St) (K:VK):Bool:=
 bO a0 fun v0=>
 bO a1 fun v1=>
 aK PP .neq 3 v0 v1 fun v2=>
 gD v2 (K zF Sz) (oV x x.most a0 a1 zI Sz K)
theorem Gi (x:EV) (a0 a1:Value) (Sz:St) (K:VK):hZ PP dD zZ (x.E PP) [a0,a1] Sz K=QE x a0 a1 Sz K:=by kernel_rfl
noncomputable def rR (x:EV) (m0:Nat) (t0 t1 t5:Value) (Sz:St) (K:VK):Bool:=
 bO t0 fun v0=>
 aK PP .lss 3 t5 v0 fun v1=>
 gD v1 (dC 5 t0 t5 fun v2=>
 aR 5 v2 Sz fun v3 Sz=>
 dC 5 t1 t5 fun v4=>
 aR 5 v4 Sz fun v5 Sz=>
 aK PP .neq 130 v3 v5 fun v6=>
 gD v6 (K zF Sz) (aK PP .add 3 t5 (.int .i64 (.ofNat 1)) fun v7=>
 oV x m0 t0 t1 v7 Sz K)) (K (.bool true) Sz)
theorem zC (x:EV) (m0:Nat) (t0 t1 t5:Value) (Sz:St) (K:VK):oV x (m0+1) t0 t1 t5 Sz K=rR x m0 t0 t1 t5 Sz K:=by kernel_rfl
noncomputable def mY (x:EV) (m:Nat) (t0 t1 t5:Value) (Sz:St) (K:VK):Bool:=gJ PP dD xF (x.E PP) [.r,.r,.l,.r,.d] m [] [t0,t1,t5] Sz K
noncomputable def MP (x:EV) (a0 a1:Value) (Sz:St) (K:VK):Bool:=
 bO a0 fun v0=>
 bO a1 fun v1=>
 aK PP .neq 3 v0 v1 fun v2=>
 gD v2 (K zF Sz) (mY x x.most a0 a1 zI Sz K)
theorem Bp (x:EV) (a0 a1:Value) (Sz:St) (K:VK):hZ PP dD xF (x.E PP) [a0,a1] Sz K=MP x a0 a1 Sz K:=by kernel_rfl
noncomputable def qQ (x:EV) (m0:Nat) (t0 t1 t5:Value) (Sz:St) (K:VK):Bool:=
 bO t0 fun v0=>
 aK PP .lss 3 t5 v0 fun v1=>
 gD v1 (dC 1 t0 t5 fun v2=>
 aN v2 Sz fun v3 Sz=>
 dC 1 t1 t5 fun v4=>
 aN v4 Sz fun v5 Sz=>
 x.C vB [v3,v5] Sz fun v6 Sz=>
 Ar .not v6 fun v7=>
 gD v7 (K zF Sz) (aK PP .add 3 t5 (.int .i64 (.ofNat 1)) fun v8=>
 mY x m0 t0 t1 v8 Sz K)) (K (.bool true) Sz)
theorem xZ (x:EV) (m0:Nat) (t0 t1 t5:Value) (Sz:St) (K:VK):mY x (m0+1) t0 t1 t5 Sz K=qQ x m0 t0 t1 t5 Sz K:=by kernel_rfl
noncomputable def lI (x:EV) (m:Nat) (t0 t1 t5:Value) (Sz:St) (K:VK):Bool:=gJ PP dD lQ (x.E PP) [.r,.r,.l,.r,.d] m [] [t0,t1,t5] Sz K
noncomputable def GY (x:EV) (a0 a1:Value) (Sz:St) (K:VK):Bool:=
 bO a0 fun v0=>
 bO a1 fun v1=>
 aK PP .neq 3 v0 v1 fun v2=>
 gD v2 (K zF Sz) (lI x x.most a0 a1 zI Sz K)
theorem VP (x:EV) (a0 a1:Value) (Sz:St) (K:VK):hZ PP dD lQ (x.E PP) [a0,a1] Sz K=GY x a0 a1 Sz K:=by kernel_rfl
noncomputable def oS (x:EV) (m0:Nat) (t0 t1 t5:Value) (Sz:St) (K:VK):Bool:=
 bO t0 fun v0=>
 aK PP .lss 3 t5 v0 fun v1=>
 gD v1 (dC 1 t0 t5 fun v2=>
 aN v2 Sz fun v3 Sz=>
 dC 1 t1 t5 fun v4=>
 aN v4 Sz fun v5 Sz=>
 aK PP .neq 57 v3 v5 fun v6=>
 gD v6 (K zF Sz) (aK PP .add 3 t5 (.int .i64 (.ofNat 1)) fun v7=>
 lI x m0 t0 t1 v7 Sz K)) (K (.bool true) Sz)
theorem vC (x:EV) (m0:Nat) (t0 t1 t5:Value) (Sz:St) (K:VK):lI x (m0+1) t0 t1 t5 Sz K=oS x m0 t0 t1 t5 Sz K:=by kernel_rfl
noncomputable def mZ (x:EV) (m:Nat) (t0 t1 t5:Value) (Sz:St) (K:VK):Bool:=gJ PP dD sH (x.E PP) [.r,.r,.l,.r,.d] m [] [t0,t1,t5] Sz K
noncomputable def MQ (x:EV) (a0 a1:Value) (Sz:St) (K:VK):Bool:=
 bO a0 fun v0=>
 bO a1 fun v1=>
 aK PP .neq 3 v0 v1 fun v2=>
 gD v2 (K zF Sz) (mZ x x.most a0 a1 zI Sz K)
theorem Bq (x:EV) (a0 a1:Value) (Sz:St) (K:VK):hZ PP dD sH (x.E PP) [a0,a1] Sz K=MQ x a0 a1 Sz K:=by kernel_rfl
noncomputable def qR (x:EV) (m0:Nat) (t0 t1 t5:Value) (Sz:St) (K:VK):Bool:=
 bO t0 fun v0=>
 aK PP .lss 3 t5 v0 fun v1=>
 gD v1 (dC 2 t0 t5 fun v2=>
 aC 0 v2 fun v3=>
 aN v3 Sz fun v4 Sz=>
 dC 2 t1 t5 fun v5=>
 aC 0 v5 fun v6=>
 aN v6 Sz fun v7 Sz=>
 aK PP .neq 3 v4 v7 fun v8=>
 shut x.most (aA false v8 (fun k=>k t0 Sz) Sz fun v9 Sz=>
 shut x.most (aA false v8 (fun k=>k t5 Sz) Sz fun v10 Sz=>
 shut x.most (aA false v8 (fun k=>dC 2 v9 v10 fun v11=>
 k v11 Sz) Sz fun v12 Sz=>
 shut x.most (aA false v8 (fun k=>aC 1 v12 fun v13=>
 k v13 Sz) Sz fun v14 Sz=>
 shut x.most (aA false v8 (fun k=>aN v14 Sz fun v15 Sz=>
 k v15 Sz) Sz fun v16 Sz=>
 shut x.most (aA false v8 (fun k=>k t1 Sz) Sz fun v17 Sz=>
 shut x.most (aA false v8 (fun k=>k t5 Sz) Sz fun v18 Sz=>
 shut x.most (aA false v8 (fun k=>dC 2 v17 v18 fun v19=>
 k v19 Sz) Sz fun v20 Sz=>
 shut x.most (aA false v8 (fun k=>aC 1 v20 fun v21=>
 k v21 Sz) Sz fun v22 Sz=>
 shut x.most (aA false v8 (fun k=>aN v22 Sz fun v23 Sz=>
 k v23 Sz) Sz fun v24 Sz=>
 shut x.most (aA false v8 (fun k=>x.C lQ [v16,v24] Sz fun v25 Sz=>
 k v25 Sz) Sz fun v26 Sz=>
 aN v6 Sz fun v27 Sz=>
 aU v27 v7 (aN v3 Sz fun v28 Sz=>
 aU v28 v4 (shut x.most (aA false v8 (fun k=>Ar .not v26 fun v29=>
 k v29 Sz) Sz fun v30 Sz=>
 shut x.most (bY v8 (.bool true) v30 fun v31=>
 gD v31 (K zF Sz) (aK PP .add 3 t5 (.int .i64 (.ofNat 1)) fun v32=>
 mZ x m0 t0 t1 v32 Sz K))))))))))))))))) (K (.bool true) Sz)
theorem yA (x:EV) (m0:Nat) (t0 t1 t5:Value) (Sz:St) (K:VK):mZ x (m0+1) t0 t1 t5 Sz K=qR x m0 t0 t1 t5 Sz K:=by kernel_rfl
noncomputable def QH (x:EV) (a0 a1:Value) (Sz:St) (K:VK):Bool:=
 iP 42 a0 Sz fun v0 Sz=>
 iP 42 a1 Sz fun v1 Sz=>
 aC 0 v0 fun v2=>
 aN v2 Sz fun v3 Sz=>
 aC 0 v1 fun v4=>
 aN v4 Sz fun v5 Sz=>
 aK PP .eql 3 v3 v5 fun v6=>
 shut x.most (aA true v6 (fun k=>aC 1 v0 fun v7=>
 k v7 Sz) Sz fun v8 Sz=>
 shut x.most (aA true v6 (fun k=>aN v8 Sz fun v9 Sz=>
 k v9 Sz) Sz fun v10 Sz=>
 shut x.most (aA true v6 (fun k=>aC 1 v1 fun v11=>
 k v11 Sz) Sz fun v12 Sz=>
 shut x.most (aA true v6 (fun k=>aN v12 Sz fun v13 Sz=>
 k v13 Sz) Sz fun v14 Sz=>
 shut x.most (aA true v6 (fun k=>aK PP .eql 3 v10 v14 fun v15=>
 k v15 Sz) Sz fun v16 Sz=>
 shut x.most (bY v6 v16 zF fun v17=>
 shut x.most (aA true v17 (fun k=>aC 2 v0 fun v18=>
 k v18 Sz) Sz fun v19 Sz=>
 shut x.most (aA true v17 (fun k=>aN v19 Sz fun v20 Sz=>
 k v20 Sz) Sz fun v21 Sz=>
 shut x.most (aA true v17 (fun k=>aC 2 v1 fun v22=>
 k v22 Sz) Sz fun v23 Sz=>
 shut x.most (aA true v17 (fun k=>aN v23 Sz fun v24 Sz=>
 k v24 Sz) Sz fun v25 Sz=>
 shut x.most (aA true v17 (fun k=>aK PP .eql 3 v21 v25 fun v26=>
 k v26 Sz) Sz fun v27 Sz=>
 shut x.most (bY v17 v27 zF fun v28=>
 shut x.most (aA true v28 (fun k=>aC 3 v0 fun v29=>
 k v29 Sz) Sz fun v30 Sz=>
 shut x.most (aA true v28 (fun k=>aN v30 Sz fun v31 Sz=>
 k v31 Sz) Sz fun v32 Sz=>
 shut x.most (aA true v28 (fun k=>aC 3 v1 fun v33=>
 k v33 Sz) Sz fun v34 Sz=>
 shut x.most (aA true v28 (fun k=>aN v34 Sz fun v35 Sz=>
 k v35 Sz) Sz fun v36 Sz=>
 shut x.most (aA true v28 (fun k=>aK PP .eql 3 v32 v36 fun v37=>
 k v37 Sz) Sz fun v38 Sz=>
 shut x.most (bY v28 v38 zF fun v39=>
 shut x.most (aA true v39 (fun k=>aC 4 v0 fun v40=>
 k v40 Sz) Sz fun v41 Sz=>
 shut x.most (aA true v39 (fun k=>aN v41 Sz fun v42 Sz=>
 k v42 Sz) Sz fun v43 Sz=>
 shut x.most (aA true v39 (fun k=>aC 4 v1 fun v44=>
 k v44 Sz) Sz fun v45 Sz=>
 shut x.most (aA true v39 (fun k=>aN v45 Sz fun v46 Sz=>
 k v46 Sz) Sz fun v47 Sz=>
 shut x.most (aA true v39 (fun k=>aK PP .eql 3 v43 v47 fun v48=>
 k v48 Sz) Sz fun v49 Sz=>
 shut x.most (bY v39 v49 zF fun v50=>
 shut x.most (aA true v50 (fun k=>aC 5 v0 fun v51=>
 k v51 Sz) Sz fun v52 Sz=>
 shut x.most (aA true v50 (fun k=>aN v52 Sz fun v53 Sz=>
 k v53 Sz) Sz fun v54 Sz=>
 shut x.most (aA true v50 (fun k=>aC 5 v1 fun v55=>
 k v55 Sz) Sz fun v56 Sz=>
 shut x.most (aA true v50 (fun k=>aN v56 Sz fun v57 Sz=>
 k v57 Sz) Sz fun v58 Sz=>
 shut x.most (aA true v50 (fun k=>aK PP .eql 3 v54 v58 fun v59=>
 k v59 Sz) Sz fun v60 Sz=>
 shut x.most (bY v50 v60 zF fun v61=>
 shut x.most (aA true v61 (fun k=>aC 6 v0 fun v62=>
 k v62 Sz) Sz fun v63 Sz=>
 shut x.most (aA true v61 (fun k=>aN v63 Sz fun v64 Sz=>
 k v64 Sz) Sz fun v65 Sz=>
 shut x.most (aA true v61 (fun k=>aC 6 v1 fun v66=>
 k v66 Sz) Sz fun v67 Sz=>
 shut x.most (aA true v61 (fun k=>aN v67 Sz fun v68 Sz=>
 k v68 Sz) Sz fun v69 Sz=>
 shut x.most (aA true v61 (fun k=>aK PP .eql 3 v65 v69 fun v70=>
 k v70 Sz) Sz fun v71 Sz=>
 shut x.most (bY v61 v71 zF fun v72=>
 shut x.most (aA true v72 (fun k=>aC 7 v0 fun v73=>
 k v73 Sz) Sz fun v74 Sz=>
 shut x.most (aA true v72 (fun k=>aN v74 Sz fun v75 Sz=>
 k v75 Sz) Sz fun v76 Sz=>
 shut x.most (aA true v72 (fun k=>aC 7 v1 fun v77=>
 k v77 Sz) Sz fun v78 Sz=>
 shut x.most (aA true v72 (fun k=>aN v78 Sz fun v79 Sz=>
 k v79 Sz) Sz fun v80 Sz=>
 shut x.most (aA true v72 (fun k=>aK PP .eql 9 v76 v80 fun v81=>
 k v81 Sz) Sz fun v82 Sz=>
 shut x.most (bY v72 v82 zF fun v83=>
 shut x.most (aA true v83 (fun k=>aC 8 v0 fun v84=>
 k v84 Sz) Sz fun v85 Sz=>
 shut x.most (aA true v83 (fun k=>aN v85 Sz fun v86 Sz=>
 k v86 Sz) Sz fun v87 Sz=>
 shut x.most (aA true v83 (fun k=>aC 8 v1 fun v88=>
 k v88 Sz) Sz fun v89 Sz=>
 shut x.most (aA true v83 (fun k=>aN v89 Sz fun v90 Sz=>
 k v90 Sz) Sz fun v91 Sz=>
 shut x.most (aA true v83 (fun k=>aK PP .eql 9 v87 v91 fun v92=>
 k v92 Sz) Sz fun v93 Sz=>
 shut x.most (bY v83 v93 zF fun Pv=>
 shut x.most (aA true Pv (fun k=>aC 9 v0 fun v95=>
 k v95 Sz) Sz fun v96 Sz=>
 shut x.most (aA true Pv (fun k=>aN v96 Sz fun v97 Sz=>
 k v97 Sz) Sz fun v98 Sz=>
 shut x.most (aA true Pv (fun k=>aC 9 v1 fun v99=>
 k v99 Sz) Sz fun aAT Sz=>
 shut x.most (aA true Pv (fun k=>aN aAT Sz fun aAU Sz=>
 k aAU Sz) Sz fun aAV Sz=>
 shut x.most (aA true Pv (fun k=>aK PP .eql 3 v98 aAV fun aAW=>
 k aAW Sz) Sz fun aAX Sz=>
 shut x.most (bY Pv aAX zF fun v105=>
 shut x.most (aA true v105 (fun k=>aC 10 v0 fun aAY=>
 k aAY Sz) Sz fun v107 Sz=>
 shut x.most (aA true v105 (fun k=>aN v107 Sz fun Aq Sz=>
 k Aq Sz) Sz fun v109 Sz=>
 shut x.most (aA true v105 (fun k=>aC 10 v1 fun aAZ=>
 k aAZ Sz) Sz fun aA0 Sz=>
 shut x.most (aA true v105 (fun k=>aN aA0 Sz fun aA1 Sz=>
 k aA1 Sz) Sz fun aA2 Sz=>
 shut x.most (aA true v105 (fun k=>aK PP .eql 3 v109 aA2 fun aA3=>
 k aA3 Sz) Sz fun aA4 Sz=>
 shut x.most (bY v105 aA4 zF fun Ce=>
 shut x.most (aA true Ce (fun k=>aC 11 v0 fun v117=>
 k v117 Sz) Sz fun aA5 Sz=>
 shut x.most (aA true Ce (fun k=>aN aA5 Sz fun aA6 Sz=>
 k aA6 Sz) Sz fun aA7 Sz=>
 shut x.most (aA true Ce (fun k=>aC 11 v1 fun Cf=>
 k Cf Sz) Sz fun aEg Sz=>
 shut x.most (aA true Ce (fun k=>aN aEg Sz fun aEh Sz=>
 k aEh Sz) Sz fun v124 Sz=>
 shut x.most (aA true Ce (fun k=>aK PP .eql 4 aA7 v124 fun aEi=>
 k aEi Sz) Sz fun aEj Sz=>
 shut x.most (bY Ce aEj zF fun v127=>
 shut x.most (aA true v127 (fun k=>aC 12 v0 fun aEk=>
 k aEk Sz) Sz fun aEl Sz=>
 shut x.most (aA true v127 (fun k=>aN aEl Sz fun v130 Sz=>
 k v130 Sz) Sz fun v131 Sz=>
 shut x.most (aA true v127 (fun k=>aC 12 v1 fun aEm=>
 k aEm Sz) Sz fun aEn Sz=>
 shut x.most (aA true v127 (fun k=>aN aEn Sz fun aEo Sz=>
 k aEo Sz) Sz fun aEp Sz=>
 shut x.most (aA true v127 (fun k=>aK PP .eql 4 v131 aEp fun aEq=>
 k aEq Sz) Sz fun aHk Sz=>
 shut x.most (bY v127 aHk zF fun v138=>
 shut x.most (aA true v138 (fun k=>aC 13 v0 fun v139=>
 k v139 Sz) Sz fun aHl Sz=>
 shut x.most (aA true v138 (fun k=>aN aHl Sz fun v141 Sz=>
 k v141 Sz) Sz fun aHm Sz=>
 shut x.most (aA true v138 (fun k=>aC 13 v1 fun v143=>
 k v143 Sz) Sz fun aHn Sz=>
 shut x.most (aA true v138 (fun k=>aN aHn Sz fun v145 Sz=>
 k v145 Sz) Sz fun v146 Sz=>
 shut x.most (aA true v138 (fun k=>aK PP .eql 9 aHm v146 fun aHo=>
 k aHo Sz) Sz fun v148 Sz=>
 shut x.most (bY v138 v148 zF fun Wp=>
 shut x.most (aA true Wp (fun k=>aC 14 v0 fun aHp=>
 k aHp Sz) Sz fun aHq Sz=>
 shut x.most (aA true Wp (fun k=>aN aHq Sz fun v152 Sz=>
 k v152 Sz) Sz fun aHr Sz=>
 shut x.most (aA true Wp (fun k=>aC 14 v1 fun v154=>
 k v154 Sz) Sz fun aHs Sz=>
 shut x.most (aA true Wp (fun k=>aN aHs Sz fun aHt Sz=>
 k aHt Sz) Sz fun v157 Sz=>
 shut x.most (aA true Wp (fun k=>x.C zZ [aHr,v157] Sz fun aHu Sz=>
 k aHu Sz) Sz fun v159 Sz=>
 shut x.most (bY Wp v159 zF fun v160=>
 K v160 Sz))))))))))))))))))))))))))))))))))))))))))))))))))))))))))))))))))))))))))))))))))))
theorem Gl (x:EV) (a0 a1:Value) (Sz:St) (K:VK):hZ PP dD GH (x.E PP) [a0,a1] Sz K=QH x a0 a1 Sz K:=by kernel_rfl
noncomputable def QJ (x:EV) (a0 a1:Value) (Sz:St) (K:VK):Bool:=
 iP 137 a0 Sz fun v0 Sz=>
 iP 137 a1 Sz fun v1 Sz=>
 aC 0 v0 fun v2=>
 aN v2 Sz fun v3 Sz=>
 aC 0 v1 fun v4=>
 aN v4 Sz fun v5 Sz=>
 aK PP .eql 3 v3 v5 fun v6=>
 shut x.most (aA true v6 (fun k=>aC 1 v0 fun v7=>
 k v7 Sz) Sz fun v8 Sz=>
 shut x.most (aA true v6 (fun k=>aN v8 Sz fun v9 Sz=>
 k v9 Sz) Sz fun v10 Sz=>
 shut x.most (aA true v6 (fun k=>aC 1 v1 fun v11=>
 k v11 Sz) Sz fun v12 Sz=>
 shut x.most (aA true v6 (fun k=>aN v12 Sz fun v13 Sz=>
 k v13 Sz) Sz fun v14 Sz=>
 shut x.most (aA true v6 (fun k=>aK PP .eql 3 v10 v14 fun v15=>
 k v15 Sz) Sz fun v16 Sz=>
 shut x.most (bY v6 v16 zF fun v17=>
 shut x.most (aA true v17 (fun k=>aC 2 v0 fun v18=>
 k v18 Sz) Sz fun v19 Sz=>
 shut x.most (aA true v17 (fun k=>aN v19 Sz fun v20 Sz=>
 k v20 Sz) Sz fun v21 Sz=>
 shut x.most (aA true v17 (fun k=>aC 2 v1 fun v22=>
 k v22 Sz) Sz fun v23 Sz=>
 shut x.most (aA true v17 (fun k=>aN v23 Sz fun v24 Sz=>
 k v24 Sz) Sz fun v25 Sz=>
 shut x.most (aA true v17 (fun k=>x.C xF [v21,v25] Sz fun v26 Sz=>
 k v26 Sz) Sz fun v27 Sz=>
 shut x.most (bY v17 v27 zF fun v28=>
 shut x.most (aA true v28 (fun k=>aC 3 v0 fun v29=>
 k v29 Sz) Sz fun v30 Sz=>
 shut x.most (aA true v28 (fun k=>aN v30 Sz fun v31 Sz=>
 k v31 Sz) Sz fun v32 Sz=>
 shut x.most (aA true v28 (fun k=>aC 3 v1 fun v33=>
 k v33 Sz) Sz fun v34 Sz=>
 shut x.most (aA true v28 (fun k=>aN v34 Sz fun v35 Sz=>
 k v35 Sz) Sz fun v36 Sz=>
 shut x.most (aA true v28 (fun k=>x.C lQ [v32,v36] Sz fun v37 Sz=>
 k v37 Sz) Sz fun v38 Sz=>
 shut x.most (bY v28 v38 zF fun v39=>
 shut x.most (aA true v39 (fun k=>aC 4 v0 fun v40=>
 k v40 Sz) Sz fun v41 Sz=>
 shut x.most (aA true v39 (fun k=>aN v41 Sz fun v42 Sz=>
 k v42 Sz) Sz fun v43 Sz=>
 shut x.most (aA true v39 (fun k=>aC 4 v1 fun v44=>
 k v44 Sz) Sz fun v45 Sz=>
 shut x.most (aA true v39 (fun k=>aN v45 Sz fun v46 Sz=>
 k v46 Sz) Sz fun v47 Sz=>
 shut x.most (aA true v39 (fun k=>x.C sH [v43,v47] Sz fun v48 Sz=>
 k v48 Sz) Sz fun v49 Sz=>
 shut x.most (bY v39 v49 zF fun v50=>
 shut x.most (aA true v50 (fun k=>aC 5 v0 fun v51=>
 k v51 Sz) Sz fun v52 Sz=>
 shut x.most (aA true v50 (fun k=>aN v52 Sz fun v53 Sz=>
 k v53 Sz) Sz fun v54 Sz=>
 shut x.most (aA true v50 (fun k=>aC 5 v1 fun v55=>
 k v55 Sz) Sz fun v56 Sz=>
 shut x.most (aA true v50 (fun k=>aN v56 Sz fun v57 Sz=>
 k v57 Sz) Sz fun v58 Sz=>
 shut x.most (aA true v50 (fun k=>x.C sH [v54,v58] Sz fun v59 Sz=>
 k v59 Sz) Sz fun v60 Sz=>
 shut x.most (bY v50 v60 zF fun v61=>
 shut x.most (aA true v61 (fun k=>aC 6 v0 fun v62=>
 k v62 Sz) Sz fun v63 Sz=>
 shut x.most (aA true v61 (fun k=>aN v63 Sz fun v64 Sz=>
 k v64 Sz) Sz fun v65 Sz=>
 shut x.most (aA true v61 (fun k=>aC 6 v1 fun v66=>
 k v66 Sz) Sz fun v67 Sz=>
 shut x.most (aA true v61 (fun k=>aN v67 Sz fun v68 Sz=>
 k v68 Sz) Sz fun v69 Sz=>
 shut x.most (aA true v61 (fun k=>x.C lQ [v65,v69] Sz fun v70 Sz=>
 k v70 Sz) Sz fun v71 Sz=>
 shut x.most (bY v61 v71 zF fun v72=>
 shut x.most (aA true v72 (fun k=>aC 7 v0 fun v73=>
 k v73 Sz) Sz fun v74 Sz=>
 shut x.most (aA true v72 (fun k=>aN v74 Sz fun v75 Sz=>
 k v75 Sz) Sz fun v76 Sz=>
 shut x.most (aA true v72 (fun k=>aC 7 v1 fun v77=>
 k v77 Sz) Sz fun v78 Sz=>
 shut x.most (aA true v72 (fun k=>aN v78 Sz fun v79 Sz=>
 k v79 Sz) Sz fun v80 Sz=>
 shut x.most (aA true v72 (fun k=>aK PP .eql 4 v76 v80 fun v81=>
 k v81 Sz) Sz fun v82 Sz=>
 shut x.most (bY v72 v82 zF fun v83=>
 K v83 Sz))))))))))))))))))))))))))))))))))))))))))
theorem Gn (x:EV) (a0 a1:Value) (Sz:St) (K:VK):hZ PP dD GI (x.E PP) [a0,a1] Sz K=QJ x a0 a1 Sz K:=by kernel_rfl
noncomputable def oW (x:EV) (m:Nat) (t2 t3 t5:Value) (Sz:St) (K:VK):Bool:=gJ PP dD AA (x.E PP) [.r,.r,.l,.r,.d] m [] [t2,t3,t5] Sz K
noncomputable def QF (x:EV) (a0 a1:Value) (Sz:St) (K:VK):Bool:=
 iP 62 a0 Sz fun v0 Sz=>
 iP 62 a1 Sz fun v1 Sz=>
 aC 0 v0 fun v2=>
 aN v2 Sz fun v3 Sz=>
 aC 0 v1 fun v4=>
 aN v4 Sz fun v5 Sz=>
 aK PP .neq 5 v3 v5 fun v6=>
 shut x.most (aA false v6 (fun k=>aC 1 v0 fun v7=>
 k v7 Sz) Sz fun v8 Sz=>
 shut x.most (aA false v6 (fun k=>aN v8 Sz fun v9 Sz=>
 k v9 Sz) Sz fun v10 Sz=>
 shut x.most (aA false v6 (fun k=>aC 1 v1 fun v11=>
 k v11 Sz) Sz fun v12 Sz=>
 shut x.most (aA false v6 (fun k=>aN v12 Sz fun v13 Sz=>
 k v13 Sz) Sz fun v14 Sz=>
 shut x.most (aA false v6 (fun k=>aK PP .neq 3 v10 v14 fun v15=>
 k v15 Sz) Sz fun v16 Sz=>
 shut x.most (bY v6 (.bool true) v16 fun v17=>
 shut x.most (aA false v17 (fun k=>aC 2 v0 fun v18=>
 k v18 Sz) Sz fun v19 Sz=>
 shut x.most (aA false v17 (fun k=>aN v19 Sz fun v20 Sz=>
 k v20 Sz) Sz fun v21 Sz=>
 shut x.most (aA false v17 (fun k=>aC 2 v1 fun v22=>
 k v22 Sz) Sz fun v23 Sz=>
 shut x.most (aA false v17 (fun k=>aN v23 Sz fun v24 Sz=>
 k v24 Sz) Sz fun v25 Sz=>
 shut x.most (aA false v17 (fun k=>aK PP .neq 3 v21 v25 fun v26=>
 k v26 Sz) Sz fun v27 Sz=>
 shut x.most (bY v17 (.bool true) v27 fun v28=>
 shut x.most (aA false v28 (fun k=>aC 3 v0 fun v29=>
 k v29 Sz) Sz fun v30 Sz=>
 shut x.most (aA false v28 (fun k=>aN v30 Sz fun v31 Sz=>
 k v31 Sz) Sz fun v32 Sz=>
 shut x.most (aA false v28 (fun k=>aC 3 v1 fun v33=>
 k v33 Sz) Sz fun v34 Sz=>
 shut x.most (aA false v28 (fun k=>aN v34 Sz fun v35 Sz=>
 k v35 Sz) Sz fun v36 Sz=>
 shut x.most (aA false v28 (fun k=>aK PP .neq 3 v32 v36 fun v37=>
 k v37 Sz) Sz fun v38 Sz=>
 shut x.most (bY v28 (.bool true) v38 fun v39=>
 shut x.most (aA false v39 (fun k=>aC 4 v0 fun v40=>
 k v40 Sz) Sz fun v41 Sz=>
 shut x.most (aA false v39 (fun k=>aN v41 Sz fun v42 Sz=>
 k v42 Sz) Sz fun v43 Sz=>
 shut x.most (aA false v39 (fun k=>aC 4 v1 fun v44=>
 k v44 Sz) Sz fun v45 Sz=>
 shut x.most (aA false v39 (fun k=>aN v45 Sz fun v46 Sz=>
 k v46 Sz) Sz fun v47 Sz=>
 shut x.most (aA false v39 (fun k=>aK PP .neq 3 v43 v47 fun v48=>
 k v48 Sz) Sz fun v49 Sz=>
 shut x.most (bY v39 (.bool true) v49 fun v50=>
 shut x.most (aA false v50 (fun k=>aC 5 v0 fun v51=>
 k v51 Sz) Sz fun v52 Sz=>
 shut x.most (aA false v50 (fun k=>aN v52 Sz fun v53 Sz=>
 k v53 Sz) Sz fun v54 Sz=>
 shut x.most (aA false v50 (fun k=>aC 5 v1 fun v55=>
 k v55 Sz) Sz fun v56 Sz=>
 shut x.most (aA false v50 (fun k=>aN v56 Sz fun v57 Sz=>
 k v57 Sz) Sz fun v58 Sz=>
 shut x.most (aA false v50 (fun k=>aK PP .neq 3 v54 v58 fun v59=>
 k v59 Sz) Sz fun v60 Sz=>
 shut x.most (bY v50 (.bool true) v60 fun v61=>
 shut x.most (aA false v61 (fun k=>aC 6 v0 fun v62=>
 k v62 Sz) Sz fun v63 Sz=>
 shut x.most (aA false v61 (fun k=>aN v63 Sz fun v64 Sz=>
 k v64 Sz) Sz fun v65 Sz=>
 shut x.most (aA false v61 (fun k=>aC 6 v1 fun v66=>
 k v66 Sz) Sz fun v67 Sz=>
 shut x.most (aA false v61 (fun k=>aN v67 Sz fun v68 Sz=>
 k v68 Sz) Sz fun v69 Sz=>
 shut x.most (aA false v61 (fun k=>aK PP .neq 3 v65 v69 fun v70=>
 k v70 Sz) Sz fun v71 Sz=>
 shut x.most (bY v61 (.bool true) v71 fun v72=>
 shut x.most (aA false v72 (fun k=>aC 7 v0 fun v73=>
 k v73 Sz) Sz fun v74 Sz=>
 shut x.most (aA false v72 (fun k=>aN v74 Sz fun v75 Sz=>
 k v75 Sz) Sz fun v76 Sz=>
 shut x.most (aA false v72 (fun k=>aC 7 v1 fun v77=>
 k v77 Sz) Sz fun v78 Sz=>
 shut x.most (aA false v72 (fun k=>aN v78 Sz fun v79 Sz=>
 k v79 Sz) Sz fun v80 Sz=>
 shut x.most (aA false v72 (fun k=>aK PP .neq 3 v76 v80 fun v81=>
 k v81 Sz) Sz fun v82 Sz=>
 shut x.most (bY v72 (.bool true) v82 fun v83=>
 shut x.most (aA false v83 (fun k=>aC 8 v0 fun v84=>
 k v84 Sz) Sz fun v85 Sz=>
 shut x.most (aA false v83 (fun k=>aN v85 Sz fun v86 Sz=>
 k v86 Sz) Sz fun v87 Sz=>
 shut x.most (aA false v83 (fun k=>aC 8 v1 fun v88=>
 k v88 Sz) Sz fun v89 Sz=>
 shut x.most (aA false v83 (fun k=>aN v89 Sz fun v90 Sz=>
 k v90 Sz) Sz fun v91 Sz=>
 shut x.most (aA false v83 (fun k=>aK PP .neq 3 v87 v91 fun v92=>
 k v92 Sz) Sz fun v93 Sz=>
 shut x.most (bY v83 (.bool true) v93 fun Pv=>
 shut x.most (aA false Pv (fun k=>aC 9 v0 fun v95=>
 k v95 Sz) Sz fun v96 Sz=>
 shut x.most (aA false Pv (fun k=>aN v96 Sz fun v97 Sz=>
 k v97 Sz) Sz fun v98 Sz=>
 shut x.most (aA false Pv (fun k=>aC 9 v1 fun v99=>
 k v99 Sz) Sz fun aAT Sz=>
 shut x.most (aA false Pv (fun k=>aN aAT Sz fun aAU Sz=>
 k aAU Sz) Sz fun aAV Sz=>
 shut x.most (aA false Pv (fun k=>aK PP .neq 9 v98 aAV fun aAW=>
 k aAW Sz) Sz fun aAX Sz=>
 shut x.most (bY Pv (.bool true) aAX fun v105=>
 shut x.most (aA false v105 (fun k=>aC 10 v0 fun aAY=>
 k aAY Sz) Sz fun v107 Sz=>
 shut x.most (aA false v105 (fun k=>aN v107 Sz fun Aq Sz=>
 k Aq Sz) Sz fun v109 Sz=>
 shut x.most (aA false v105 (fun k=>bO v109 fun aAZ=>
 k aAZ Sz) Sz fun aA0 Sz=>
 shut x.most (aA false v105 (fun k=>aC 10 v1 fun aA1=>
 k aA1 Sz) Sz fun aA2 Sz=>
 shut x.most (aA false v105 (fun k=>aN aA2 Sz fun aA3 Sz=>
 k aA3 Sz) Sz fun aA4 Sz=>
 shut x.most (aA false v105 (fun k=>bO aA4 fun Ce=>
 k Ce Sz) Sz fun v117 Sz=>
 shut x.most (aA false v105 (fun k=>aK PP .neq 3 aA0 v117 fun aA5=>
 k aA5 Sz) Sz fun aA6 Sz=>
 shut x.most (bY v105 (.bool true) aA6 fun aA7=>
 gD aA7 (K zF Sz) (oW x x.most v0 v1 zI Sz K)))))))))))))))))))))))))))))))))))))))))))))))))))))))))))))))
theorem Gj (x:EV) (a0 a1:Value) (Sz:St) (K:VK):hZ PP dD AA (x.E PP) [a0,a1] Sz K=QF x a0 a1 Sz K:=by kernel_rfl
noncomputable def rS (x:EV) (m0:Nat) (t2 t3 t5:Value) (Sz:St) (K:VK):Bool:=
 aC 10 t2 fun v0=>
 aN v0 Sz fun v1 Sz=>
 bO v1 fun v2=>
 aK PP .lss 3 t5 v2 fun v3=>
 gD v3 (aC 10 t2 fun v4=>
 aN v4 Sz fun v5 Sz=>
 dC 1 v5 t5 fun v6=>
 aN v6 Sz fun v7 Sz=>
 aC 10 t3 fun v8=>
 aN v8 Sz fun v9 Sz=>
 dC 1 v9 t5 fun v10=>
 aN v10 Sz fun v11 Sz=>
 aK PP .neq 57 v7 v11 fun v12=>
 gD v12 (K zF Sz) (aK PP .add 3 t5 (.int .i64 (.ofNat 1)) fun v13=>
 oW x m0 t2 t3 v13 Sz K)) (K (.bool true) Sz)
theorem zD (x:EV) (m0:Nat) (t2 t3 t5:Value) (Sz:St) (K:VK):oW x (m0+1) t2 t3 t5 Sz K=rS x m0 t2 t3 t5 Sz K:=by kernel_rfl
end Go.Am
namespace Go.Am
open Go.RowKit Go.MapKept Go.Proofs Go.Proofs.jB
variable{most:Nat}
theorem ZK (op:Bool->Bool) (k:Bool):sW false (.bool true) undef op k=k:=rfl
theorem NN (u:Value) (op:Bool->Bool) (k:Bool):sW false zF u op k=op k:=rfl
theorem aAd (d:D):pI d d=true:=(dZ d d).2 rfl
theorem Km (d:List D):BG d d=true:=(cI d d).2 rfl
theorem LG (d:List (List D)):kN d d=true:=(gK d d).2 rfl
theorem QB{da db:List D}{n:Nat} (h1:da.length=n) (h2:db.length=n) (h:∀j,j<n->ats da j=ats db j):da=db:=by
 apply List.ext_getElem (by omega);intro j a b;have:=h j (by omega);unfold ats at this;rw [List.getElem?_eq_getElem a,List.getElem?_eq_getElem b]at this;exact this
theorem EL{Sz:St}{C C':Nat->Prop}{its:List It}{va vb:List Value}{da db:List D} (ha:lL Sz C its va da) (hb:lL Sz C' its vb db) (t:TypeId){g:Value->Value->St->Bool}
 (h:∀(b1 b2:Nat) (S2z:St),aZ Sz S2z->qO S2z (fun _=>False) its b1 0 da->qO S2z (fun _=>False) its b2 0 db->g (pt b1 0) (pt b2 0) S2z=true):
 iP t (.agg ⟨va⟩) Sz (fun v0 Sz=>iP t (.agg ⟨vb⟩) Sz fun v1 Sz=>g v0 v1 Sz)=true:=by
 rw [eI (List.all_eq_true.2 ha.one),eI (List.all_eq_true.2 hb.one)];have x1:=aZ.new Sz (.cells va t .exact);have x2:=aZ.new (Sz.new (.cells va t .exact)) (.cells vb t .exact);exact h _ _ _ (x1.trans x2) ((ha.Hl t).fr ⟨x2.n,fun i hi _=>x2.same i hi,fun _ h=> .inl h⟩) ((hb.fr (x1.fr _)).Hl t)
theorem qO.LO{Sz:St}{C:Nat->Prop}{its:List It}{b:Nat}{ds:List D} (h:qO Sz C its b 0 ds) (j:Nat){it:It} (hj:its[j]? =some it):∃v,Rd Sz C it v (ats ds j)/\∀S',aZ Sz S'->∀K,aN (pt b j) S' K=K v S':=by
 obtain⟨v,hv,hl⟩:=h.val' j hj;exact⟨v,hv,fun S' hx K=>by have:=hl S' hx K;rwa [Nat.zero_add]at this⟩
theorem qO.mR{Sz:St}{C:Nat->Prop}{its dJ:List It}{b:Nat}{ds:List D} (h:qO Sz C its b 0 ds) (j:Nat) (hj:its[j]? =some (.list dJ)):∃v,Rd Sz C (.list dJ) v (.l (bT (ats ds j)))/\(∀S',aZ Sz S'->∀K,aN (pt b j) S' K=K v S')/\ats ds j= .l (bT (ats ds j)):=by
 obtain⟨v,hv,hl⟩:=h.LO j hj;have e:=dL hv;exact⟨v,by rw [<-e];exact hv,hl,e⟩
theorem qO.EG{Sz:St}{C:Nat->Prop}{its:List It}{b:Nat}{ds:List D} (h:qO Sz C its b 0 ds) (j:Nat) (hj:its[j]? =some .nums):∃v,Rd Sz C (.list [.num]) v (.l (bT (ats ds j)))/\(∀S',aZ Sz S'->∀K,aN (pt b j) S' K=K v S')/\ats ds j= .l (bT (ats ds j)):=by
 obtain⟨v,hv,hl⟩:=h.LO j hj
 have hv':∃es,ats ds j= .l es/\Rd Sz C (.list [.num]) v (.l es):=by
  generalize hd:ats ds j=d at hv;cases hv with | nums h=>exact⟨_,rfl,h⟩
 obtain⟨es,e,hr⟩:=hv';rw [e];exact⟨v,hr,hl,rfl⟩
theorem sG{da db:List D}{j:Nat} (q:pI (ats da j) (ats db j)=false):da≠db:=fun e=>by subst e;rw [aAd]at q;cases q
theorem aE6{da db:List D}{k m:Nat} (q:BG ((da.drop k).take m) ((db.drop k).take m)=false):da≠db:=fun e=>by subst e;rw [Km]at q;cases q
theorem CJ{da db:List D}{j:Nat} (q:kN (bT (ats da j)) (bT (ats db j))=false):da≠db:=fun e=>by subst e;rw [LG]at q;cases q
theorem lG{Sz:St}{C C':Nat->Prop}{its:List It}{b1 b2:Nat}{da db:List D} (sa:qO Sz C its b1 0 da) (sb:qO Sz C' its b2 0 db) (j:Nat) (hj:its[j]? =some .int):
 ∃u w,(∀S',aZ Sz S'->∀K,aN (pt b1 j) S' K=K u S')/\(∀S',aZ Sz S'->∀K,aN (pt b2 j) S' K=K w S')/\∀(t:TypeId) (K:Value->Bool),aK PP .eql t u w K=K (.bool (pI (ats da j) (ats db j))):=by
 obtain⟨u,hu,la⟩:=sa.LO j hj;obtain⟨w,hw,lb⟩:=sb.LO j hj;exact⟨u,w,la,lb,fun t K=>(PZ hu hw t K).1⟩
theorem mL{Sz:St}{C C':Nat->Prop}{its:List It}{b1 b2:Nat}{da db:List D} (sa:qO Sz C its b1 0 da) (sb:qO Sz C' its b2 0 db) (j:Nat) (hj:its[j]? =some .int):
 ∃u w,(∀S',aZ Sz S'->∀K,aN (pt b1 j) S' K=K u S')/\(∀S',aZ Sz S'->∀K,aN (pt b2 j) S' K=K w S')/\∀(t:TypeId) (K:Value->Bool),aK PP .neq t u w K=K (.bool (!pI (ats da j) (ats db j))):=by
 obtain⟨u,hu,la⟩:=sa.LO j hj;obtain⟨w,hw,lb⟩:=sb.LO j hj;exact⟨u,w,la,lb,fun t K=>(PZ hu hw t K).2⟩
theorem SI{Sz:St}{C C':Nat->Prop}{its:List It}{b1 b2:Nat}{da db:List D} (sa:qO Sz C its b1 0 da) (sb:qO Sz C' its b2 0 db) (j:Nat) (hj:its[j]? =some .is):
 ∃u w,(∀S',aZ Sz S'->∀K,aN (pt b1 j) S' K=K u S')/\(∀S',aZ Sz S'->∀K,aN (pt b2 j) S' K=K w S')/\∀(K:Value->Bool),aK PP .eql 4 u w K=K (.bool (pI (ats da j) (ats db j))):=by
 obtain⟨u,hu,la⟩:=sa.LO j hj;obtain⟨w,hw,lb⟩:=sb.LO j hj;exact⟨u,w,la,lb,fun K=>(aAb hu hw K).1⟩
theorem Dj{Sz:St}{C C':Nat->Prop}{its:List It}{b1 b2:Nat}{da db:List D} (sa:qO Sz C its b1 0 da) (sb:qO Sz C' its b2 0 db) (j:Nat) (hj:its[j]? =some .is):
 ∃u w,(∀S',aZ Sz S'->∀K,aN (pt b1 j) S' K=K u S')/\(∀S',aZ Sz S'->∀K,aN (pt b2 j) S' K=K w S')/\∀(K:Value->Bool),aK PP .neq 4 u w K=K (.bool (!pI (ats da j) (ats db j))):=by
 obtain⟨u,hu,la⟩:=sa.LO j hj;obtain⟨w,hw,lb⟩:=sb.LO j hj;exact⟨u,w,la,lb,fun K=>(aAb hu hw K).2⟩
theorem Ko{Sz:St}{C C':Nat->Prop}{its:List It}{b1 b2:Nat}{da db:List D} (sa:qO Sz C its b1 0 da) (sb:qO Sz C' its b2 0 db) (j:Nat) (hj:its[j]? =some .kind):
 ∃u w,(∀S',aZ Sz S'->∀K,aN (pt b1 j) S' K=K u S')/\(∀S',aZ Sz S'->∀K,aN (pt b2 j) S' K=K w S')/\∀(t:TypeId) (K:Value->Bool),aK PP .neq t u w K=K (.bool (!pI (ats da j) (ats db j))):=by
 obtain⟨u,hu,la⟩:=sa.LO j hj;obtain⟨w,hw,lb⟩:=sb.LO j hj;exact⟨u,w,la,lb,fun t K=>(aAa hu hw t K).2⟩
theorem JU{Sz:St}{C C':Nat->Prop}{its:List It}{b1 b2:Nat}{da db:List D} (sa:qO Sz C its b1 0 da) (sb:qO Sz C' its b2 0 db) (j:Nat) (hj:its[j]? =some .text):
 ∃u w,(∀S',aZ Sz S'->∀K,aN (pt b1 j) S' K=K u S')/\(∀S',aZ Sz S'->∀K,aN (pt b2 j) S' K=K w S')/\∀(t:TypeId) (K:Value->Bool),aK PP .eql t u w K=K (.bool (pI (ats da j) (ats db j))):=by
 obtain⟨u,hu,la⟩:=sa.LO j hj;obtain⟨w,hw,lb⟩:=sb.LO j hj;exact⟨u,w,la,lb,fun t K=>(ZJ hu hw t K).1⟩
theorem UO{Sz:St}{C C':Nat->Prop}{its:List It}{b1 b2:Nat}{da db:List D} (sa:qO Sz C its b1 0 da) (sb:qO Sz C' its b2 0 db) (j:Nat) (hj:its[j]? =some .text):
 ∃u w,(∀S',aZ Sz S'->∀K,aN (pt b1 j) S' K=K u S')/\(∀S',aZ Sz S'->∀K,aN (pt b2 j) S' K=K w S')/\∀(t:TypeId) (K:Value->Bool),aK PP .neq t u w K=K (.bool (!pI (ats da j) (ats db j))):=by
 obtain⟨u,hu,la⟩:=sa.LO j hj;obtain⟨w,hw,lb⟩:=sb.LO j hj;exact⟨u,w,la,lb,fun t K=>(ZJ hu hw t K).2⟩
theorem dS{da db:List D}{k m n:Nat} (h1:da.length=n) (h2:db.length=n) (h:(da.drop k).take m=(db.drop k).take m) (i:Nat) (hi:i<m) (hn:k+i<n):ats da (k+i)=ats db (k+i):=by
 have:=congrArg (fun l=>l[i]?) h;simp only [List.getElem?_take,if_pos hi,List.getElem?_drop]at this;unfold ats;rw [this]
theorem LP (hM:140737488355328<most){n:Nat}{Sz:St}{C C':Nat->Prop}{a b:Value}{es fs:List (List D)}{K:VK} (ha:Rd Sz C (.list [.num]) a (.l es)) (hb:Rd Sz C' (.list [.num]) b (.l fs)) (he:es.length=fs.length):
 ∀(r i m:Nat) (S':St),i+r=es.length->r<m->aZ Sz S'->(∀S2z,aZ Sz S2z->K (.bool (kN (es.drop i) (fs.drop i))) S2z=true)->oR (X most (n+0)) m a b (.int .i64 (.ofNat i)) S' K=true:=by
 obtain⟨hN,hlen⟩:=ha.bD;have hN:es.length<=140737488355328:=hN;intro r;induction r with
 | zero=>
  intro i m S' hi hm hx hK;obtain⟨m,rfl⟩:=Nat.exists_eq_succ_of_ne_zero (show m≠0 by omega);rw [zA];unfold rP;rw [hlen,aG,show decide (i<bH (.l es))=false from decide_eq_false (show ¬i<es.length by omega),cA];have:=hK S' hx
  rwa [pM (by omega) (by omega)]at this
 | succ r ih=>
  intro i m S' hi hm hx hK;obtain⟨m,rfl⟩:=Nat.exists_eq_succ_of_ne_zero (show m≠0 by omega);have hlt:i<es.length:=by omega
  have hlt2:i<fs.length:=by omega
  rw [zA];unfold rP;rw [hlen,aG,show decide (i<bH (.l es))=true from decide_eq_true (show i<es.length from hlt),bS];obtain⟨ba,oa,sa,ia⟩:=ha.at hlt 1 rfl;obtain⟨bb,ob,sb,ib⟩:=hb.at hlt2 1 rfl;obtain⟨u,ru,lu⟩:=(sa.fr (hx.fr _)).val' 0 (it:= .num) rfl;obtain⟨w,rw',lw⟩:=(sb.fr (hx.fr _)).val' 0 (it:= .num) rfl;have lu:=lu S' (.refl S');have lw:=lw S' (.refl S');rw [Nat.add_zero]at lu lw;rw [ia,lu,ib,lw,(Gd ru rw' _ _).2,<-QA sa.len sb.len];cases hq:BG es[i] fs[i]with
  | false=>
   simp only [Bool.not_false,bS];have:=hK S' hx;rw [dF hlt hlt2,hq]at this;exact this
  | true=>
   simp only [Bool.not_true,cA];rw [aP _ _ _ _ (by omega)];refine ih (i+1) m S' (by omega) (by omega) hx fun S2z x2=>?_;have:=hK S2z x2;rw [dF hlt hlt2,hq]at this;exact this
theorem JV (hM:140737488355328<most):Gf most vB [.num] 1:=by
 intro n Sz C C' a b es fs K ha hb hK;rw [aT (by rfl),Gg];unfold QC;rw [ha.bD.2,hb.bD.2,dM];by_cases he:es.length=fs.length
 ·rw [show decide (bH (.l es)=bH (.l fs))=true from decide_eq_true he]
  show gD zF _ _=true;rw [cA,bP];have hN:es.length<=140737488355328:=ha.bD.1;exact LP hM ha hb he es.length 0 most Sz (by omega) (by omega) (.refl Sz) fun S2z x2=>hK S2z x2
 ·rw [show decide (bH (.l es)=bH (.l fs))=false from decide_eq_false he]
  show gD (.bool true) _ _=true;rw [bS];have:=hK Sz (.refl Sz)
  rwa [vA he]at this
theorem GF (hM:140737488355328<most){n:Nat}{Sz:St}{C C':Nat->Prop}{a b:Value}{es fs:List (List D)}{K:VK} (ha:Rd Sz C (.list [.num]) a (.l es)) (hb:Rd Sz C' (.list [.num]) b (.l fs)) (he:es.length=fs.length):
 ∀(r i m:Nat) (S':St),i+r=es.length->r<m->aZ Sz S'->(∀S2z,aZ Sz S2z->K (.bool (kN (es.drop i) (fs.drop i))) S2z=true)->lI (X most (n+0)) m a b (.int .i64 (.ofNat i)) S' K=true:=by
 obtain⟨hN,hlen⟩:=ha.bD;have hN:es.length<=140737488355328:=hN;intro r;induction r with
 | zero=>
  intro i m S' hi hm hx hK;obtain⟨m,rfl⟩:=Nat.exists_eq_succ_of_ne_zero (show m≠0 by omega);rw [vC];unfold oS;rw [hlen,aG,show decide (i<bH (.l es))=false from decide_eq_false (show ¬i<es.length by omega),cA];have:=hK S' hx
  rwa [pM (by omega) (by omega)]at this
 | succ r ih=>
  intro i m S' hi hm hx hK;obtain⟨m,rfl⟩:=Nat.exists_eq_succ_of_ne_zero (show m≠0 by omega);have hlt:i<es.length:=by omega
  have hlt2:i<fs.length:=by omega
  rw [vC];unfold oS;rw [hlen,aG,show decide (i<bH (.l es))=true from decide_eq_true (show i<es.length from hlt),bS];obtain⟨ba,oa,sa,ia⟩:=ha.at hlt 1 rfl;obtain⟨bb,ob,sb,ib⟩:=hb.at hlt2 1 rfl;obtain⟨u,ru,lu⟩:=(sa.fr (hx.fr _)).val' 0 (it:= .num) rfl;obtain⟨w,rw',lw⟩:=(sb.fr (hx.fr _)).val' 0 (it:= .num) rfl;have lu:=lu S' (.refl S');have lw:=lw S' (.refl S');rw [Nat.add_zero]at lu lw;rw [ia,lu,ib,lw,(Gd ru rw' _ _).2,<-QA sa.len sb.len];cases hq:BG es[i] fs[i]with
  | false=>
   simp only [Bool.not_false,bS];have:=hK S' hx;rw [dF hlt hlt2,hq]at this;exact this
  | true=>
   simp only [Bool.not_true,cA];rw [aP _ _ _ _ (by omega)];refine ih (i+1) m S' (by omega) (by omega) hx fun S2z x2=>?_;have:=hK S2z x2;rw [dF hlt hlt2,hq]at this;exact this
theorem vD (hM:140737488355328<most):Gf most lQ [.num] 1:=by
 intro n Sz C C' a b es fs K ha hb hK;rw [aT (by rfl),VP];unfold GY;rw [ha.bD.2,hb.bD.2,dM];by_cases he:es.length=fs.length
 ·rw [show decide (bH (.l es)=bH (.l fs))=true from decide_eq_true he]
  show gD zF _ _=true;rw [cA,bP];have hN:es.length<=140737488355328:=ha.bD.1;exact GF hM ha hb he es.length 0 most Sz (by omega) (by omega) (.refl Sz) fun S2z x2=>hK S2z x2
 ·rw [show decide (bH (.l es)=bH (.l fs))=false from decide_eq_false he]
  show gD (.bool true) _ _=true;rw [bS];have:=hK Sz (.refl Sz)
  rwa [vA he]at this
theorem GG (hM:140737488355328<most){n:Nat}{Sz:St}{C C':Nat->Prop}{a b:Value}{es fs:List (List D)}{K:VK} (ha:Rd Sz C (.list bA) a (.l es)) (hb:Rd Sz C' (.list bA) b (.l fs)) (he:es.length=fs.length):
 ∀(r i m:Nat) (S':St),i+r=es.length->r<m->aZ Sz S'->(∀S2z,aZ Sz S2z->K (.bool (kN (es.drop i) (fs.drop i))) S2z=true)->lJ (X most (n+0)) m a b (.int .i64 (.ofNat i)) S' K=true:=by
 obtain⟨hN,hlen⟩:=ha.bD;have hN:es.length<=140737488355328:=hN;intro r;induction r with
 | zero=>
  intro i m S' hi hm hx hK;obtain⟨m,rfl⟩:=Nat.exists_eq_succ_of_ne_zero (show m≠0 by omega);rw [vE];unfold oT;rw [hlen,aG,show decide (i<bH (.l es))=false from decide_eq_false (show ¬i<es.length by omega),cA];have:=hK S' hx
  rwa [pM (by omega) (by omega)]at this
 | succ r ih=>
  intro i m S' hi hm hx hK;obtain⟨m,rfl⟩:=Nat.exists_eq_succ_of_ne_zero (show m≠0 by omega);have hlt:i<es.length:=by omega
  have hlt2:i<fs.length:=by omega
  rw [vE];unfold oT;rw [hlen,aG,show decide (i<bH (.l es))=true from decide_eq_true (show i<es.length from hlt),bS];obtain⟨ba,oa,sa,ia⟩:=ha.at hlt 1 rfl;obtain⟨bb,ob,sb,ib⟩:=hb.at hlt2 1 rfl;obtain⟨u,ru,lu⟩:=(sa.fr (hx.fr _)).val' 0 (it:= .text) rfl;obtain⟨w,rw',lw⟩:=(sb.fr (hx.fr _)).val' 0 (it:= .text) rfl;have lu:=lu S' (.refl S');have lw:=lw S' (.refl S');rw [Nat.add_zero]at lu lw;rw [ia,lu,ib,lw,(ZJ ru rw' _ _).2,<-QA sa.len sb.len];cases hq:BG es[i] fs[i]with
  | false=>
   simp only [Bool.not_false,bS];have:=hK S' hx;rw [dF hlt hlt2,hq]at this;exact this
  | true=>
   simp only [Bool.not_true,cA];rw [aP _ _ _ _ (by omega)];refine ih (i+1) m S' (by omega) (by omega) hx fun S2z x2=>?_;have:=hK S2z x2;rw [dF hlt hlt2,hq]at this;exact this
theorem CL (hM:140737488355328<most):Gf most pN bA 1:=by
 intro n Sz C C' a b es fs K ha hb hK;rw [aT (by rfl),VQ];unfold GZ;rw [ha.bD.2,hb.bD.2,dM];by_cases he:es.length=fs.length
 ·rw [show decide (bH (.l es)=bH (.l fs))=true from decide_eq_true he]
  show gD zF _ _=true;rw [cA,bP];have hN:es.length<=140737488355328:=ha.bD.1;exact GG hM ha hb he es.length 0 most Sz (by omega) (by omega) (.refl Sz) fun S2z x2=>hK S2z x2
 ·rw [show decide (bH (.l es)=bH (.l fs))=false from decide_eq_false he]
  show gD (.bool true) _ _=true;rw [bS];have:=hK Sz (.refl Sz)
  rwa [vA he]at this
theorem LQ (hM:140737488355328<most){n:Nat}{Sz:St}{C C':Nat->Prop}{a b:Value}{es fs:List (List D)}{K:VK} (ha:Rd Sz C (.list aY) a (.l es)) (hb:Rd Sz C' (.list aY) b (.l fs)) (he:es.length=fs.length):
 ∀(r i m:Nat) (S':St),i+r=es.length->r<m->aZ Sz S'->(∀S2z,aZ Sz S2z->K (.bool (kN (es.drop i) (fs.drop i))) S2z=true)->oU (X most (n+0)) m a b (.int .i64 (.ofNat i)) S' K=true:=by
 obtain⟨hN,hlen⟩:=ha.bD;have hN:es.length<=140737488355328:=hN;intro r;induction r with
 | zero=>
  intro i m S' hi hm hx hK;obtain⟨m,rfl⟩:=Nat.exists_eq_succ_of_ne_zero (show m≠0 by omega);rw [zB];unfold rQ;rw [hlen,aG,show decide (i<bH (.l es))=false from decide_eq_false (show ¬i<es.length by omega),cA];have:=hK S' hx
  rwa [pM (by omega) (by omega)]at this
 | succ r ih=>
  intro i m S' hi hm hx hK;obtain⟨m,rfl⟩:=Nat.exists_eq_succ_of_ne_zero (show m≠0 by omega);have hlt:i<es.length:=by omega
  have hlt2:i<fs.length:=by omega
  rw [zB];unfold rQ;rw [hlen,aG,show decide (i<bH (.l es))=true from decide_eq_true (show i<es.length from hlt),bS];obtain⟨ba,oa,sa,ia⟩:=ha.at hlt 2 rfl;obtain⟨bb,ob,sb,ib⟩:=hb.at hlt2 2 rfl;obtain⟨ca,ra,la⟩:=(sa.fr (hx.fr _)).Rm 2 rfl;obtain⟨cb,rb,lb⟩:=(sb.fr (hx.fr _)).Rm 2 rfl;rw [ia,la S' (.refl S'),ib,lb S' (.refl S'),(Ge (its:=aY) (by kernel_rfl) (by decide) ra rb _).2];cases hq:BG es[i] fs[i]with
  | false=>
   simp only [Bool.not_false,bS];have:=hK S' hx;rw [dF hlt hlt2,hq]at this;exact this
  | true=>
   simp only [Bool.not_true,cA];rw [aP _ _ _ _ (by omega)];refine ih (i+1) m S' (by omega) (by omega) hx fun S2z x2=>?_;have:=hK S2z x2;rw [dF hlt hlt2,hq]at this;exact this
theorem JW (hM:140737488355328<most):Gf most vF aY 1:=by
 intro n Sz C C' a b es fs K ha hb hK;rw [aT (by rfl),Gh];unfold QD;rw [ha.bD.2,hb.bD.2,dM];by_cases he:es.length=fs.length
 ·rw [show decide (bH (.l es)=bH (.l fs))=true from decide_eq_true he]
  show gD zF _ _=true;rw [cA,bP];have hN:es.length<=140737488355328:=ha.bD.1;exact LQ hM ha hb he es.length 0 most Sz (by omega) (by omega) (.refl Sz) fun S2z x2=>hK S2z x2
 ·rw [show decide (bH (.l es)=bH (.l fs))=false from decide_eq_false he]
  show gD (.bool true) _ _=true;rw [bS];have:=hK Sz (.refl Sz)
  rwa [vA he]at this
theorem LR (hM:140737488355328<most){n:Nat}{Sz:St}{C C':Nat->Prop}{a b:Value}{es fs:List (List D)}{K:VK} (ha:Rd Sz C (.list aW) a (.l es)) (hb:Rd Sz C' (.list aW) b (.l fs)) (he:es.length=fs.length):
 ∀(r i m:Nat) (S':St),i+r=es.length->r<m->aZ Sz S'->(∀S2z,aZ Sz S2z->K (.bool (kN (es.drop i) (fs.drop i))) S2z=true)->oV (X most (n+0)) m a b (.int .i64 (.ofNat i)) S' K=true:=by
 obtain⟨hN,hlen⟩:=ha.bD;have hN:es.length<=140737488355328:=hN;intro r;induction r with
 | zero=>
  intro i m S' hi hm hx hK;obtain⟨m,rfl⟩:=Nat.exists_eq_succ_of_ne_zero (show m≠0 by omega);rw [zC];unfold rR;rw [hlen,aG,show decide (i<bH (.l es))=false from decide_eq_false (show ¬i<es.length by omega),cA];have:=hK S' hx
  rwa [pM (by omega) (by omega)]at this
 | succ r ih=>
  intro i m S' hi hm hx hK;obtain⟨m,rfl⟩:=Nat.exists_eq_succ_of_ne_zero (show m≠0 by omega);have hlt:i<es.length:=by omega
  have hlt2:i<fs.length:=by omega
  rw [zC];unfold rR;rw [hlen,aG,show decide (i<bH (.l es))=true from decide_eq_true (show i<es.length from hlt),bS];obtain⟨ba,oa,sa,ia⟩:=ha.at hlt 5 rfl;obtain⟨bb,ob,sb,ib⟩:=hb.at hlt2 5 rfl;obtain⟨ca,ra,la⟩:=(sa.fr (hx.fr _)).Rm 5 rfl;obtain⟨cb,rb,lb⟩:=(sb.fr (hx.fr _)).Rm 5 rfl;rw [ia,la S' (.refl S'),ib,lb S' (.refl S'),(Ge (its:=aW) (by kernel_rfl) (by decide) ra rb _).2];cases hq:BG es[i] fs[i]with
  | false=>
   simp only [Bool.not_false,bS];have:=hK S' hx;rw [dF hlt hlt2,hq]at this;exact this
  | true=>
   simp only [Bool.not_true,cA];rw [aP _ _ _ _ (by omega)];refine ih (i+1) m S' (by omega) (by omega) hx fun S2z x2=>?_;have:=hK S2z x2;rw [dF hlt hlt2,hq]at this;exact this
theorem ZL (hM:140737488355328<most):Gf most zZ aW 1:=by
 intro n Sz C C' a b es fs K ha hb hK;rw [aT (by rfl),Gi];unfold QE;rw [ha.bD.2,hb.bD.2,dM];by_cases he:es.length=fs.length
 ·rw [show decide (bH (.l es)=bH (.l fs))=true from decide_eq_true he]
  show gD zF _ _=true;rw [cA,bP];have hN:es.length<=140737488355328:=ha.bD.1;exact LR hM ha hb he es.length 0 most Sz (by omega) (by omega) (.refl Sz) fun S2z x2=>hK S2z x2
 ·rw [show decide (bH (.l es)=bH (.l fs))=false from decide_eq_false he]
  show gD (.bool true) _ _=true;rw [bS];have:=hK Sz (.refl Sz)
  rwa [vA he]at this
theorem JX (hM:140737488355328<most){n:Nat}{Sz:St}{C C':Nat->Prop}{a b:Value}{es fs:List (List D)}{K:VK} (ha:Rd Sz C (.list cO) a (.l es)) (hb:Rd Sz C' (.list cO) b (.l fs)) (he:es.length=fs.length):
 ∀(r i m:Nat) (S':St),i+r=es.length->r<m->aZ Sz S'->(∀S2z,aZ Sz S2z->K (.bool (kN (es.drop i) (fs.drop i))) S2z=true)->mY (X most (n+1)) m a b (.int .i64 (.ofNat i)) S' K=true:=by
 obtain⟨hN,hlen⟩:=ha.bD;have hN:es.length<=140737488355328:=hN;intro r;induction r with
 | zero=>
  intro i m S' hi hm hx hK;obtain⟨m,rfl⟩:=Nat.exists_eq_succ_of_ne_zero (show m≠0 by omega);rw [xZ];unfold qQ;rw [hlen,aG,show decide (i<bH (.l es))=false from decide_eq_false (show ¬i<es.length by omega),cA];have:=hK S' hx
  rwa [pM (by omega) (by omega)]at this
 | succ r ih=>
  intro i m S' hi hm hx hK;obtain⟨m,rfl⟩:=Nat.exists_eq_succ_of_ne_zero (show m≠0 by omega);have hlt:i<es.length:=by omega
  have hlt2:i<fs.length:=by omega
  rw [xZ];unfold qQ;rw [hlen,aG,show decide (i<bH (.l es))=true from decide_eq_true (show i<es.length from hlt),bS];obtain⟨ba,oa,sa,ia⟩:=ha.at hlt 1 rfl;obtain⟨bb,ob,sb,ib⟩:=hb.at hlt2 1 rfl;obtain⟨u,ru,lu⟩:=(sa.fr (hx.fr _)).val' 0 (it:= .nums) rfl;obtain⟨w,rw',lw⟩:=(sb.fr (hx.fr _)).val' 0 (it:= .nums) rfl;have lu:=lu S' (.refl S');have lw:=lw S' (.refl S');rw [Nat.add_zero]at lu lw
  have hu:∃xs,ats es[i] 0= .l xs/\Rd S' C (.list [.num]) u (.l xs):=by
   generalize hd:ats es[i] 0=d at ru;cases ru with | nums h=>exact⟨_,rfl,h⟩
  have hw:∃xs,ats fs[i] 0= .l xs/\Rd S' C' (.list [.num]) w (.l xs):=by
   generalize hd:ats fs[i] 0=d at rw';cases rw' with | nums h=>exact⟨_,rfl,h⟩
  obtain⟨xs,ex,hxs⟩:=hu;obtain⟨ys,ey,hys⟩:=hw;rw [ia,lu,ib,lw];refine JV hM n hxs hys fun S3z x3=>?_;have hq0:kN xs ys=BG es[i] fs[i]:=by rw [QA sa.len sb.len,ex,ey];rfl
  rw [hq0];rw [oQ];cases hq:BG es[i] fs[i]with
  | false=>
   simp only [Bool.not_false,bS];have:=hK S3z (hx.trans x3);rw [dF hlt hlt2,hq]at this;exact this
  | true=>
   simp only [Bool.not_true,cA];rw [aP _ _ _ _ (by omega)];refine ih (i+1) m S3z (by omega) (by omega) (hx.trans x3) fun S2z x2=>?_;have:=hK S2z x2;rw [dF hlt hlt2,hq]at this;exact this
theorem VS (hM:140737488355328<most):Gf most xF cO 2:=by
 intro n Sz C C' a b es fs K ha hb hK;rw [aT (by rfl),Bp];unfold MP;rw [ha.bD.2,hb.bD.2,dM];by_cases he:es.length=fs.length
 ·rw [show decide (bH (.l es)=bH (.l fs))=true from decide_eq_true he]
  show gD zF _ _=true;rw [cA,bP];have hN:es.length<=140737488355328:=ha.bD.1;exact JX hM ha hb he es.length 0 most Sz (by omega) (by omega) (.refl Sz) fun S2z x2=>hK S2z x2
 ·rw [show decide (bH (.l es)=bH (.l fs))=false from decide_eq_false he]
  show gD (.bool true) _ _=true;rw [bS];have:=hK Sz (.refl Sz)
  rwa [vA he]at this
theorem LS (hM:140737488355328<most){n:Nat}{Sz:St}{C C':Nat->Prop}{b1 b2:Nat}{da db:List D}{a b:Value}{es fs:List (List D)}{K:VK} (_sa:qO Sz C aV b1 0 da) (_sb:qO Sz C' aV b2 0 db) (ha:Rd Sz C (.list [.num]) a (.l es)) (hb:Rd Sz C' (.list [.num]) b (.l fs))
 (la:∀S',aZ Sz S'->∀K,aN (pt b1 10) S' K=K a S') (lb:∀S',aZ Sz S'->∀K,aN (pt b2 10) S' K=K b S') (he:es.length=fs.length):
 ∀(r i m:Nat) (S':St),i+r=es.length->r<m->aZ Sz S'->(∀S2z,aZ Sz S2z->K (.bool (kN (es.drop i) (fs.drop i))) S2z=true)->oW (X most (n+0)) m (pt b1 0) (pt b2 0) (.int .i64 (.ofNat i)) S' K=true:=by
 obtain⟨hN,hlen⟩:=ha.bD;have hN:es.length<=140737488355328:=hN;intro r;induction r with
 | zero=>
  intro i m S' hi hm hx hK;obtain⟨m,rfl⟩:=Nat.exists_eq_succ_of_ne_zero (show m≠0 by omega);rw [zD];unfold rS;rw [aB,Nat.zero_add,la S' hx,hlen,aG,show decide (i<bH (.l es))=false from decide_eq_false (show ¬i<es.length by omega),cA];have:=hK S' hx
  rwa [pM (by omega) (by omega)]at this
 | succ r ih=>
  intro i m S' hi hm hx hK;obtain⟨m,rfl⟩:=Nat.exists_eq_succ_of_ne_zero (show m≠0 by omega);have hlt:i<es.length:=by omega
  have hlt2:i<fs.length:=by omega
  rw [zD];unfold rS;rw [aB,Nat.zero_add,la S' hx,hlen,aG,show decide (i<bH (.l es))=true from decide_eq_true (show i<es.length from hlt),bS];obtain⟨ba,oa,sa',ia⟩:=ha.at hlt 1 rfl;obtain⟨bb,ob,sb',ib⟩:=hb.at hlt2 1 rfl;obtain⟨u,ru,lu⟩:=(sa'.fr (hx.fr _)).val' 0 (it:= .num) rfl;obtain⟨w,rw',lw⟩:=(sb'.fr (hx.fr _)).val' 0 (it:= .num) rfl;have lu:=lu S' (.refl S');have lw:=lw S' (.refl S');rw [Nat.add_zero]at lu lw;simp only [aB,Nat.zero_add,la S' hx,lb S' hx,ia,ib,lu,lw];rw [(Gd ru rw' _ _).2,<-QA sa'.len sb'.len];cases hq:BG es[i] fs[i]with
  | false=>
   simp only [Bool.not_false,bS];have:=hK S' hx;rw [dF hlt hlt2,hq]at this;exact this
  | true=>
   simp only [Bool.not_true,cA];rw [aP _ _ _ _ (by omega)];refine ih (i+1) m S' (by omega) (by omega) hx fun S2z x2=>?_;have:=hK S2z x2;rw [dF hlt hlt2,hq]at this;exact this
set_option maxRecDepth 100000 in
theorem ZM (hM:140737488355328<most):aAc most AA aV 1:=by
 intro n Sz C C' va vb da db K ha hb hK
 have hT:da=db->∀S',aZ Sz S'->K (.bool true) S'=true:=fun e S' hx=>by
  have:=hK S' hx
  rwa [(cI da db).2 e]at this
 have hF:da≠db->∀S',aZ Sz S'->K zF S'=true:=fun e S' hx=>by
  have:=hK S' hx
  rwa [show BG da db=false from by
   cases hq:BG da db with
   | false=>rfl
   | true=>exact absurd ((cI da db).1 hq) e]at this
 have hla:da.length=11:=ha.jK;have hlb:db.length=11:=hb.jK;rw [aT (by rfl),Gj];unfold QF;refine EL ha hb _ fun b1 b2 S2z x2 sa sb=>?_;obtain⟨u0,w0,Hm,Hn,c0⟩:=Ko sa sb 0 rfl;obtain⟨u1,w1,Od,Oe,c1⟩:=mL sa sb 1 rfl;obtain⟨u2,w2,la2,lb2,c2⟩:=mL sa sb 2 rfl;obtain⟨u3,w3,la3,lb3,c3⟩:=mL sa sb 3 rfl;obtain⟨u4,w4,la4,lb4,c4⟩:=mL sa sb 4 rfl;obtain⟨u5,w5,la5,lb5,c5⟩:=mL sa sb 5 rfl;obtain⟨u6,w6,la6,lb6,c6⟩:=mL sa sb 6 rfl;obtain⟨u7,w7,la7,lb7,c7⟩:=mL sa sb 7 rfl;obtain⟨u8,w8,la8,lb8,c8⟩:=mL sa sb 8 rfl;obtain⟨u9,w9,la9,lb9,c9⟩:=UO sa sb 9 rfl;obtain⟨u10,aDM,aB6,ea10⟩:=sa.EG 10 rfl;obtain⟨w10,aE7,aB7,aF6⟩:=sb.EG 10 rfl;have hx:aZ S2z S2z:= .refl S2z;simp only [aB,Nat.zero_add,Hm S2z hx,Hn S2z hx,c0];cases q0:pI (ats da 0) (ats db 0)with
 | false=>
  simp only [cL,cS,bL,bS,Bool.not_false];exact hF (sG q0) _ (x2.trans hx)
 | true=>
 simp only [cL,cH,bJ,Bool.not_true,Od S2z hx,Oe S2z hx,c1];cases q1:pI (ats da 1) (ats db 1)with
 | false=>
  simp only [cS,bL,bS,Bool.not_false];exact hF (sG q1) _ (x2.trans hx)
 | true=>
 simp only [cH,bJ,Bool.not_true,la2 S2z hx,lb2 S2z hx,c2];cases q2:pI (ats da 2) (ats db 2)with
 | false=>
  simp only [cS,bL,bS,Bool.not_false];exact hF (sG q2) _ (x2.trans hx)
 | true=>
 simp only [cH,bJ,Bool.not_true,la3 S2z hx,lb3 S2z hx,c3];cases q3:pI (ats da 3) (ats db 3)with
 | false=>
  simp only [cS,bL,bS,Bool.not_false];exact hF (sG q3) _ (x2.trans hx)
 | true=>
 simp only [cH,bJ,Bool.not_true,la4 S2z hx,lb4 S2z hx,c4];cases q4:pI (ats da 4) (ats db 4)with
 | false=>
  simp only [cS,bL,bS,Bool.not_false];exact hF (sG q4) _ (x2.trans hx)
 | true=>
 simp only [cH,bJ,Bool.not_true,la5 S2z hx,lb5 S2z hx,c5];cases q5:pI (ats da 5) (ats db 5)with
 | false=>
  simp only [cS,bL,bS,Bool.not_false];exact hF (sG q5) _ (x2.trans hx)
 | true=>
 simp only [cH,bJ,Bool.not_true,la6 S2z hx,lb6 S2z hx,c6];cases q6:pI (ats da 6) (ats db 6)with
 | false=>
  simp only [cS,bL,bS,Bool.not_false];exact hF (sG q6) _ (x2.trans hx)
 | true=>
 simp only [cH,bJ,Bool.not_true,la7 S2z hx,lb7 S2z hx,c7];cases q7:pI (ats da 7) (ats db 7)with
 | false=>
  simp only [cS,bL,bS,Bool.not_false];exact hF (sG q7) _ (x2.trans hx)
 | true=>
 simp only [cH,bJ,Bool.not_true,la8 S2z hx,lb8 S2z hx,c8];cases q8:pI (ats da 8) (ats db 8)with
 | false=>
  simp only [cS,bL,bS,Bool.not_false];exact hF (sG q8) _ (x2.trans hx)
 | true=>
 simp only [cH,bJ,Bool.not_true,la9 S2z hx,lb9 S2z hx,c9];cases q9:pI (ats da 9) (ats db 9)with
 | false=>
  simp only [cS,bL,bS,Bool.not_false];exact hF (sG q9) _ (x2.trans hx)
 | true=>
 simp only [cH,bJ,Bool.not_true,aB6 S2z hx,aB7 S2z hx,aDM.bD.2,aE7.bD.2,dM,bH];cases q10:decide ((bT (ats da 10)).length=(bT (ats db 10)).length)with
 | false=>
  simp only [bS,Bool.not_false];exact hF (fun e=>by subst e;simp at q10) _ (x2.trans hx)
 | true=>
  simp only [Bool.not_true,cA];have hN:(bT (ats da 10)).length<=140737488355328:=aDM.bD.1;rw [bP];refine LS hM (n:=n) sa sb aDM aE7 aB6 aB7 (of_decide_eq_true q10) (K:=K) (bT (ats da 10)).length 0 most S2z (by omega) (by omega) hx fun S9 x9=>?_;rw [List.drop_zero,List.drop_zero];cases he:kN (bT (ats da 10)) (bT (ats db 10))with
  | false=>exact hF (fun e=>by subst e;rw [LG]at he;cases he) _ (x2.trans x9)
  | true=>exact hT (QB hla hlb fun j hj=>by
   have h:j=0\/j=1\/j=2\/j=3\/j=4\/j=5\/j=6\/j=7\/j=8\/j=9\/j=10:=by omega
   rcases h with rfl | rfl | rfl | rfl | rfl | rfl | rfl | rfl | rfl | rfl | rfl
   ·exact(dZ _ _).1 q0
   ·exact(dZ _ _).1 q1
   ·exact(dZ _ _).1 q2
   ·exact(dZ _ _).1 q3
   ·exact(dZ _ _).1 q4
   ·exact(dZ _ _).1 q5
   ·exact(dZ _ _).1 q6
   ·exact(dZ _ _).1 q7
   ·exact(dZ _ _).1 q8
   ·exact(dZ _ _).1 q9
   ·exact by rw [ea10,aF6,(gK _ _).1 he]) _ (x2.trans x9)
theorem LT (hM:140737488355328<most){n:Nat}{Sz:St}{C C':Nat->Prop}{a b:Value}{es fs:List (List D)}{K:VK} (ha:Rd Sz C (.list aV) a (.l es)) (hb:Rd Sz C' (.list aV) b (.l fs)) (he:es.length=fs.length):
 ∀(r i m:Nat) (S':St),i+r=es.length->r<m->aZ Sz S'->(∀S2z,aZ Sz S2z->K (.bool (kN (es.drop i) (fs.drop i))) S2z=true)->oX (X most (n+1)) m a b (.int .i64 (.ofNat i)) S' K=true:=by
 obtain⟨hN,hlen⟩:=ha.bD;have hN:es.length<=140737488355328:=hN;intro r;induction r with
 | zero=>
  intro i m S' hi hm hx hK;obtain⟨m,rfl⟩:=Nat.exists_eq_succ_of_ne_zero (show m≠0 by omega);rw [zE];unfold rT;rw [hlen,aG,show decide (i<bH (.l es))=false from decide_eq_false (show ¬i<es.length by omega),cA];have:=hK S' hx
  rwa [pM (by omega) (by omega)]at this
 | succ r ih=>
  intro i m S' hi hm hx hK;obtain⟨m,rfl⟩:=Nat.exists_eq_succ_of_ne_zero (show m≠0 by omega);have hlt:i<es.length:=by omega
  have hlt2:i<fs.length:=by omega
  rw [zE];unfold rT;rw [hlen,aG,show decide (i<bH (.l es))=true from decide_eq_true (show i<es.length from hlt),bS];obtain⟨ba,oa,sa,ia⟩:=ha.at hlt 11 rfl;obtain⟨bb,ob,sb,ib⟩:=hb.at hlt2 11 rfl;obtain⟨ca,ra,la⟩:=(sa.fr (hx.fr _)).Rm 11 rfl;obtain⟨cb,rb,lb⟩:=(sb.fr (hx.fr _)).Rm 11 rfl;rw [ia,la S' (.refl S'),ib,lb S' (.refl S')];refine ZM hM n ra rb fun S3z x3=>?_;rw [oQ];cases hq:BG es[i] fs[i]with
  | false=>
   simp only [Bool.not_false,bS];have:=hK S3z (hx.trans x3);rw [dF hlt hlt2,hq]at this;exact this
  | true=>
   simp only [Bool.not_true,cA];rw [aP _ _ _ _ (by omega)];refine ih (i+1) m S3z (by omega) (by omega) (hx.trans x3) fun S2z x2=>?_;have:=hK S2z x2;rw [dF hlt hlt2,hq]at this;exact this
theorem JY (hM:140737488355328<most):Gf most vG aV 2:=by
 intro n Sz C C' a b es fs K ha hb hK;rw [aT (by rfl),Gk];unfold QG;rw [ha.bD.2,hb.bD.2,dM];by_cases he:es.length=fs.length
 ·rw [show decide (bH (.l es)=bH (.l fs))=true from decide_eq_true he]
  show gD zF _ _=true;rw [cA,bP];have hN:es.length<=140737488355328:=ha.bD.1;exact LT hM ha hb he es.length 0 most Sz (by omega) (by omega) (.refl Sz) fun S2z x2=>hK S2z x2
 ·rw [show decide (bH (.l es)=bH (.l fs))=false from decide_eq_false he]
  show gD (.bool true) _ _=true;rw [bS];have:=hK Sz (.refl Sz)
  rwa [vA he]at this
set_option maxRecDepth 100000 in
theorem ZN (hM:140737488355328<most):aAc most GH bQ 2:=by
 intro n Sz C C' va vb da db K ha hb hK
 have hT:da=db->∀S',aZ Sz S'->K (.bool true) S'=true:=fun e S' hx=>by
  have:=hK S' hx
  rwa [(cI da db).2 e]at this
 have hF:da≠db->∀S',aZ Sz S'->K zF S'=true:=fun e S' hx=>by
  have:=hK S' hx
  rwa [show BG da db=false from by
   cases hq:BG da db with
   | false=>rfl
   | true=>exact absurd ((cI da db).1 hq) e]at this
 have hla:da.length=15:=ha.jK;have hlb:db.length=15:=hb.jK;rw [aT (by rfl),Gl];unfold QH;refine EL ha hb _ fun b1 b2 S2z x2 sa sb=>?_;obtain⟨u0,w0,Hm,Hn,c0⟩:=lG sa sb 0 rfl;obtain⟨u1,w1,Od,Oe,c1⟩:=lG sa sb 1 rfl;obtain⟨u2,w2,la2,lb2,c2⟩:=lG sa sb 2 rfl;obtain⟨u3,w3,la3,lb3,c3⟩:=lG sa sb 3 rfl;obtain⟨u4,w4,la4,lb4,c4⟩:=lG sa sb 4 rfl;obtain⟨u5,w5,la5,lb5,c5⟩:=lG sa sb 5 rfl;obtain⟨u6,w6,la6,lb6,c6⟩:=lG sa sb 6 rfl;obtain⟨u7,w7,la7,lb7,c7⟩:=JU sa sb 7 rfl;obtain⟨u8,w8,la8,lb8,c8⟩:=JU sa sb 8 rfl;obtain⟨u9,w9,la9,lb9,c9⟩:=lG sa sb 9 rfl;obtain⟨u10,w10,aB6,aB7,c10⟩:=lG sa sb 10 rfl;obtain⟨u11,JZ,aF7,aF8,c11⟩:=SI sa sb 11 rfl;obtain⟨u12,w12,aF9,aGa,c12⟩:=SI sa sb 12 rfl;obtain⟨u13,HA,aGb,aGc,c13⟩:=JU sa sb 13 rfl;obtain⟨u14,aGd,aGe,aGf⟩:=sa.mR 14 (dJ:=aW) rfl;obtain⟨RJ,aGg,aGh,aGi⟩:=sb.mR 14 (dJ:=aW) rfl;have hx:aZ S2z S2z:= .refl S2z;simp only [aB,Nat.zero_add,Hm S2z hx,Hn S2z hx,c0];cases q0:pI (ats da 0) (ats db 0)with
 | false=>
  simp only [cL,cG,bJ];exact hF (sG q0) _ (x2.trans hx)
 | true=>
 simp only [cL,cF,bL,Od S2z hx,Oe S2z hx,c1];cases q1:pI (ats da 1) (ats db 1)with
 | false=>
  simp only [cG,bJ];exact hF (sG q1) _ (x2.trans hx)
 | true=>
 simp only [cF,bL,la2 S2z hx,lb2 S2z hx,c2];cases q2:pI (ats da 2) (ats db 2)with
 | false=>
  simp only [cG,bJ];exact hF (sG q2) _ (x2.trans hx)
 | true=>
 simp only [cF,bL,la3 S2z hx,lb3 S2z hx,c3];cases q3:pI (ats da 3) (ats db 3)with
 | false=>
  simp only [cG,bJ];exact hF (sG q3) _ (x2.trans hx)
 | true=>
 simp only [cF,bL,la4 S2z hx,lb4 S2z hx,c4];cases q4:pI (ats da 4) (ats db 4)with
 | false=>
  simp only [cG,bJ];exact hF (sG q4) _ (x2.trans hx)
 | true=>
 simp only [cF,bL,la5 S2z hx,lb5 S2z hx,c5];cases q5:pI (ats da 5) (ats db 5)with
 | false=>
  simp only [cG,bJ];exact hF (sG q5) _ (x2.trans hx)
 | true=>
 simp only [cF,bL,la6 S2z hx,lb6 S2z hx,c6];cases q6:pI (ats da 6) (ats db 6)with
 | false=>
  simp only [cG,bJ];exact hF (sG q6) _ (x2.trans hx)
 | true=>
 simp only [cF,bL,la7 S2z hx,lb7 S2z hx,c7];cases q7:pI (ats da 7) (ats db 7)with
 | false=>
  simp only [cG,bJ];exact hF (sG q7) _ (x2.trans hx)
 | true=>
 simp only [cF,bL,la8 S2z hx,lb8 S2z hx,c8];cases q8:pI (ats da 8) (ats db 8)with
 | false=>
  simp only [cG,bJ];exact hF (sG q8) _ (x2.trans hx)
 | true=>
 simp only [cF,bL,la9 S2z hx,lb9 S2z hx,c9];cases q9:pI (ats da 9) (ats db 9)with
 | false=>
  simp only [cG,bJ];exact hF (sG q9) _ (x2.trans hx)
 | true=>
 simp only [cF,bL,aB6 S2z hx,aB7 S2z hx,c10];cases q10:pI (ats da 10) (ats db 10)with
 | false=>
  simp only [cG,bJ];exact hF (sG q10) _ (x2.trans hx)
 | true=>
 simp only [cF,bL,aF7 S2z hx,aF8 S2z hx,c11];cases q11:pI (ats da 11) (ats db 11)with
 | false=>
  simp only [cG,bJ];exact hF (sG q11) _ (x2.trans hx)
 | true=>
 simp only [cF,bL,aF9 S2z hx,aGa S2z hx,c12];cases q12:pI (ats da 12) (ats db 12)with
 | false=>
  simp only [cG,bJ];exact hF (sG q12) _ (x2.trans hx)
 | true=>
 simp only [cF,bL,aGb S2z hx,aGc S2z hx,c13];cases q13:pI (ats da 13) (ats db 13)with
 | false=>
  simp only [cG,bJ];exact hF (sG q13) _ (x2.trans hx)
 | true=>
 simp only [cF,bL,aGe S2z hx,aGh S2z hx];refine ZL hM (n+0) (aGd.fr (hx.fr _)) (aGg.fr (hx.fr _)) fun S3z y3=>?_;have hx3:=hx.trans y3;cases q14:kN (bT (ats da 14)) (bT (ats db 14))with
 | false=>
  exact hF (CJ q14) _ (x2.trans hx3)
 | true=>
  exact hT (QB hla hlb fun j hj=>by
   have h:j=0\/j=1\/j=2\/j=3\/j=4\/j=5\/j=6\/j=7\/j=8\/j=9\/j=10\/j=11\/j=12\/j=13\/j=14:=by omega
   rcases h with rfl | rfl | rfl | rfl | rfl | rfl | rfl | rfl | rfl | rfl | rfl | rfl | rfl | rfl | rfl
   ·exact(dZ _ _).1 q0
   ·exact(dZ _ _).1 q1
   ·exact(dZ _ _).1 q2
   ·exact(dZ _ _).1 q3
   ·exact(dZ _ _).1 q4
   ·exact(dZ _ _).1 q5
   ·exact(dZ _ _).1 q6
   ·exact(dZ _ _).1 q7
   ·exact(dZ _ _).1 q8
   ·exact(dZ _ _).1 q9
   ·exact(dZ _ _).1 q10
   ·exact(dZ _ _).1 q11
   ·exact(dZ _ _).1 q12
   ·exact(dZ _ _).1 q13
   ·exact by rw [aGf,aGi,(gK _ _).1 q14]) _ (x2.trans hx3)
theorem LU (hM:140737488355328<most){n:Nat}{Sz:St}{C C':Nat->Prop}{b1 b2:Nat}{da db:List D}{a b:Value}{es fs:List (List D)}{K:VK} (_sa:qO Sz C bZ b1 0 da) (_sb:qO Sz C' bZ b2 0 db) (ha:Rd Sz C (.list bC) a (.l es)) (hb:Rd Sz C' (.list bC) b (.l fs))
 (la:∀S',aZ Sz S'->∀K,aN (pt b1 18) S' K=K a S') (lb:∀S',aZ Sz S'->∀K,aN (pt b2 18) S' K=K b S') (he:es.length=fs.length):
 ∀(r i m:Nat) (S':St),i+r=es.length->r<m->aZ Sz S'->(∀S2z,aZ Sz S2z->K (.bool (kN (es.drop i) (fs.drop i))) S2z=true)->oY (X most (n+2)) m (pt b1 0) (pt b2 0) (.int .i64 (.ofNat i)) S' K=true:=by
 obtain⟨hN,hlen⟩:=ha.bD;have hN:es.length<=140737488355328:=hN;intro r;induction r with
 | zero=>
  intro i m S' hi hm hx hK;obtain⟨m,rfl⟩:=Nat.exists_eq_succ_of_ne_zero (show m≠0 by omega);rw [zG];unfold rU;rw [aB,Nat.zero_add,la S' hx,hlen,aG,show decide (i<bH (.l es))=false from decide_eq_false (show ¬i<es.length by omega),cA];have:=hK S' hx
  rwa [pM (by omega) (by omega)]at this
 | succ r ih=>
  intro i m S' hi hm hx hK;obtain⟨m,rfl⟩:=Nat.exists_eq_succ_of_ne_zero (show m≠0 by omega);have hlt:i<es.length:=by omega
  have hlt2:i<fs.length:=by omega
  rw [zG];unfold rU;rw [aB,Nat.zero_add,la S' hx,hlen,aG,show decide (i<bH (.l es))=true from decide_eq_true (show i<es.length from hlt),bS];obtain⟨ba,oa,sa',ia⟩:=ha.at hlt 2 rfl;obtain⟨bb,ob,sb',ib⟩:=hb.at hlt2 2 rfl;obtain⟨ca,ra',lca⟩:=(sa'.fr (hx.fr _)).Rm 2 rfl;obtain⟨cb,rb',lcb⟩:=(sb'.fr (hx.fr _)).Rm 2 rfl;simp only [aB,Nat.zero_add,la S' hx,lb S' hx,ia,ib,lca S' (.refl S'),lcb S' (.refl S')];rw [(Ge (its:=bC) (by kernel_rfl) (by decide) ra' rb' _).2];cases hq:BG es[i] fs[i]with
  | false=>
   simp only [Bool.not_false,bS];have:=hK S' hx;rw [dF hlt hlt2,hq]at this;exact this
  | true=>
   simp only [Bool.not_true,cA];rw [aP _ _ _ _ (by omega)];refine ih (i+1) m S' (by omega) (by omega) hx fun S2z x2=>?_;have:=hK S2z x2;rw [dF hlt hlt2,hq]at this;exact this
set_option maxRecDepth 100000 in
theorem ZO (hM:140737488355328<most):aAc most AB bZ 3:=by
 intro n Sz C C' va vb da db K ha hb hK
 have hT:da=db->∀S',aZ Sz S'->K (.bool true) S'=true:=fun e S' hx=>by
  have:=hK S' hx
  rwa [(cI da db).2 e]at this
 have hF:da≠db->∀S',aZ Sz S'->K zF S'=true:=fun e S' hx=>by
  have:=hK S' hx
  rwa [show BG da db=false from by
   cases hq:BG da db with
   | false=>rfl
   | true=>exact absurd ((cI da db).1 hq) e]at this
 have hla:da.length=20:=ha.jK;have hlb:db.length=20:=hb.jK;rw [aT (by rfl),Gm];unfold QI;refine EL ha hb _ fun b1 b2 S2z x2 sa sb=>?_;obtain⟨u0,w0,Hm,Hn,c0⟩:=mL sa sb 0 rfl;obtain⟨u1,w1,Od,Oe,c1⟩:=UO sa sb 1 rfl;obtain⟨u2,w2,la2,lb2,c2⟩:=Dj sa sb 2 rfl;have pa3:=sa.part 3 15 (by decide);have pb3:=sb.part 3 15 (by decide);rw [Nat.zero_add]at pa3 pb3;obtain⟨ca3,ra3,la3⟩:=qO.Rm (its:=bQ) pa3 15 rfl;obtain⟨cb3,rb3,lb3⟩:=qO.Rm (its:=bQ) pb3 15 rfl;obtain⟨u18,aDN,aE8,aGj⟩:=sa.mR 18 (dJ:=bC) rfl;obtain⟨WW,aE9,aFa,aGk⟩:=sb.mR 18 (dJ:=bC) rfl;obtain⟨u19,aGl,aGm,aGn⟩:=sa.mR 19 (dJ:=aV) rfl;obtain⟨WX,aGo,aGp,aGq⟩:=sb.mR 19 (dJ:=aV) rfl;have hx:aZ S2z S2z:= .refl S2z;simp only [aB,Nat.zero_add,Hm S2z hx,Hn S2z hx,c0];cases q0:pI (ats da 0) (ats db 0)with
 | false=>
  simp only [cL,cS,bL,bS,Bool.not_false];exact hF (sG q0) _ (x2.trans hx)
 | true=>
 simp only [cL,cH,bJ,Bool.not_true,Od S2z hx,Oe S2z hx,c1];cases q1:pI (ats da 1) (ats db 1)with
 | false=>
  simp only [cS,bL,bS,Bool.not_false];exact hF (sG q1) _ (x2.trans hx)
 | true=>
 simp only [cH,bJ,Bool.not_true,la2 S2z hx,lb2 S2z hx,c2];cases q2:pI (ats da 2) (ats db 2)with
 | false=>
  simp only [cS,bL,bS,Bool.not_false];exact hF (sG q2) _ (x2.trans hx)
 | true=>
 simp only [cH,bJ,Bool.not_true,la3 S2z hx,lb3 S2z hx];refine ZN hM (n+0) (ra3.fr (hx.fr _)) (rb3.fr (hx.fr _)) fun S3z y3=>?_;have hx3:=hx.trans y3;simp only [oQ];cases q3:BG ((da.drop 3).take 15) ((db.drop 3).take 15)with
 | false=>
  simp only [cS,bL,bS,Bool.not_false];exact hF (aE6 q3) _ (x2.trans hx3)
 | true=>
 simp only [cH,bJ,Bool.not_true,aE8 S3z hx3,aFa S3z hx3,aDN.bD.2,aE9.bD.2,dM,bH];cases q18:decide ((bT (ats da 18)).length=(bT (ats db 18)).length)with
 | false=>
  simp only [cS,bL,bS,Bool.not_false];exact hF (fun e=>by subst e;simp at q18) _ (x2.trans hx3)
 | true=>
 simp only [cH,bJ,Bool.not_true,aGm S3z hx3,aGp S3z hx3];refine JY hM (n+0) (aGl.fr (hx3.fr _)) (aGo.fr (hx3.fr _)) fun S4 y4=>?_;have hx4:=hx3.trans y4;simp only [oQ];cases q19:kN (bT (ats da 19)) (bT (ats db 19))with
 | false=>
  simp only [bS,Bool.not_false];exact hF (CJ q19) _ (x2.trans hx4)
 | true=>
  simp only [Bool.not_true,cA];have hN:(bT (ats da 18)).length<=140737488355328:=aDN.bD.1;rw [bP];refine LU hM (n:=n) sa sb aDN aE9 aE8 aFa (of_decide_eq_true q18) (K:=K) (bT (ats da 18)).length 0 most S4 (by omega) (by omega) hx4 fun S9 x9=>?_;rw [List.drop_zero,List.drop_zero];cases he:kN (bT (ats da 18)) (bT (ats db 18))with
  | false=>exact hF (fun e=>by subst e;rw [LG]at he;cases he) _ (x2.trans x9)
  | true=>exact hT (QB hla hlb fun j hj=>by
   have h:j=0\/j=1\/j=2\/j=3\/j=4\/j=5\/j=6\/j=7\/j=8\/j=9\/j=10\/j=11\/j=12\/j=13\/j=14\/j=15\/j=16\/j=17\/j=18\/j=19:=by omega
   rcases h with rfl | rfl | rfl | rfl | rfl | rfl | rfl | rfl | rfl | rfl | rfl | rfl | rfl | rfl | rfl | rfl | rfl | rfl | rfl | rfl
   ·exact(dZ _ _).1 q0
   ·exact(dZ _ _).1 q1
   ·exact(dZ _ _).1 q2
   ·exact dS (k:=3) (m:=15) hla hlb ((cI _ _).1 q3) 0 (by omega) (by omega)
   ·exact dS (k:=3) (m:=15) hla hlb ((cI _ _).1 q3) 1 (by omega) (by omega)
   ·exact dS (k:=3) (m:=15) hla hlb ((cI _ _).1 q3) 2 (by omega) (by omega)
   ·exact dS (k:=3) (m:=15) hla hlb ((cI _ _).1 q3) 3 (by omega) (by omega)
   ·exact dS (k:=3) (m:=15) hla hlb ((cI _ _).1 q3) 4 (by omega) (by omega)
   ·exact dS (k:=3) (m:=15) hla hlb ((cI _ _).1 q3) 5 (by omega) (by omega)
   ·exact dS (k:=3) (m:=15) hla hlb ((cI _ _).1 q3) 6 (by omega) (by omega)
   ·exact dS (k:=3) (m:=15) hla hlb ((cI _ _).1 q3) 7 (by omega) (by omega)
   ·exact dS (k:=3) (m:=15) hla hlb ((cI _ _).1 q3) 8 (by omega) (by omega)
   ·exact dS (k:=3) (m:=15) hla hlb ((cI _ _).1 q3) 9 (by omega) (by omega)
   ·exact dS (k:=3) (m:=15) hla hlb ((cI _ _).1 q3) 10 (by omega) (by omega)
   ·exact dS (k:=3) (m:=15) hla hlb ((cI _ _).1 q3) 11 (by omega) (by omega)
   ·exact dS (k:=3) (m:=15) hla hlb ((cI _ _).1 q3) 12 (by omega) (by omega)
   ·exact dS (k:=3) (m:=15) hla hlb ((cI _ _).1 q3) 13 (by omega) (by omega)
   ·exact dS (k:=3) (m:=15) hla hlb ((cI _ _).1 q3) 14 (by omega) (by omega)
   ·exact by rw [aGj,aGk,(gK _ _).1 he]
   ·exact by rw [aGn,aGq,(gK _ _).1 q19]) _ (x2.trans x9)
theorem qO.Ro{Sz:St}{C:Nat->Prop}{its:List It}{b o:Nat}{ds:List D} (h:qO Sz C its b o ds) (j:Nat) (hj:its[j]? =some .nums):∃v,Rd Sz C (.list [.num]) v (.l (bT (ats ds j)))/\(∀S',aZ Sz S'->∀K,aN (pt b (o+j)) S' K=K v S')/\ats ds j= .l (bT (ats ds j)):=by
 obtain⟨v,hv,hl⟩:=h.val' j hj
 have hv':∃es,ats ds j= .l es/\Rd Sz C (.list [.num]) v (.l es):=by
  generalize hd:ats ds j=d at hv;cases hv with | nums h=>exact⟨_,rfl,h⟩
 obtain⟨es,e,hr⟩:=hv';rw [e];exact⟨v,hr,hl,rfl⟩
theorem aB8{ds es:List D} (h1:ds.length=2) (h2:es.length=2):BG ds es=(pI (ats ds 0) (ats es 0)&&pI (ats ds 1) (ats es 1)):=by
 match ds,es,h1,h2 with
 | [a,b],[c,d],_,_=>simp [BG,ats]
theorem Vb{ds es:List D} (h1:ds.length=3) (h2:es.length=3):BG ds es=(pI (ats ds 0) (ats es 0)&&(pI (ats ds 1) (ats es 1)&&pI (ats ds 2) (ats es 2))):=by
 match ds,es,h1,h2 with
 | [a,b,c],[d,e,f],_,_=>simp [BG,ats]
theorem KA (hM:140737488355328<most){n:Nat}{Sz:St}{C C':Nat->Prop}{a b:Value}{es fs:List (List D)}{K:VK} (ha:Rd Sz C (.list bB) a (.l es)) (hb:Rd Sz C' (.list bB) b (.l fs)) (he:es.length=fs.length):
 ∀(r i m:Nat) (S':St),i+r=es.length->r<m->aZ Sz S'->(∀S2z,aZ Sz S2z->K (.bool (kN (es.drop i) (fs.drop i))) S2z=true)->mZ (X most (n+1)) m a b (.int .i64 (.ofNat i)) S' K=true:=by
 obtain⟨hN,hlen⟩:=ha.bD;have hN:es.length<=140737488355328:=hN;intro r;induction r with
 | zero=>
  intro i m S' hi hm hx hK;obtain⟨m,rfl⟩:=Nat.exists_eq_succ_of_ne_zero (show m≠0 by omega);rw [yA];unfold qR;rw [hlen,aG,show decide (i<bH (.l es))=false from decide_eq_false (show ¬i<es.length by omega),cA];have:=hK S' hx
  rwa [pM (by omega) (by omega)]at this
 | succ r ih=>
  intro i m S' hi hm hx hK;obtain⟨m,rfl⟩:=Nat.exists_eq_succ_of_ne_zero (show m≠0 by omega);have hlt:i<es.length:=by omega
  have hlt2:i<fs.length:=by omega
  rw [yA];unfold qR;rw [hlen,aG,show decide (i<bH (.l es))=true from decide_eq_true (show i<es.length from hlt),bS];obtain⟨ba,oa,sa,ia⟩:=ha.at hlt 2 rfl;obtain⟨bb,ob,sb,ib⟩:=hb.at hlt2 2 rfl;obtain⟨u0,ra0,Hm⟩:=sa.val' 0 (it:= .int) rfl;obtain⟨w0,rb0,Hn⟩:=sb.val' 0 (it:= .int) rfl;obtain⟨u1,ra1,Od,ea1⟩:=sa.Ro 1 rfl;obtain⟨w1,rb1,Oe,eb1⟩:=sb.Ro 1 rfl;have su:gF u0 u0=true:=by obtain⟨z,rfl,_⟩:=ra0.rA;exact pQ _ _
  have sw:gF w0 w0=true:=by obtain⟨z,rfl,_⟩:=rb0.rA;exact pQ _ _
  have h2:=aB8 sa.len sb.len;simp only [ia,ib,aB,Hm S' hx,Hn S' hx,(PZ ra0 rb0 _ _).2];cases q0:pI (ats es[i] 0) (ats fs[i] 0)with
  | false=>
   simp only [Bool.not_false,cL,cS,Hm S' hx,Hn S' hx,aQ su,aQ sw,bL,bS];have:=hK S' hx;rw [dF hlt hlt2,h2,q0]at this;exact this
  | true=>
   simp only [Bool.not_true,cL,cH,ia,ib,aB,Od S' hx,Oe S' hx];refine vD hM n (ra1.fr (hx.fr _)) (rb1.fr (hx.fr _)) fun S3z x3=>?_;have hx3:=hx.trans x3;simp only [Hm S3z hx3,Hn S3z hx3,aQ su,aQ sw,oQ,bJ];rw [q0,ea1,eb1]at h2;have h2:BG es[i] fs[i]=kN (bT (ats es[i] 1)) (bT (ats fs[i] 1)):=h2;cases q1:kN (bT (ats es[i] 1)) (bT (ats fs[i] 1))with
   | false=>
    simp only [Bool.not_false,bS];have:=hK S3z hx3;rw [dF hlt hlt2,h2,q1]at this;exact this
   | true=>
    simp only [Bool.not_true,cA];rw [aP _ _ _ _ (by omega)];refine ih (i+1) m S3z (by omega) (by omega) hx3 fun S4 x4=>?_;have:=hK S4 x4;rw [dF hlt hlt2,h2,q1]at this;exact this
theorem HC (hM:140737488355328<most):Gf most sH bB 2:=by
 intro n Sz C C' a b es fs K ha hb hK;rw [aT (by rfl),Bq];unfold MQ;rw [ha.bD.2,hb.bD.2,dM];by_cases he:es.length=fs.length
 ·rw [show decide (bH (.l es)=bH (.l fs))=true from decide_eq_true he]
  show gD zF _ _=true;rw [cA,bP];have hN:es.length<=140737488355328:=ha.bD.1;exact KA hM ha hb he es.length 0 most Sz (by omega) (by omega) (.refl Sz) fun S2z x2=>hK S2z x2
 ·rw [show decide (bH (.l es)=bH (.l fs))=false from decide_eq_false he]
  show gD (.bool true) _ _=true;rw [bS];have:=hK Sz (.refl Sz)
  rwa [vA he]at this
set_option maxRecDepth 100000 in
theorem ZP (hM:140737488355328<most):aAc most GI aD 3:=by
 intro n Sz C C' va vb da db K ha hb hK
 have hT:da=db->∀S',aZ Sz S'->K (.bool true) S'=true:=fun e S' hx=>by
  have:=hK S' hx
  rwa [(cI da db).2 e]at this
 have hF:da≠db->∀S',aZ Sz S'->K zF S'=true:=fun e S' hx=>by
  have:=hK S' hx
  rwa [show BG da db=false from by
   cases hq:BG da db with
   | false=>rfl
   | true=>exact absurd ((cI da db).1 hq) e]at this
 have hla:da.length=8:=ha.jK;have hlb:db.length=8:=hb.jK;rw [aT (by rfl),Gn];unfold QJ;refine EL ha hb _ fun b1 b2 S2z x2 sa sb=>?_;obtain⟨u0,w0,Hm,Hn,c0⟩:=lG sa sb 0 rfl;obtain⟨u1,w1,Od,Oe,c1⟩:=lG sa sb 1 rfl;obtain⟨u2,ra2,la2,ea2⟩:=sa.mR 2 (dJ:=cO) rfl;obtain⟨w2,rb2,lb2,eb2⟩:=sb.mR 2 (dJ:=cO) rfl;obtain⟨u3,ra3,la3,ea3⟩:=sa.EG 3 rfl;obtain⟨w3,rb3,lb3,eb3⟩:=sb.EG 3 rfl;obtain⟨u4,ra4,la4,ea4⟩:=sa.mR 4 (dJ:=bB) rfl;obtain⟨w4,rb4,lb4,eb4⟩:=sb.mR 4 (dJ:=bB) rfl;obtain⟨u5,ra5,la5,ea5⟩:=sa.mR 5 (dJ:=bB) rfl;obtain⟨w5,rb5,lb5,eb5⟩:=sb.mR 5 (dJ:=bB) rfl;obtain⟨u6,ra6,la6,ea6⟩:=sa.EG 6 rfl;obtain⟨w6,rb6,lb6,eb6⟩:=sb.EG 6 rfl;obtain⟨u7,w7,la7,lb7,c7⟩:=SI sa sb 7 rfl;have hx:aZ S2z S2z:= .refl S2z;simp only [aB,Nat.zero_add,Hm S2z hx,Hn S2z hx,c0];cases q0:pI (ats da 0) (ats db 0)with
 | false=>
  simp only [cL,cG,bJ];exact hF (sG q0) _ (x2.trans hx)
 | true=>
 simp only [cL,cF,bL,Od S2z hx,Oe S2z hx,c1];cases q1:pI (ats da 1) (ats db 1)with
 | false=>
  simp only [cG,bJ];exact hF (sG q1) _ (x2.trans hx)
 | true=>
 simp only [cF,bL,la2 S2z hx,lb2 S2z hx];refine VS hM (n+0) (ra2.fr (hx.fr _)) (rb2.fr (hx.fr _)) fun S3z y3=>?_;have hx3:=hx.trans y3;cases q2:kN (bT (ats da 2)) (bT (ats db 2))with
 | false=>
  simp only [cG,bJ];exact hF (CJ q2) _ (x2.trans hx3)
 | true=>
 simp only [cF,bL,la3 S3z hx3,lb3 S3z hx3];refine vD hM (n+1) (ra3.fr (hx3.fr _)) (rb3.fr (hx3.fr _)) fun S4 y4=>?_;have hx4:=hx3.trans y4;cases q3:kN (bT (ats da 3)) (bT (ats db 3))with
 | false=>
  simp only [cG,bJ];exact hF (CJ q3) _ (x2.trans hx4)
 | true=>
 simp only [cF,bL,la4 S4 hx4,lb4 S4 hx4];refine HC hM (n+0) (ra4.fr (hx4.fr _)) (rb4.fr (hx4.fr _)) fun S5 y5=>?_;have hx5:=hx4.trans y5;cases q4:kN (bT (ats da 4)) (bT (ats db 4))with
 | false=>
  simp only [cG,bJ];exact hF (CJ q4) _ (x2.trans hx5)
 | true=>
 simp only [cF,bL,la5 S5 hx5,lb5 S5 hx5];refine HC hM (n+0) (ra5.fr (hx5.fr _)) (rb5.fr (hx5.fr _)) fun S6 y6=>?_;have hx6:=hx5.trans y6;cases q5:kN (bT (ats da 5)) (bT (ats db 5))with
 | false=>
  simp only [cG,bJ];exact hF (CJ q5) _ (x2.trans hx6)
 | true=>
 simp only [cF,bL,la6 S6 hx6,lb6 S6 hx6];refine vD hM (n+1) (ra6.fr (hx6.fr _)) (rb6.fr (hx6.fr _)) fun S7 y7=>?_;have hx7:=hx6.trans y7;cases q6:kN (bT (ats da 6)) (bT (ats db 6))with
 | false=>
  simp only [cG,bJ];exact hF (CJ q6) _ (x2.trans hx7)
 | true=>
 simp only [cF,bL,la7 S7 hx7,lb7 S7 hx7,c7];cases q7:pI (ats da 7) (ats db 7)with
 | false=>
  exact hF (sG q7) _ (x2.trans hx7)
 | true=>
  exact hT (QB hla hlb fun j hj=>by
   have h:j=0\/j=1\/j=2\/j=3\/j=4\/j=5\/j=6\/j=7:=by omega
   rcases h with rfl | rfl | rfl | rfl | rfl | rfl | rfl | rfl
   ·exact(dZ _ _).1 q0
   ·exact(dZ _ _).1 q1
   ·exact by rw [ea2,eb2,(gK _ _).1 q2]
   ·exact by rw [ea3,eb3,(gK _ _).1 q3]
   ·exact by rw [ea4,eb4,(gK _ _).1 q4]
   ·exact by rw [ea5,eb5,(gK _ _).1 q5]
   ·exact by rw [ea6,eb6,(gK _ _).1 q6]
   ·exact(dZ _ _).1 q7) _ (x2.trans hx7)
theorem EM (hM:140737488355328<most){n:Nat}{Sz:St}{C C':Nat->Prop}{a b:Value}{es fs:List (List D)}{K:VK} (ha:Rd Sz C (.list aD) a (.l es)) (hb:Rd Sz C' (.list aD) b (.l fs)) (he:es.length=fs.length):
 ∀(r i m:Nat) (S':St),i+r=es.length->r<m->aZ Sz S'->(∀S2z,aZ Sz S2z->K (.bool (kN (es.drop i) (fs.drop i))) S2z=true)->kS (X most (n+3)) m a b (.int .i64 (.ofNat i)) S' K=true:=by
 obtain⟨hN,hlen⟩:=ha.bD;have hN:es.length<=140737488355328:=hN;intro r;induction r with
 | zero=>
  intro i m S' hi hm hx hK;obtain⟨m,rfl⟩:=Nat.exists_eq_succ_of_ne_zero (show m≠0 by omega);rw [tV];unfold nN;rw [hlen,aG,show decide (i<bH (.l es))=false from decide_eq_false (show ¬i<es.length by omega),cA];have:=hK S' hx
  rwa [pM (by omega) (by omega)]at this
 | succ r ih=>
  intro i m S' hi hm hx hK;obtain⟨m,rfl⟩:=Nat.exists_eq_succ_of_ne_zero (show m≠0 by omega);have hlt:i<es.length:=by omega
  have hlt2:i<fs.length:=by omega
  rw [tV];unfold nN;rw [hlen,aG,show decide (i<bH (.l es))=true from decide_eq_true (show i<es.length from hlt),bS];obtain⟨ba,oa,sa,ia⟩:=ha.at hlt 8 rfl;obtain⟨bb,ob,sb,ib⟩:=hb.at hlt2 8 rfl;obtain⟨ca,ra,la⟩:=(sa.fr (hx.fr _)).Rm 8 rfl;obtain⟨cb,rb,lb⟩:=(sb.fr (hx.fr _)).Rm 8 rfl;rw [ia,la S' (.refl S'),ib,lb S' (.refl S')];refine ZP hM n ra rb fun S3z x3=>?_;rw [oQ];cases hq:BG es[i] fs[i]with
  | false=>
   simp only [Bool.not_false,bS];have:=hK S3z (hx.trans x3);rw [dF hlt hlt2,hq]at this;exact this
  | true=>
   simp only [Bool.not_true,cA];rw [aP _ _ _ _ (by omega)];refine ih (i+1) m S3z (by omega) (by omega) (hx.trans x3) fun S2z x2=>?_;have:=hK S2z x2;rw [dF hlt hlt2,hq]at this;exact this
theorem BH (hM:140737488355328<most):Gf most nO aD 4:=by
 intro n Sz C C' a b es fs K ha hb hK;rw [aT (by rfl),SJ];unfold EN;rw [ha.bD.2,hb.bD.2,dM];by_cases he:es.length=fs.length
 ·rw [show decide (bH (.l es)=bH (.l fs))=true from decide_eq_true he]
  show gD zF _ _=true;rw [cA,bP];have hN:es.length<=140737488355328:=ha.bD.1;exact EM hM ha hb he es.length 0 most Sz (by omega) (by omega) (.refl Sz) fun S2z x2=>hK S2z x2
 ·rw [show decide (bH (.l es)=bH (.l fs))=false from decide_eq_false he]
  show gD (.bool true) _ _=true;rw [bS];have:=hK Sz (.refl Sz)
  rwa [vA he]at this
set_option maxRecDepth 100000 in
theorem LV (hM:140737488355328<most){n:Nat}{Sz:St}{C C':Nat->Prop}{b1 b2:Nat}{da db:List D}{a b:Value}{es fs:List (List D)}{K:VK} (_sa:qO Sz C bN b1 0 da) (_sb:qO Sz C' bN b2 0 db) (ha:Rd Sz C (.list bE) a (.l es)) (hb:Rd Sz C' (.list bE) b (.l fs))
 (la:∀S',aZ Sz S'->∀K,aN (pt b1 27) S' K=K a S') (lb:∀S',aZ Sz S'->∀K,aN (pt b2 27) S' K=K b S') (he:es.length=fs.length):
 ∀(r i m:Nat) (S':St),i+r=es.length->r<m->aZ Sz S'->(∀S2z,aZ Sz S2z->K (.bool (kN (es.drop i) (fs.drop i))) S2z=true)->oZ (X most (n+4)) m (pt b1 0) (pt b2 0) (.int .i64 (.ofNat i)) S' K=true:=by
 obtain⟨hN,hlen⟩:=ha.bD;have hN:es.length<=140737488355328:=hN;intro r;induction r with
 | zero=>
  intro i m S' hi hm hx hK;obtain⟨m,rfl⟩:=Nat.exists_eq_succ_of_ne_zero (show m≠0 by omega);rw [zH];unfold rV;rw [aB,Nat.zero_add,la S' hx,hlen,aG,show decide (i<bH (.l es))=false from decide_eq_false (show ¬i<es.length by omega),cA];have:=hK S' hx
  rwa [pM (by omega) (by omega)]at this
 | succ r ih=>
  intro i m S' hi hm hx hK;obtain⟨m,rfl⟩:=Nat.exists_eq_succ_of_ne_zero (show m≠0 by omega);have hlt:i<es.length:=by omega
  have hlt2:i<fs.length:=by omega
  rw [zH];unfold rV;rw [aB,Nat.zero_add,la S' hx,hlen,aG,show decide (i<bH (.l es))=true from decide_eq_true (show i<es.length from hlt),bS];obtain⟨ba,oa,sa,ia⟩:=ha.at hlt 3 rfl;obtain⟨bb,ob,sb,ib⟩:=hb.at hlt2 3 rfl;obtain⟨u0,ra0,Hm⟩:=sa.val' 0 (it:= .int) rfl;obtain⟨w0,rb0,Hn⟩:=sb.val' 0 (it:= .int) rfl;obtain⟨u1,ra1,Od⟩:=sa.val' 1 (it:= .int) rfl;obtain⟨w1,rb1,Oe⟩:=sb.val' 1 (it:= .int) rfl;obtain⟨u2,ra2,la2,ea2⟩:=sa.Ro 2 rfl;obtain⟨w2,rb2,lb2,eb2⟩:=sb.Ro 2 rfl;have su:gF u0 u0=true:=by obtain⟨z,rfl,_⟩:=ra0.rA;exact pQ _ _
  have sw:gF w0 w0=true:=by obtain⟨z,rfl,_⟩:=rb0.rA;exact pQ _ _
  have su1:gF u1 u1=true:=by obtain⟨z,rfl,_⟩:=ra1.rA;exact pQ _ _
  have sw1:gF w1 w1=true:=by obtain⟨z,rfl,_⟩:=rb1.rA;exact pQ _ _
  have sA:=cW ha;have sB:=cW hb;have h2:=Vb sa.len sb.len;simp only [aB,Nat.zero_add,la S' hx,lb S' hx,ia,ib,Hm S' hx,Hn S' hx,(PZ ra0 rb0 _ _).2];cases q0:pI (ats es[i] 0) (ats fs[i] 0)with
  | false=>
   simp only [Bool.not_false,cL,cS,ZK,la S' hx,lb S' hx,Hm S' hx,Hn S' hx,aQ su,aQ sw,aQ sA,aQ sB,bL,bS];have:=hK S' hx;rw [dF hlt hlt2,h2,q0]at this;exact this
  | true=>
   simp only [Bool.not_true,cL,cH,aB,la S' hx,lb S' hx,ia,ib,Od S' hx,Oe S' hx,(PZ ra1 rb1 _ _).2,bJ];cases q1:pI (ats es[i] 1) (ats fs[i] 1)with
   | false=>
    simp only [Bool.not_false,cS,ZK,NN,la S' hx,lb S' hx,Hm S' hx,Hn S' hx,Od S' hx,Oe S' hx,aQ su,aQ sw,aQ su1,aQ sw1,aQ sA,aQ sB,bL,bS];have:=hK S' hx;rw [dF hlt hlt2,h2,q0,q1]at this;exact this
   | true=>
    simp only [Bool.not_true,cH,aB,la S' hx,lb S' hx,ia,ib,la2 S' hx,lb2 S' hx];refine JV hM (n+3) (ra2.fr (hx.fr _)) (rb2.fr (hx.fr _)) fun S3z x3=>?_;have hx3:=hx.trans x3;simp only [NN,la S3z hx3,lb S3z hx3,Hm S3z hx3,Hn S3z hx3,Od S3z hx3,Oe S3z hx3,aQ su,aQ sw,aQ su1,aQ sw1,aQ sA,aQ sB,oQ,bJ];rw [q0,q1,ea2,eb2]at h2;have h2:BG es[i] fs[i]=kN (bT (ats es[i] 2)) (bT (ats fs[i] 2)):=h2;cases q2:kN (bT (ats es[i] 2)) (bT (ats fs[i] 2))with
    | false=>
     simp only [Bool.not_false,bS];have:=hK S3z hx3;rw [dF hlt hlt2,h2,q2]at this;exact this
    | true=>
     simp only [Bool.not_true,cA];rw [aP _ _ _ _ (by omega)];refine ih (i+1) m S3z (by omega) (by omega) hx3 fun S4 x4=>?_;have:=hK S4 x4;rw [dF hlt hlt2,h2,q2]at this;exact this
set_option maxRecDepth 100000 in
theorem ZQ (hM:140737488355328<most):aAc most AC bN 5:=by
 intro n Sz C C' va vb da db K ha hb hK
 have hT:da=db->∀S',aZ Sz S'->K (.bool true) S'=true:=fun e S' hx=>by
  have:=hK S' hx
  rwa [(cI da db).2 e]at this
 have hF:da≠db->∀S',aZ Sz S'->K zF S'=true:=fun e S' hx=>by
  have:=hK S' hx
  rwa [show BG da db=false from by
   cases hq:BG da db with
   | false=>rfl
   | true=>exact absurd ((cI da db).1 hq) e]at this
 have hla:da.length=30:=ha.jK;have hlb:db.length=30:=hb.jK;rw [aT (by rfl),Gp];unfold QK;refine EL ha hb _ fun b1 b2 S2z x2 sa sb=>?_;obtain⟨u0,w0,Hm,Hn,c0⟩:=mL sa sb 0 rfl;obtain⟨u25,w25,aGr,aGs,c25⟩:=Dj sa sb 25 rfl;obtain⟨u1,ra1,Od,ea1⟩:=sa.mR 1 (dJ:=bA) rfl;obtain⟨w1,rb1,Oe,eb1⟩:=sb.mR 1 (dJ:=bA) rfl;obtain⟨u22,aGt,aGu,aGv⟩:=sa.mR 22 (dJ:=bA) rfl;obtain⟨w22,aGw,aGx,aGy⟩:=sb.mR 22 (dJ:=bA) rfl;have pa2:=sa.part 2 20 (by decide);have pb2:=sb.part 2 20 (by decide);rw [Nat.zero_add]at pa2 pb2;obtain⟨ca2,ra2,la2⟩:=qO.Rm (its:=bZ) pa2 20 rfl;obtain⟨cb2,rb2,lb2⟩:=qO.Rm (its:=bZ) pb2 20 rfl;obtain⟨u23,aGz,aGA,aGB⟩:=sa.mR 23 (dJ:=aY) rfl;obtain⟨w23,aGC,aGD,aGE⟩:=sb.mR 23 (dJ:=aY) rfl;obtain⟨u24,ra24,aGF,ea24⟩:=sa.mR 24 (dJ:=aY) rfl;obtain⟨w24,aGG,aGH,aGI⟩:=sb.mR 24 (dJ:=aY) rfl;obtain⟨u26,ra26,aGJ,ea26⟩:=sa.mR 26 (dJ:=aD) rfl;obtain⟨w26,aGK,aGL,aGM⟩:=sb.mR 26 (dJ:=aD) rfl;obtain⟨u29,ra29,aGN,ea29⟩:=sa.mR 29 (dJ:=aD) rfl;obtain⟨w29,aGO,aGP,aGQ⟩:=sb.mR 29 (dJ:=aD) rfl;obtain⟨u28,ra28,aGR,ea28⟩:=sa.mR 28 (dJ:=aV) rfl;obtain⟨w28,aGS,aGT,aGU⟩:=sb.mR 28 (dJ:=aV) rfl;obtain⟨u27,ra27,aFb,ea27⟩:=sa.mR 27 (dJ:=bE) rfl;obtain⟨w27,aFc,aFd,aGV⟩:=sb.mR 27 (dJ:=bE) rfl;have hx:aZ S2z S2z:= .refl S2z;simp only [aB,Nat.zero_add,Hm S2z hx,Hn S2z hx,c0];cases q0:pI (ats da 0) (ats db 0)with
 | false=>
  simp only [cL,cS,bL,bS,Bool.not_false];exact hF (sG q0) _ (x2.trans hx)
 | true=>
 simp only [cL,cH,bJ,Bool.not_true,aGr S2z hx,aGs S2z hx,c25];cases q25:pI (ats da 25) (ats db 25)with
 | false=>
  simp only [cS,bL,bS,Bool.not_false];exact hF (sG q25) _ (x2.trans hx)
 | true=>
 simp only [cH,bJ,Bool.not_true,Od S2z hx,Oe S2z hx];refine CL hM (n+3) (ra1.fr (hx.fr _)) (rb1.fr (hx.fr _)) fun S3z y3=>?_;have hx3:=hx.trans y3;simp only [oQ];cases q1:kN (bT (ats da 1)) (bT (ats db 1))with
 | false=>
  simp only [cS,bL,bS,Bool.not_false];exact hF (CJ q1) _ (x2.trans hx3)
 | true=>
 simp only [cH,bJ,Bool.not_true,aGu S3z hx3,aGx S3z hx3];refine CL hM (n+3) (aGt.fr (hx3.fr _)) (aGw.fr (hx3.fr _)) fun S4 y4=>?_;have hx4:=hx3.trans y4;simp only [oQ];cases q22:kN (bT (ats da 22)) (bT (ats db 22))with
 | false=>
  simp only [cS,bL,bS,Bool.not_false];exact hF (CJ q22) _ (x2.trans hx4)
 | true=>
 simp only [cH,bJ,Bool.not_true,la2 S4 hx4,lb2 S4 hx4];refine ZO hM (n+1) (ra2.fr (hx4.fr _)) (rb2.fr (hx4.fr _)) fun S5 y5=>?_;have hx5:=hx4.trans y5;simp only [oQ];cases q2:BG ((da.drop 2).take 20) ((db.drop 2).take 20)with
 | false=>
  simp only [cS,bL,bS,Bool.not_false];exact hF (aE6 q2) _ (x2.trans hx5)
 | true=>
 simp only [cH,bJ,Bool.not_true,aGA S5 hx5,aGD S5 hx5];refine JW hM (n+3) (aGz.fr (hx5.fr _)) (aGC.fr (hx5.fr _)) fun S6 y6=>?_;have hx6:=hx5.trans y6;simp only [oQ];cases q23:kN (bT (ats da 23)) (bT (ats db 23))with
 | false=>
  simp only [cS,bL,bS,Bool.not_false];exact hF (CJ q23) _ (x2.trans hx6)
 | true=>
 simp only [cH,bJ,Bool.not_true,aGF S6 hx6,aGH S6 hx6];refine JW hM (n+3) (ra24.fr (hx6.fr _)) (aGG.fr (hx6.fr _)) fun S7 y7=>?_;have hx7:=hx6.trans y7;simp only [oQ];cases q24:kN (bT (ats da 24)) (bT (ats db 24))with
 | false=>
  simp only [cS,bL,bS,Bool.not_false];exact hF (CJ q24) _ (x2.trans hx7)
 | true=>
 simp only [cH,bJ,Bool.not_true,aGJ S7 hx7,aGL S7 hx7];refine BH hM (n+0) (ra26.fr (hx7.fr _)) (aGK.fr (hx7.fr _)) fun S8 y8=>?_;have hx8:=hx7.trans y8;simp only [oQ];cases q26:kN (bT (ats da 26)) (bT (ats db 26))with
 | false=>
  simp only [cS,bL,bS,Bool.not_false];exact hF (CJ q26) _ (x2.trans hx8)
 | true=>
 simp only [cH,bJ,Bool.not_true,aGN S8 hx8,aGP S8 hx8];refine BH hM (n+0) (ra29.fr (hx8.fr _)) (aGO.fr (hx8.fr _)) fun S9 y9=>?_;have hx9:=hx8.trans y9;simp only [oQ];cases q29:kN (bT (ats da 29)) (bT (ats db 29))with
 | false=>
  simp only [cS,bL,bS,Bool.not_false];exact hF (CJ q29) _ (x2.trans hx9)
 | true=>
 simp only [cH,bJ,Bool.not_true,aGR S9 hx9,aGT S9 hx9];refine JY hM (n+2) (ra28.fr (hx9.fr _)) (aGS.fr (hx9.fr _)) fun S10 y10=>?_;have aAe:=hx9.trans y10;simp only [oQ];cases q28:kN (bT (ats da 28)) (bT (ats db 28))with
 | false=>
  simp only [cS,bL,bS,Bool.not_false];exact hF (CJ q28) _ (x2.trans aAe)
 | true=>
 simp only [cH,bJ,Bool.not_true,aFb S10 aAe,aFd S10 aAe,ra27.bD.2,aFc.bD.2,dM,bH];cases q27:decide ((bT (ats da 27)).length=(bT (ats db 27)).length)with
 | false=>
  simp only [bS,Bool.not_false];exact hF (fun e=>by subst e;simp at q27) _ (x2.trans aAe)
 | true=>
  simp only [Bool.not_true,cA];have hN:(bT (ats da 27)).length<=140737488355328:=ra27.bD.1;rw [bP];refine LV hM (n:=n) sa sb ra27 aFc aFb aFd (of_decide_eq_true q27) (K:=K) (bT (ats da 27)).length 0 most S10 (by omega) (by omega) aAe fun S9 x9=>?_;rw [List.drop_zero,List.drop_zero];cases he:kN (bT (ats da 27)) (bT (ats db 27))with
  | false=>exact hF (fun e=>by subst e;rw [LG]at he;cases he) _ (x2.trans x9)
  | true=>exact hT (QB hla hlb fun j hj=>by
   have h:j=0\/j=1\/j=2\/j=3\/j=4\/j=5\/j=6\/j=7\/j=8\/j=9\/j=10\/j=11\/j=12\/j=13\/j=14\/j=15\/j=16\/j=17\/j=18\/j=19\/j=20\/j=21\/j=22\/j=23\/j=24\/j=25\/j=26\/j=27\/j=28\/j=29:=by omega
   rcases h with rfl | rfl | rfl | rfl | rfl | rfl | rfl | rfl | rfl | rfl | rfl | rfl | rfl | rfl | rfl | rfl | rfl | rfl | rfl | rfl | rfl | rfl | rfl | rfl | rfl | rfl | rfl | rfl | rfl | rfl
   ·exact(dZ _ _).1 q0
   ·exact by rw [ea1,eb1,(gK _ _).1 q1]
   ·exact dS (k:=2) (m:=20) hla hlb ((cI _ _).1 q2) 0 (by omega) (by omega)
   ·exact dS (k:=2) (m:=20) hla hlb ((cI _ _).1 q2) 1 (by omega) (by omega)
   ·exact dS (k:=2) (m:=20) hla hlb ((cI _ _).1 q2) 2 (by omega) (by omega)
   ·exact dS (k:=2) (m:=20) hla hlb ((cI _ _).1 q2) 3 (by omega) (by omega)
   ·exact dS (k:=2) (m:=20) hla hlb ((cI _ _).1 q2) 4 (by omega) (by omega)
   ·exact dS (k:=2) (m:=20) hla hlb ((cI _ _).1 q2) 5 (by omega) (by omega)
   ·exact dS (k:=2) (m:=20) hla hlb ((cI _ _).1 q2) 6 (by omega) (by omega)
   ·exact dS (k:=2) (m:=20) hla hlb ((cI _ _).1 q2) 7 (by omega) (by omega)
   ·exact dS (k:=2) (m:=20) hla hlb ((cI _ _).1 q2) 8 (by omega) (by omega)
   ·exact dS (k:=2) (m:=20) hla hlb ((cI _ _).1 q2) 9 (by omega) (by omega)
   ·exact dS (k:=2) (m:=20) hla hlb ((cI _ _).1 q2) 10 (by omega) (by omega)
   ·exact dS (k:=2) (m:=20) hla hlb ((cI _ _).1 q2) 11 (by omega) (by omega)
   ·exact dS (k:=2) (m:=20) hla hlb ((cI _ _).1 q2) 12 (by omega) (by omega)
   ·exact dS (k:=2) (m:=20) hla hlb ((cI _ _).1 q2) 13 (by omega) (by omega)
   ·exact dS (k:=2) (m:=20) hla hlb ((cI _ _).1 q2) 14 (by omega) (by omega)
   ·exact dS (k:=2) (m:=20) hla hlb ((cI _ _).1 q2) 15 (by omega) (by omega)
   ·exact dS (k:=2) (m:=20) hla hlb ((cI _ _).1 q2) 16 (by omega) (by omega)
   ·exact dS (k:=2) (m:=20) hla hlb ((cI _ _).1 q2) 17 (by omega) (by omega)
   ·exact dS (k:=2) (m:=20) hla hlb ((cI _ _).1 q2) 18 (by omega) (by omega)
   ·exact dS (k:=2) (m:=20) hla hlb ((cI _ _).1 q2) 19 (by omega) (by omega)
   ·exact by rw [aGv,aGy,(gK _ _).1 q22]
   ·exact by rw [aGB,aGE,(gK _ _).1 q23]
   ·exact by rw [ea24,aGI,(gK _ _).1 q24]
   ·exact(dZ _ _).1 q25
   ·exact by rw [ea26,aGM,(gK _ _).1 q26]
   ·exact by rw [ea27,aGV,(gK _ _).1 he]
   ·exact by rw [ea28,aGU,(gK _ _).1 q28]
   ·exact by rw [ea29,aGQ,(gK _ _).1 q29]) _ (x2.trans x9)
theorem wR{f:Nat->List D->Nat} (hf:∀n ds,n+1<=f n ds){es:List (List D)}{n:Nat} (h:bU f es n<9000):es.length<=2000000:=by
 have:=(aAf (f:=f) (fun _=>0) (fun n ds=>by have:=hf n ds;omega) es n h).1;omega
theorem ZU:∀(es:List (List D)) (n:Nat),n<=bU HF es n:=KB fun n ds=>by unfold HF;omega
theorem Kq{es:List (List D)}{n:Nat} (h:bU pD es n<9000):∀x∈es,(bT (ats x 4)).length<=2000000/\(bT (ats x 5)).length<=2000000:=by
 induction es generalizing n with
 | nil=>intro x hx;cases hx
 | cons ds es ih=>
  by_cases hn:n<9000
  ·rw [EO hn]at h
   have h1:pD n ds<9000:=Nat.lt_of_le_of_lt (KB (f:=pD) (fun n ds=>Nat.le_trans (by omega) (ZU _ _)) es _) h;unfold pD at h1;have h2:=Nat.lt_of_le_of_lt (ZU _ _) h1;intro x hx;rcases List.mem_cons.1 hx with e | hx
   ·subst e
    exact⟨wR (f:=vV) (n:=0) (fun n ds=>by unfold vV;omega) (by omega),wR (f:=vV) (n:=0) (fun n ds=>by unfold vV;omega) (by omega)⟩
   ·exact ih h x hx
  ·rw [EP hn]at h;exact absurd h hn
theorem KC{ds:List D} (hl:KD ds<9000):Rq ds:=by
 unfold KD at hl;have l19:=Nat.lt_of_le_of_lt (KB (f:=BI) (fun n ds=>by unfold BI;omega) _ _) hl;have l3:=Nat.lt_of_le_of_lt (KB (f:=rX) (fun n ds=>by unfold rX;omega) _ _) l19;have l27:bU nQ (bT (ats ds 27)) (N1 ds)<9000:=Nat.lt_of_le_of_lt (by unfold N3;exact Nat.le_add_right _ _) l3;have l1:=Nat.lt_of_le_of_lt (KB (f:=nQ) (fun n ds=>by unfold nQ;omega) _ _) l27;unfold N1 at l1;have l26:bU pD (bT (ats ds 26)) 0<9000:=by omega
 have l29:bU pD (bT (ats ds 29)) 0<9000:=by omega
 have fd:∀n ds,n+1<=pD n ds:=fun n ds=>Nat.le_trans (by omega) (ZU _ _);exact⟨wR (f:=rX) (fun n ds=>by unfold rX;omega) l19,wR (f:=BI) (fun n ds=>by unfold BI;omega) hl,wR fd l26,Kq l26,wR (f:=nQ) (fun n ds=>by unfold nQ;omega) l27,wR fd l29,Kq l29⟩
theorem sJ (m:Nat) (st:RS):(fD m st).1<=m:=by
 unfold fD;split
 ·exact Nat.zero_le _
 ·split
  ·split
   ·assumption
   ·exact Nat.zero_le _
  ·exact Nat.zero_le _
theorem rF (f:RS->List D×RS):∀(n:Nat) (st:RS),(kK f n st).1.length<=n:=by
 intro n;induction n with
 | zero=>intro st;exact Nat.le_refl _
 | succ n ih=>
  intro st;unfold kK;split
  ·exact Nat.zero_le _
  ·show((f st).1::(kK f n (f st).2).1).length<=n+1
   rw [List.length_cons];have:=ih (f st).2;omega
theorem aAh (f:RS->List D×RS):∀(n:Nat) (st:RS),∀x∈(kK f n st).1,∃st',x=(f st').1:=by
 intro n;induction n with
 | zero=>intro st x hx;cases hx
 | succ n ih=>
  intro st x hx;unfold kK at hx;split at hx
  ·cases hx
  ·rcases List.mem_cons.1 hx with e | hx
   ·exact⟨st,e⟩
   ·exact ih _ x hx
theorem ZV:∀(its:List It) (st:RS) (j:Nat) (it:It),its[j]? =some it->∃st',ats (bX its st).1 j=(dec it st').1:=by
 intro its;induction its with
 | nil=>intro st j it h;simp at h
 | cons t its ih=>
  intro st j it h;cases j with
  | zero=>
   injection h with h;subst h;exact⟨st,by rw [bX];rfl⟩
  | succ j=>
   obtain⟨st',hs⟩:=ih (dec t st).2 j it h;exact⟨st',by rw [bX];exact hs⟩
theorem Gu (its:List It) (st:RS):(bT (dec (.list its) st).1).length<=2000000:=by
 rw [dec];show(kK (bX its) (fD 1048576 st).1 (fD 1048576 st).2).1.length<=2000000;have h1:=rF (bX its) (fD 1048576 st).1 (fD 1048576 st).2;have h2:=sJ 1048576 st;omega
theorem aCa (its:List It) (st:RS):∀x∈bT (dec (.list its) st).1,∃st',x=(bX its st').1:=by
 rw [dec];exact aAh (bX its) _ _
theorem aAi (st:RS):∀x∈bT (dec (.list aD) st).1,(bT (ats x 4)).length<=2000000/\(bT (ats x 5)).length<=2000000:=by
 intro x hx;obtain⟨st',rfl⟩:=aCa _ _ x hx;obtain⟨s4,h4⟩:=ZV aD st' 4 _ rfl;obtain⟨s5,h5⟩:=ZV aD st' 5 _ rfl;rw [h4,h5];exact⟨Gu _ _,Gu _ _⟩
theorem Ol:Rq (bN.map JS):=by
 refine⟨?_,?_,?_,?_,?_,?_,?_⟩<;>first | exact Nat.zero_le _ | (intro x hx;cases hx)
theorem Gv (l:List UInt8):Rq (decode l).1:=by
 unfold decode;split
 ·have g:∀j it,bN[j]? =some (.list it)->∃st',ats (bX bN (l,0)).1 j=(dec (.list it) st').1:=fun j it h=>ZV bN _ j _ h
  obtain⟨s19,h19⟩:=g 19 _ rfl;obtain⟨s20,h20⟩:=g 20 _ rfl;obtain⟨s26,Oj⟩:=g 26 _ rfl;obtain⟨s27,h27⟩:=g 27 _ rfl;obtain⟨s29,Ok⟩:=g 29 _ rfl;constructor<;>simp only [h19,h20,Oj,h27,Ok]<;>first | exact Gu _ _ | exact aAi _
 ·exact Ol
end Go.Am
set_option maxRecDepth 100000
namespace Go.Am
end Go.Am
namespace Go.Am
open Go.RowKit Go.MapKept Go.Proofs Go.Proofs.jB
variable{most:Nat}
theorem aFk (k:Value->Bool):Ar .not (.bool true) k=k zF:=rfl
def BJ (st:iZ):Prop:=st.2=0\/st.2=40
theorem Om (x:List UInt8×Nat) (hx:x.2=0\/x.2=40) (st:iZ) (h:BJ st):BJ (wr x st):=by
 unfold wr;split
 ·exact hx
 ·exact h
theorem aAj{f:iZ->List D->iZ} (h:∀st ds,BJ st->BJ (f st ds)):∀(es:List (List D)) (st:iZ),BJ st->BJ (es.foldl f st):=by
 intro es;induction es with
 | nil=>intro st hs;exact hs
 | cons ds es ih=>intro st hs;exact ih _ (h st ds hs)
mutual
theorem aCb:∀(it:It) (d:D) (st:iZ),BJ st->BJ (enc it d st)
 | .num,d,st,h=>by cases d<;>simpa [enc,QN,BJ]using h
 | .kind,d,st,h=>by cases d<;>simpa [enc,QN,BJ]using h
 | .int,d,st,h=>by cases d<;>simpa [enc,QN,BJ]using h
 | .is,d,st,h=>by cases d<;>simpa [enc,QN,BJ]using h
 | .text,.s t,st,h=>by simp only [enc];exact Om _ (by unfold kB;split<;>simp) st h
 | .text,.n _,st,h=>by simpa [enc]using h
 | .text,.b _,st,h=>by simpa [enc]using h
 | .text,.l _,st,h=>by simpa [enc]using h
 | .nums,.l es,st,h=>by simp only [enc];exact Om _ (by unfold kT;split<;>simp) st h
 | .nums,.n _,st,h=>by simpa [enc]using h
 | .nums,.b _,st,h=>by simpa [enc]using h
 | .nums,.s _,st,h=>by simpa [enc]using h
 | .list its,.n _,st,h=>by simpa [enc]using h
 | .list its,.b _,st,h=>by simpa [enc]using h
 | .list its,.s _,st,h=>by simpa [enc]using h
 | .list its,.l es,st,h=>by
  simp only [enc];split
  ·exact Om _ (.inr rfl) st h
  ·exact aAj (fun st ds h=>by
    show BJ (if st.2=0 then encs its ds st else st);split
    ·exact ZW its ds st h
    ·exact h) es _ h
theorem ZW:∀(its:List It) (ds:List D) (st:iZ),BJ st->BJ (encs its ds st)
 | [],_,st,h=>by simpa [encs]using h
 | _::_,[],st,h=>by simpa [encs]using h
 | it::its,d::ds,st,h=>by simp only [encs];exact ZW its ds _ (aCb it d st h)
end
theorem Oo{ds:List D} (e:(encode ds).2≠0):(encode ds).1=[]/\(encode ds).2=40:=by
 unfold encode at e ⊢;by_cases h:(encs bN ds ([],0)).2=0
 ·simp only [if_pos h]at e;exact absurd rfl e
 ·simp only [if_neg h]at e ⊢
  rcases ZW bN ds ([],0) (.inl rfl)with c | c
  ·exact absurd c h
  ·exact⟨trivial,c⟩
abbrev pE:=List UInt8×Bool
mutual
def encR:It->D->pE->pE
 | .num,.n z,st=>(st.1++pH 8 z.toNat,st.2)
 | .kind,.n z,st=>(st.1++pH 1 z.toNat,st.2)
 | .int,.n z,st=>(st.1++pH 8 (u64 z),st.2)
 | .is,.b t,st=>(st.1++pH 8 (if t then 1 else 0),st.2)
 | .text,.s t,st=>(st.1++(kB t).1,st.2 || decide (2048<t.length))
 | .nums,.l es,st=>(st.1++(kT (es.map numOf)).1,st.2 || decide (1024<es.length))
 | .list its,.l es,st=>es.foldl (fun st ds=>fJ its ds st) (st.1++pH 8 es.length,st.2 || decide (1048576<es.length))
 | _,_,st=>st
def fJ:List It->List D->pE->pE
 | it::its,d::ds,st=>fJ its ds (encR it d st)
 | _,_,st=>st
end
def Vd (st:iZ) (rs:pE):Prop:=(st.2=0↔rs.2=false)/\(st.2=0->st.1=rs.1)
theorem Vd.QN{st:iZ}{rs:pE} (h:Vd st rs) (l:List UInt8):Vd (QN l st) (rs.1++l,rs.2):=
 ⟨h.1,fun e=>by show st.1++l=_;rw [h.2 e]⟩
theorem Vd.wr{st:iZ}{rs:pE} (h:Vd st rs) (x:List UInt8×Nat) (b:Bool) (hb:x.2=0↔b=false):Vd (wr x st) (rs.1++x.1,rs.2 || b):=by
 unfold Am.wr Vd;by_cases e:st.2=0
 ·have e2:=h.1.1 e
  rw [if_pos e,e2,Bool.false_or,h.2 e];exact⟨hb,fun _=>rfl⟩
 ·have e2:rs.2=true:=by cases q:rs.2 with | true=>rfl | false=>exact absurd (h.1.2 q) e
  rw [if_neg e,e2,Bool.true_or];exact⟨⟨fun c=>absurd c e,fun c=>by cases c⟩,fun c=>absurd c e⟩
mutual
theorem Kr:∀(it:It) (d:D) (st:pE),st.2=true->(encR it d st).2=true
 | .num,d,st,h=>by cases d<;>simpa [encR]using h
 | .kind,d,st,h=>by cases d<;>simpa [encR]using h
 | .int,d,st,h=>by cases d<;>simpa [encR]using h
 | .is,d,st,h=>by cases d<;>simpa [encR]using h
 | .text,d,st,h=>by cases d<;>simp [encR,h]
 | .nums,d,st,h=>by cases d<;>simp [encR,h]
 | .list its,.n _,st,h=>by simpa [encR]using h
 | .list its,.b _,st,h=>by simpa [encR]using h
 | .list its,.s _,st,h=>by simpa [encR]using h
 | .list its,.l es,st,h=>by
  simp only [encR]
  have key:∀(es:List (List D)) (st:pE),st.2=true->(es.foldl (fun st ds=>fJ its ds st) st).2=true:=by
   intro es;induction es with
   | nil=>intro st h;exact h
   | cons ds es ih=>intro st h;exact ih _ (SM its ds st h)
  exact key es _ (by simp [h])
theorem SM:∀(its:List It) (ds:List D) (st:pE),st.2=true->(fJ its ds st).2=true
 | [],_,st,h=>by simpa [fJ]using h
 | _::_,[],st,h=>by simpa [fJ]using h
 | it::its,d::ds,st,h=>by simp only [fJ];exact SM its ds _ (Kr it d st h)
end
mutual
theorem aCc:∀(it:It) (d:D) {st:iZ} {rs:pE},Vd st rs->Vd (enc it d st) (encR it d rs)
 | .num,d,st,rs,h=>by cases d<;>simp only [enc,encR]<;>first | exact h.QN _ | exact h
 | .kind,d,st,rs,h=>by cases d<;>simp only [enc,encR]<;>first | exact h.QN _ | exact h
 | .int,d,st,rs,h=>by cases d<;>simp only [enc,encR]<;>first | exact h.QN _ | exact h
 | .is,d,st,rs,h=>by cases d<;>simp only [enc,encR]<;>first | exact h.QN _ | exact h
 | .text,.s t,st,rs,h=>by
  simp only [enc,encR];refine h.wr _ _ ?_;unfold kB;by_cases c:2048<t.length
  ·rw [if_pos c,decide_eq_true c];simp
  ·rw [if_neg c,decide_eq_false c];simp
 | .text,.n _,st,rs,h=>by simpa [enc,encR]using h
 | .text,.b _,st,rs,h=>by simpa [enc,encR]using h
 | .text,.l _,st,rs,h=>by simpa [enc,encR]using h
 | .nums,.l es,st,rs,h=>by
  simp only [enc,encR];refine h.wr _ _ ?_;unfold kT;rw [List.length_map];by_cases c:1024<es.length
  ·rw [if_pos c,decide_eq_true c];simp
  ·rw [if_neg c,decide_eq_false c];simp
 | .nums,.n _,st,rs,h=>by simpa [enc,encR]using h
 | .nums,.b _,st,rs,h=>by simpa [enc,encR]using h
 | .nums,.s _,st,rs,h=>by simpa [enc,encR]using h
 | .list its,.n _,st,rs,h=>by simpa [enc,encR]using h
 | .list its,.b _,st,rs,h=>by simpa [enc,encR]using h
 | .list its,.s _,st,rs,h=>by simpa [enc,encR]using h
 | .list its,.l es,st,rs,h=>by
  simp only [enc,encR]
  have key:∀(es:List (List D)) (st:iZ) (rs:pE),Vd st rs->Vd (es.foldl (fun st ds=>if st.2=0 then encs its ds st else st) st) (es.foldl (fun st ds=>fJ its ds st) rs):=by
   intro es;induction es with
   | nil=>intro st rs h;exact h
   | cons ds es ih=>
    intro st rs h;rw [List.foldl_cons,List.foldl_cons];refine ih _ _ ?_;by_cases e:st.2=0
    ·rw [if_pos e];exact ZX its ds h
    ·rw [if_neg e]
     have e2:rs.2=true:=by cases q:rs.2 with | true=>rfl | false=>exact absurd (h.1.2 q) e
     have e3:=SM its ds rs e2;exact⟨⟨fun c=>absurd c e,fun c=>by rw [e3]at c;cases c⟩,fun c=>absurd c e⟩
  by_cases c:1048576<es.length
  ·rw [if_pos c,decide_eq_true c,Bool.or_true]
   have e3:(es.foldl (fun st ds=>fJ its ds st) (rs.1++pH 8 es.length,true)).2=true:=by
    have:=Kr (.list its) (.l es) (rs.1,true) rfl;simpa [encR]using this
   have e4:(Am.wr ([],40) st).2≠0:=by
    unfold Am.wr;show(if st.2=0 then 40 else st.2)≠0;split
    ·omega
    ·assumption
   exact⟨⟨fun c=>absurd c e4,fun c=>by rw [e3]at c;cases c⟩,fun c=>absurd c e4⟩
  ·rw [if_neg c,decide_eq_false c,Bool.or_false]
   exact key es _ _ (h.QN _)
theorem ZX:∀(its:List It) (ds:List D) {st:iZ} {rs:pE},Vd st rs->Vd (encs its ds st) (fJ its ds rs)
 | [],_,st,rs,h=>by simpa [encs,fJ]using h
 | _::_,[],st,rs,h=>by simpa [encs,fJ]using h
 | it::its,d::ds,st,rs,h=>by simp only [encs,fJ];exact ZX its ds (aCc it d h)
end
theorem Oq{ds:List D}:encode ds=if(fJ bN ds ([],false)).2 then([],40)else((fJ bN ds ([],false)).1,0):=by
 have h:=ZX bN ds (st:=([],0)) (rs:=([],false)) ⟨⟨fun _=>rfl,fun _=>rfl⟩,fun _=>rfl⟩;by_cases e:(encs bN ds ([],0)).2=0
 ·rw [show(fJ bN ds ([],false)).2=false from h.1.1 e]
  unfold encode;simp only [if_pos e];rw [h.2 e];rfl
 ·have e2:(fJ bN ds ([],false)).2=true:=by cases q:(fJ bN ds ([],false)).2 with | true=>rfl | false=>exact absurd (h.1.2 q) e
  rw [e2,if_pos rfl];have h1:(encode ds).2≠0:=by unfold encode;simp only [if_neg e];exact e
  obtain⟨a,b⟩:=Oo h1;exact Prod.ext a b
mutual
theorem mB:∀(it:It) (d:D) (st:pE),(encR it d st).1.length<=st.1.length+cost it d
 | .num,d,st=>by cases d<;>simp [encR,cost,bK]
 | .kind,d,st=>by cases d<;>simp [encR,cost,bK]
 | .int,d,st=>by cases d<;>simp [encR,cost,bK]
 | .is,d,st=>by cases d<;>simp [encR,cost,bK]
 | .text,d,st=>by cases d<;>simp [encR,cost,GK]
 | .nums,d,st=>by cases d<;>simp [encR,cost,NO]
 | .list its,.n _,st=>by simp [encR]
 | .list its,.b _,st=>by simp [encR]
 | .list its,.s _,st=>by simp [encR]
 | .list its,.l es,st=>by
  simp only [encR,cost]
  have key:∀(es:List (List D)) (st:pE) (c:Nat),(es.foldl (fun st ds=>fJ its ds st) st).1.length+c<=st.1.length+es.foldl (fun c ds=>c+costs its ds) c:=by
   intro es;induction es with
   | nil=>intro st c;exact Nat.le_refl _
   | cons ds es ih=>
    intro st c;rw [List.foldl_cons,List.foldl_cons];have h1:=ih (fJ its ds st) (c+costs its ds);have h2:=wS its ds st;omega
  have:=key es (st.1++pH 8 es.length,st.2 || decide (1048576<es.length)) 8;simp only [List.length_append,bK]at this ⊢;omega
theorem wS:∀(its:List It) (ds:List D) (st:pE),(fJ its ds st).1.length<=st.1.length+costs its ds
 | [],_,st=>by simp [fJ]
 | _::_,[],st=>by simp [fJ]
 | it::its,d::ds,st=>by
  simp only [fJ,costs];have h1:=mB it d st;have h2:=wS its ds (encR it d st);omega
end
end Go.Am
set_option maxRecDepth 100000
namespace Go.Am
noncomputable def UP (x:EV) (a0:Value) (Sz:St) (K:VK):Bool:=
 aK PP .quo 3 a0 (.int .i64 (.ofNat 256)) fun v0=>
 AW .u8 v0 fun v1=>
 aK PP .rem 3 a0 (.int .i64 (.ofNat 256)) fun v2=>
 AW .u8 v2 fun v3=>
 aM 5 2 [(.int .u8 (.ofNat 0))] [(0,1,v1),(1,1,v3)] Sz fun v4 Sz=>
 DP PP 92 9 v4 Sz fun v5 Sz=>
 K v5 Sz
theorem Ks (x:EV) (a0:Value) (Sz:St) (K:VK):hZ PP dD CM (x.E PP) [a0] Sz K=UP x a0 Sz K:=by kernel_rfl
noncomputable def nA (x:EV) (m:Nat) (t0 t3 t4:Value) (Sz:St) (K:VK):Bool:=gJ PP dD pR (x.E PP) [.r,.r,.l,.r,.d] m [] [t0,t3,t4] Sz K
noncomputable def MR (x:EV) (a0:Value) (Sz:St) (K:VK):Bool:=
 qI PP 92 (.int .i64 (.ofNat 8)) (.int .i64 (.ofNat 8)) Sz fun v0 Sz=>
 nA x x.most a0 v0 (.int .i64 (.ofNat 7)) Sz K
theorem Bt (x:EV) (a0:Value) (Sz:St) (K:VK):hZ PP dD pR (x.E PP) [a0] Sz K=MR x a0 Sz K:=by kernel_rfl
noncomputable def qS (x:EV) (m0:Nat) (t0 t3 t4:Value) (Sz:St) (K:VK):Bool:=
 aK PP .geq 3 t4 zI fun v0=>
 gD v0 (aK PP .rem 57 t0 (.int .u64 (.ofNat 256)) fun v1=>
 AW .u8 v1 fun v2=>
 dC 1 t3 t4 fun v3=>
 cQ 1 v3 v2 Sz fun Sz=>
 aK PP .quo 57 t0 (.int .u64 (.ofNat 256)) fun v4=>
 aK PP .sub 3 t4 (.int .i64 (.ofNat 1)) fun v5=>
 nA x m0 v4 t3 v5 Sz K) (DP PP 92 9 t3 Sz fun v6 Sz=>
 K v6 Sz)
theorem yB (x:EV) (m0:Nat) (t0 t3 t4:Value) (Sz:St) (K:VK):nA x (m0+1) t0 t3 t4 Sz K=qS x m0 t0 t3 t4 Sz K:=by kernel_rfl
noncomputable def QO (x:EV) (a0 a1:Value) (Sz:St) (K:VK):Bool:=
 aM 5 1 [(.int .u8 (.ofNat 0))] [(0,1,a1)] Sz fun v0 Sz=>
 DP PP 92 9 v0 Sz fun v1 Sz=>
 aK PP .add 9 a0 v1 fun v2=>
 K v2 Sz
theorem Gy (x:EV) (a0 a1:Value) (Sz:St) (K:VK):hZ PP dD vH (x.E PP) [a0,a1] Sz K=QO x a0 a1 Sz K:=by kernel_rfl
noncomputable def UQ (x:EV) (a0 a1:Value) (Sz:St) (K:VK):Bool:=
 x.C pR [a1] Sz fun v0 Sz=>
 aK PP .add 9 a0 v0 fun v1=>
 K v1 Sz
theorem Kt (x:EV) (a0 a1:Value) (Sz:St) (K:VK):hZ PP dD CN (x.E PP) [a0,a1] Sz K=UQ x a0 a1 Sz K:=by kernel_rfl
noncomputable def UR (x:EV) (a0 a1:Value) (Sz:St) (K:VK):Bool:=
 AW .u64 a1 fun v0=>
 x.C pR [v0] Sz fun v1 Sz=>
 aK PP .add 9 a0 v1 fun v2=>
 K v2 Sz
theorem Ku (x:EV) (a0 a1:Value) (Sz:St) (K:VK):hZ PP dD KE (x.E PP) [a0,a1] Sz K=UR x a0 a1 Sz K:=by kernel_rfl
noncomputable def QQ (x:EV) (a0 a1:Value) (Sz:St) (K:VK):Bool:=
 nI a1 fun v0=>
 aK PP .gtr 3 v0 (.int .i64 (.ofNat 2048)) fun v1=>
 gD v1 (K (.tuple ⟨[a0,(.int .i64 (.ofNat 40))]⟩) Sz) (nI a1 fun v2=>
 x.C CM [v2] Sz fun v3 Sz=>
 aK PP .add 9 a0 v3 fun v4=>
 aK PP .add 9 v4 a1 fun v5=>
 K (.tuple ⟨[v5,zI]⟩) Sz)
theorem Gz (x:EV) (a0 a1:Value) (Sz:St) (K:VK):hZ PP dD GL (x.E PP) [a0,a1] Sz K=QQ x a0 a1 Sz K:=by kernel_rfl
noncomputable def nB (x:EV) (m:Nat) (t1 t6 t7:Value) (Sz:St) (K:VK):Bool:=gJ PP dD AD (x.E PP) [.r,.r,.r,.l,.r,.d] m [] [t1,t6,t7] Sz K
noncomputable def QR (x:EV) (a0 a1:Value) (Sz:St) (K:VK):Bool:=
 bO a1 fun v0=>
 aK PP .gtr 3 v0 (.int .i64 (.ofNat 1024)) fun v1=>
 gD v1 (K (.tuple ⟨[a0,(.int .i64 (.ofNat 40))]⟩) Sz) (bO a1 fun v2=>
 x.C CM [v2] Sz fun v3 Sz=>
 aK PP .add 9 a0 v3 fun v4=>
 nB x x.most a1 v4 zI Sz K)
theorem Ha (x:EV) (a0 a1:Value) (Sz:St) (K:VK):hZ PP dD AD (x.E PP) [a0,a1] Sz K=QR x a0 a1 Sz K:=by kernel_rfl
noncomputable def qT (x:EV) (m0:Nat) (t1 t6 t7:Value) (Sz:St) (K:VK):Bool:=
 bO t1 fun v0=>
 aK PP .lss 3 t7 v0 fun v1=>
 gD v1 (dC 1 t1 t7 fun v2=>
 aN v2 Sz fun v3 Sz=>
 x.C pR [v3] Sz fun v4 Sz=>
 aK PP .add 9 t6 v4 fun v5=>
 aK PP .add 3 t7 (.int .i64 (.ofNat 1)) fun v6=>
 nB x m0 t1 v5 v6 Sz K) (K (.tuple ⟨[t6,zI]⟩) Sz)
theorem yD (x:EV) (m0:Nat) (t1 t6 t7:Value) (Sz:St) (K:VK):nB x (m0+1) t1 t6 t7 Sz K=qT x m0 t1 t6 t7 Sz K:=by kernel_rfl
noncomputable def jO (x:EV) (m:Nat) (t0 t1 t4:Value) (Sz:St) (K:VK):Bool:=gJ PP dD bR (x.E PP) [.r,.d] m [] [t0,t1,t4] Sz K
noncomputable def CO (x:EV) (a0 a1:Value) (Sz:St) (K:VK):Bool:=
 jO x x.most a0 a1 zI Sz K
theorem QT (x:EV) (a0 a1:Value) (Sz:St) (K:VK):hZ PP dD bR (x.E PP) [a0,a1] Sz K=CO x a0 a1 Sz K:=by kernel_rfl
noncomputable def pU (x:EV) (m0:Nat) (t0 t1 t4:Value) (Sz:St) (K:VK):Bool:=
 bO t1 fun v0=>
 aK PP .lss 3 t4 v0 fun v1=>
 gD v1 (bI PP t0 fun v2=>
 aC 0 v2 fun v3=>
 aN v3 Sz fun v4 Sz=>
 dC 1 t1 t4 fun v5=>
 aN v5 Sz fun v6 Sz=>
 x.C KE [v4,v6] Sz fun v7 Sz=>
 bI PP t0 fun v8=>
 aC 0 v8 fun v9=>
 cQ 1 v9 v7 Sz fun Sz=>
 aK PP .add 3 t4 (.int .i64 (.ofNat 1)) fun v10=>
 jO x m0 t0 t1 v10 Sz K) (K (.tuple ⟨[]⟩) Sz)
theorem vW (x:EV) (m0:Nat) (t0 t1 t4:Value) (Sz:St) (K:VK):jO x (m0+1) t0 t1 t4 Sz K=pU x m0 t0 t1 t4 Sz K:=by kernel_rfl
noncomputable def qA (x:EV) (m:Nat) (t0 t1 t4:Value) (Sz:St) (K:VK):Bool:=gJ PP dD fN (x.E PP) [.r,.d] m [] [t0,t1,t4] Sz K
noncomputable def mC (x:EV) (m0:Nat) (t0 t1 t4:Value) (Sz:St) (K:VK):Bool:=RZ PP dD fN (x.E PP) [.r,.d,.d,.r,.r] [m0] [t0,t1,t4] Sz K
noncomputable def KF (x:EV) (a0 a1:Value) (Sz:St) (K:VK):Bool:=
 qA x x.most a0 a1 zI Sz K
theorem ZY (x:EV) (a0 a1:Value) (Sz:St) (K:VK):hZ PP dD fN (x.E PP) [a0,a1] Sz K=KF x a0 a1 Sz K:=by kernel_rfl
noncomputable def tM (x:EV) (m0:Nat) (t0 t1 t4:Value) (Sz:St) (K:VK):Bool:=
 bO t1 fun v0=>
 aK PP .lss 3 t4 v0 fun v1=>
 gD v1 (dC 1 t1 t4 fun v2=>
 aN v2 Sz fun v3 Sz=>
 gD v3 (aM 3 1 [zI] [(0,1,(.int .i64 (.ofNat 1)))] Sz fun v4 Sz=>
 x.C bR [t0,v4] Sz fun v5 Sz=>
 mC x m0 t0 t1 t4 Sz K) (aM 3 1 [zI] [(0,1,zI)] Sz fun v6 Sz=>
 x.C bR [t0,v6] Sz fun v7 Sz=>
 mC x m0 t0 t1 t4 Sz K)) (K (.tuple ⟨[]⟩) Sz)
theorem BK (x:EV) (m0:Nat) (t0 t1 t4:Value) (Sz:St) (K:VK):qA x (m0+1) t0 t1 t4 Sz K=tM x m0 t0 t1 t4 Sz K:=by kernel_rfl
noncomputable def pV (x:EV) (m0:Nat) (t0 t1 t4:Value) (Sz:St) (K:VK):Bool:=
 aK PP .add 3 t4 (.int .i64 (.ofNat 1)) fun v0=>
 qA x m0 t0 t1 v0 Sz K
theorem GS (x:EV) (m0:Nat) (t0 t1 t4:Value) (Sz:St) (K:VK):aBD PP dD fN (x.E PP) [.r,.d,.d,.r,.r] [m0] [t0,t1,t4] Sz K=pV x m0 t0 t1 t4 Sz K:=by kernel_rfl
theorem IA (x:EV) (hm:x.most≠0) (m0:Nat) (t0 t1 t4:Value) (Sz:St) (K:VK):mC x m0 t0 t1 t4 Sz K=pV x m0 t0 t1 t4 Sz K:=(uV fN (x.E PP) [.r,.d,.d,.r,.r] [m0] [t0,t1,t4] Sz K hm).trans (GS x m0 t0 t1 t4 Sz K)
noncomputable def kO (x:EV) (m:Nat) (t0 t1 t4:Value) (Sz:St) (K:VK):Bool:=gJ PP dD eL (x.E PP) [.r,.d] m [] [t0,t1,t4] Sz K
noncomputable def ET (x:EV) (a0 a1:Value) (Sz:St) (K:VK):Bool:=
 kO x x.most a0 a1 zI Sz K
theorem SS (x:EV) (a0 a1:Value) (Sz:St) (K:VK):hZ PP dD eL (x.E PP) [a0,a1] Sz K=ET x a0 a1 Sz K:=by kernel_rfl
noncomputable def qV (x:EV) (m0:Nat) (t0 t1 t4:Value) (Sz:St) (K:VK):Bool:=
 bO t1 fun v0=>
 aK PP .lss 3 t4 v0 fun v1=>
 gD v1 (bI PP t0 fun v2=>
 aC 0 v2 fun v3=>
 aN v3 Sz fun v4 Sz=>
 dC 1 t1 t4 fun v5=>
 aN v5 Sz fun v6 Sz=>
 x.C GL [v4,v6] Sz fun v7 Sz=>
 fB 0 v7 fun v8=>
 fB 1 v7 fun v9=>
 bI PP t0 fun v10=>
 aC 0 v10 fun v11=>
 cQ 1 v11 v8 Sz fun Sz=>
 bI PP t0 fun v12=>
 aC 1 v12 fun v13=>
 aN v13 Sz fun v14 Sz=>
 shut x.most (aA false v14 (fun k=>k v9 Sz) Sz fun v15 Sz=>
 shut x.most (aA false v14 (fun k=>aK PP .neq 37 v15 zI fun v16=>
 k v16 Sz) Sz fun v17 Sz=>
 shut x.most (bY v14 (.bool true) v17 fun v18=>
 bI PP t0 fun v19=>
 aC 1 v19 fun v20=>
 cQ 1 v20 v18 Sz fun Sz=>
 aK PP .add 3 t4 (.int .i64 (.ofNat 1)) fun v21=>
 kO x m0 t0 t1 v21 Sz K)))) (K (.tuple ⟨[]⟩) Sz)
theorem yE (x:EV) (m0:Nat) (t0 t1 t4:Value) (Sz:St) (K:VK):kO x (m0+1) t0 t1 t4 Sz K=qV x m0 t0 t1 t4 Sz K:=by kernel_rfl
noncomputable def EU (x:EV) (a0 a1:Value) (Sz:St) (K:VK):Bool:=
 bI PP a0 fun v0=>
 aC 0 v0 fun v1=>
 aN v1 Sz fun v2 Sz=>
 x.C AD [v2,a1] Sz fun v3 Sz=>
 fB 0 v3 fun v4=>
 fB 1 v3 fun v5=>
 bI PP a0 fun v6=>
 aC 0 v6 fun v7=>
 cQ 1 v7 v4 Sz fun Sz=>
 bI PP a0 fun v8=>
 aC 1 v8 fun v9=>
 aN v9 Sz fun v10 Sz=>
 shut x.most (aA false v10 (fun k=>k v5 Sz) Sz fun v11 Sz=>
 shut x.most (aA false v10 (fun k=>aK PP .neq 37 v11 zI fun v12=>
 k v12 Sz) Sz fun v13 Sz=>
 shut x.most (bY v10 (.bool true) v13 fun v14=>
 bI PP a0 fun v15=>
 aC 1 v15 fun v16=>
 cQ 1 v16 v14 Sz fun Sz=>
 K (.tuple ⟨[]⟩) Sz)))
theorem ST (x:EV) (a0 a1:Value) (Sz:St) (K:VK):hZ PP dD fZ (x.E PP) [a0,a1] Sz K=EU x a0 a1 Sz K:=by kernel_rfl
noncomputable def ES (x:EV) (a0 a1:Value) (Sz:St) (K:VK):Bool:=
 bI PP a0 fun v0=>
 aC 1 v0 fun v1=>
 aN v1 Sz fun v2 Sz=>
 shut x.most (aA false v2 (fun k=>k a1 Sz) Sz fun v3 Sz=>
 shut x.most (aA false v2 (fun k=>aK PP .gtr 3 v3 (.int .i64 (.ofNat 1048576)) fun v4=>
 k v4 Sz) Sz fun v5 Sz=>
 shut x.most (bY v2 (.bool true) v5 fun v6=>
 bI PP a0 fun v7=>
 aC 1 v7 fun v8=>
 cQ 1 v8 v6 Sz fun Sz=>
 aM 3 1 [zI] [(0,1,a1)] Sz fun v9 Sz=>
 x.C bR [a0,v9] Sz fun v10 Sz=>
 K (.tuple ⟨[]⟩) Sz)))
theorem SQ (x:EV) (a0 a1:Value) (Sz:St) (K:VK):hZ PP dD dN (x.E PP) [a0,a1] Sz K=ES x a0 a1 Sz K:=by kernel_rfl
end Go.Am
namespace Go.Am
open Go.RowKit Go.MapKept Go.Proofs Go.Proofs.jB
variable{most:Nat}
theorem aFn:PP.underlying 92=some (.slice 5):=by kernel_rfl
theorem aG3:PP.underlying 5=some (.int .u8):=by kernel_rfl
theorem aAk (l:List UInt8) (k:List UInt8->Bool):XI (bytesV l) k=k l:=by
 induction l generalizing k with
 | nil=>rfl
 | cons b l ih=>
  show XI (bytesV l) (fun t=>k (UInt8.ofNat b.toNat::t))=_;rw [ih];simp
theorem NP (l:List UInt8):(bytesV l).length=l.length:=by simp [bytesV]
theorem SN{Sz:St}{j n c:Nat}{l:List UInt8}{e:TypeId}{ck:CK} (h:Sz.obj j=some (.cells (bytesV l) e ck)) (hn:n=l.length) (K:VK):DP PP 92 9 (.slice (some ⟨j,0,none⟩) n c) Sz K=K (.string ⟨⟨l⟩⟩) Sz:=by
 subst hn;unfold DP;simp only [aFn,aB5,aG3];rw [GA h (by rw [NP];omega),List.drop_zero,List.take_of_length_le (by rw [NP];omega),aAk]
theorem wrap_u8 (z:Nat):xL .u8 (.ofNat z)= .ofNat (z%256):=by
 rw [uO,IntKind.wrap_u8];show((z:Int)%256)=((z%256:Nat):Int);omega
theorem ER{z:Nat} (h:z<18446744073709551616):xL .u64 (.ofNat z)= .ofNat z:=by
 rw [uO,IntKind.wrap_u64];show((z:Int)%18446744073709551616)=(z:Int);omega
theorem Ot (t:TypeId) (a b:Nat) (hb:b≠0) (ha:a<18446744073709551616) (K:Value->Bool):aK PP .quo t (.int .u64 (.ofNat a)) (.int .u64 (.ofNat b)) K=K (.int .u64 (.ofNat (a / b))):=by
 rw [tG _ _ _ _ _ _ (by simp) (by simp)];show(match RK (.ofNat b) 0 with | true=>false | false=>tD .u64 (Int.tdiv (.ofNat a) (.ofNat b)) K)=_;rw [EC,decide_eq_false hb];simp only;show tD .u64 (.ofNat (a / b)) K=_;unfold tD;rw [iO,ER (Nat.lt_of_le_of_lt (Nat.div_le_self a b) ha)]
theorem Ve (t:TypeId) (a b:Nat) (hb:b≠0) (K:Value->Bool):aK PP .rem t (.int .i64 (.ofNat a)) (.int .i64 (.ofNat b)) K=K (.int .i64 (.ofNat (a%b))):=by
 rw [tG _ _ _ _ _ _ (by simp) (by simp)];show(match RK (.ofNat b) 0 with | true=>false | false=>vZ (Int.tmod (.ofNat a) (.ofNat b)) fun n=>K (.int .i64 n))=_;rw [EC,decide_eq_false hb];simp only;rw [iO];rfl
theorem Vf (t:TypeId) (a:Nat) (h:a<9223372036854775808) (K:Value->Bool):aK PP .sub t (.int .i64 (.ofNat a)) (.int .i64 (.ofNat 1)) K=K (.int .i64 ((a:Int)-1)):=by
 rw [tG _ _ _ _ _ _ (by simp) (by simp)];show tD .i64 ((a:Int)-1) K=_;unfold tD;rw [iO]
 congr 2
 rw [uO,IntKind.wrap_i64];omega
theorem aCN{n:Nat}{Sz:St}{z:Nat} (hz:z<65536){K:VK} (hK:∀S',aZ Sz S'->K (.string ⟨⟨pH 2 z⟩⟩) S'=true):(X most (n+1)).C CM [.int .i64 (.ofNat z)] Sz K=true:=by
 rw [aT (by rfl),Ks];unfold UP;rw [EA _ _ _ _ (by omega) (by omega),oP,wrap_u8,Ve _ _ _ (by omega),oP,wrap_u8];have hb:=gP 5 (.int .u8 (.ofNat 0)) [.int .u8 (.ofNat (z / 256%256)),.int .u8 (.ofNat (z%256%256))] (by simp [oneCell]) Sz
 have e:bytesV (pH 2 z)=[.int .u8 (.ofNat (z / 256%256)),.int .u8 (.ofNat (z%256%256))]:=by
  unfold bytesV pH pH pH;simp only [List.map_cons,List.map_nil,Nat.pow_one,Nat.pow_zero,Nat.div_one];rw [UInt8.toNat_ofNat',UInt8.toNat_ofNat',show z%256%256=z%256 by omega]
 refine Eq.trans (hb _) ?_;refine Eq.trans (SN (l:=pH 2 z) (n:=2) (c:=2) (by rw [aF,e]) (by rw [bK]) _) ?_;exact hK _ (.new Sz _)
theorem aAl (k z:Nat):pH (k+1) z=UInt8.ofNat (z / 256 ^ k)::pH k z:=rfl
theorem aCd (r:Nat) (b:UInt8) (l:List UInt8):(bytesV (List.replicate (r+1) 0++l)).set r (.int .u8 (.ofNat b.toNat))=bytesV (List.replicate r 0++b::l):=by
 unfold bytesV;rw [<-List.map_set (f:=fun b:UInt8=>Value.int .u8 (.ofNat b.toNat)) (a:=b)]
 congr 1
 rw [List.replicate_succ',List.append_assoc,List.set_append,if_neg (by simp)];simp
theorem Ou{n:Nat}{S0:St}{j z:Nat} (hj:S0.n<=j) (hz:z<18446744073709551616){K:VK} (hK:∀S',aZ S0 S'->K (.string ⟨⟨pH 8 z⟩⟩) S'=true):
 ∀(r k m:Nat) (Sz:St),k+r=8->r<m->aZ S0 Sz->j<Sz.n->Sz.obj j=some (.cells (bytesV (List.replicate r 0++pH k z)) 5 .exact)->
  nA (X most n) m (.int .u64 (.ofNat (z / 256 ^ k))) (.slice (some ⟨j,0,none⟩) 8 8) (.int .i64 ((r:Int)-1)) Sz K=true:=by
 intro r;induction r with
 | zero=>
  intro k m Sz hk hm hx hn ho;obtain⟨m,rfl⟩:=Nat.exists_eq_succ_of_ne_zero (show m≠0 by omega);rw [yB];unfold qS;obtain rfl:k=8:=by omega
  rw [Jh,show(!decide (((0:Nat):Int)-1<Int.ofNat 0))=false from by decide,cA,SN (l:=pH 8 z) (by simpa using ho) (by rw [bK])];exact hK Sz hx
 | succ r ih=>
  intro k m Sz hk hm hx hn ho;obtain⟨m,rfl⟩:=Nat.exists_eq_succ_of_ne_zero (show m≠0 by omega);have hd:z / 256 ^ k<18446744073709551616:=Nat.lt_of_le_of_lt (Nat.div_le_self _ _) hz;rw [yB];unfold qS;rw [show((r+1:Nat):Int)-1=Int.ofNat r by simp,RX,show decide (0<=r)=true from decide_eq_true (Nat.zero_le r),bS,Oc _ _ _ (by omega),oP,wrap_u8,Fd _ _ _ _ _ _ (by omega)];rw [fI ho (by rw [NP];simp;omega) rfl,Ot _ _ _ (by omega) hd,Vf _ _ (by omega)];rw [Nat.div_div_eq_div_mul,<-Nat.pow_succ];refine ih (k+1) m _ (by omega) (by omega) ⟨by rw [gG];exact hx.n,fun i hi=>by rw [aJ (by omega)];exact hx.same i hi⟩ (by rw [gG];exact hn) ?_;rw [aX];have:=aCd r (UInt8.ofNat (z / 256 ^ k)) (pH k z);rw [UInt8.toNat_ofNat']at this;rw [Nat.zero_add,Nat.mul_one,show z / 256 ^ k%256%256=z / 256 ^ k%2 ^ 8 by omega,this,aAl]
theorem aFo (Sz:St) (K:VK):qI PP 92 (.int .i64 (.ofNat 8)) (.int .i64 (.ofNat 8)) Sz K=K (.slice (some ⟨Sz.n,0,none⟩) 8 8) (Sz.new (.cells (bytesV (List.replicate 8 0)) 5 .exact)):=by
 have:qI PP 92 (.int .i64 (.ofNat 8)) (.int .i64 (.ofNat 8)) Sz K=qZ Sz (.cells (bytesV (List.replicate 8 0)) 5 .exact) fun i Sz=>K (.slice (some ⟨i,0,none⟩) 8 8) Sz:=by kernel_rfl
 rw [this,gE]
theorem Gx{n:Nat} (hM:1000<most){Sz:St}{z:Nat} (hz:z<18446744073709551616){K:VK} (hK:∀S',aZ Sz S'->K (.string ⟨⟨pH 8 z⟩⟩) S'=true):(X most (n+1)).C pR [.int .u64 (.ofNat z)] Sz K=true:=by
 rw [aT (by rfl),Bt];unfold MR;rw [aFo];have:=Ou (most:=most) (n:=n) (S0:=Sz) (j:=Sz.n) (z:=z) (K:=K) (Nat.le_refl _) hz hK 8 0 most (Sz.new (.cells (bytesV (List.replicate 8 0)) 5 .exact)) rfl (by omega) (.new Sz _) (Nat.lt_succ_self _) (by rw [aF];rfl);rw [bP];simpa using this
set_option maxRecDepth 100000
variable{most:Nat}
theorem Vg:∀ns:List Nat,(ns.flatMap (pH 8)).length=8*ns.length:=by
 intro ns;induction ns with
 | nil=>rfl
 | cons z ns ih=>rw [List.flatMap_cons,List.length_append,ih,bK,List.length_cons];omega
section
variable{n:Nat}{Sz:St}{l:List UInt8}{K:VK}
theorem aCe{z:Nat} (hz:z<256) (hl:l.length<=vO) (hK:∀S',aZ Sz S'->K (.string ⟨⟨l++pH 1 z⟩⟩) S'=true):(X most (n+1)).C vH [.string ⟨⟨l⟩⟩,.int .u8 (.ofNat z)] Sz K=true:=by
 rw [aT (by rfl),Gy];unfold QO;have hb:=gP 5 (.int .u8 (.ofNat 0)) [.int .u8 (.ofNat z)] (by simp [oneCell]) Sz
 have e:bytesV (pH 1 z)=[.int .u8 (.ofNat z)]:=by
  unfold bytesV pH pH;simp only [List.map_cons,List.map_nil,Nat.pow_zero,Nat.div_one];rw [UInt8.toNat_ofNat',show z%2 ^ 8=z by omega]
 refine Eq.trans (hb _) ?_;refine Eq.trans (SN (l:=pH 1 z) (n:=1) (c:=1) (by rw [aF,e]) (by rw [bK]) _) ?_;rw [yC _ _ _ _ (by rw [bK];unfold vO at hl;omega)];exact hK _ (.new Sz _)
theorem aAm (hM:1000<most){z:Nat} (hz:z<18446744073709551616) (hl:l.length<=vO) (hK:∀S',aZ Sz S'->K (.string ⟨⟨l++pH 8 z⟩⟩) S'=true):(X most (n+2)).C CN [.string ⟨⟨l⟩⟩,.int .u64 (.ofNat z)] Sz K=true:=by
 rw [aT (by rfl),Kt];unfold UQ;refine Gx hM hz fun S' hx=>?_;rw [yC _ _ _ _ (by rw [bK];unfold vO at hl;omega)];exact hK _ hx
theorem aDP (hM:1000<most){z:Int} (hl:l.length<=vO) (hK:∀S',aZ Sz S'->K (.string ⟨⟨l++pH 8 (u64 z)⟩⟩) S'=true):(X most (n+2)).C KE [.string ⟨⟨l⟩⟩,.int .i64 z] Sz K=true:=by
 rw [aT (by rfl),Ku];unfold UR;rw [oP,QP];refine Gx hM (aAn z) fun S' hx=>?_;rw [yC _ _ _ _ (by rw [bK];unfold vO at hl;omega)];exact hK _ hx
theorem aCf{t:List UInt8} (ht:t.length<=140737488355328) (hl:l.length<=vO) (hK:∀S',aZ Sz S'->K (.tuple ⟨[.string ⟨⟨l++(kB t).1⟩⟩,.int .i64 (.ofNat (kB t).2)]⟩) S'=true):(X most (n+2)).C GL [.string ⟨⟨l⟩⟩,.string ⟨⟨t⟩⟩] Sz K=true:=by
 rw [aT (by rfl),Gz];unfold QQ;unfold vO at hl;unfold kB at hK;rw [zV,nJ,iX];by_cases h:2048<t.length
 ·rw [if_pos (by simpa using h)]
  rw [if_pos h]at hK;have:=hK Sz (.refl Sz);simpa using this
 ·rw [if_neg (by simpa using h)]
  rw [if_neg h]at hK;rw [zV];refine aCN (z:=t.length) (by omega) fun S' hx=>?_;rw [yC _ _ _ _ (by rw [bK];omega),yC _ _ _ _ (by rw [List.length_append,bK];omega),List.append_assoc];exact hK S' hx
theorem Ov (hM:1000<most){C:Nat->Prop}{S0:St}{v:Value}{ns:List Nat} (hC:∀i,C i->i<S0.n) (hv:Rd S0 C (.list [.num]) v (.l (ns.map fun z:Nat=>[.n (z:Int)]))) (hns:ns.length<=1024) (hl:l.length<=vO+8)
 (hK:∀S',aZ S0 S'->K (.tuple ⟨[.string ⟨⟨l++ns.flatMap (pH 8)⟩⟩,.int .i64 (.ofNat 0)]⟩) S'=true):
 ∀(r i m:Nat) (Sz:St),i+r=ns.length->r<m->aZ S0 Sz->nB (X most (n+1)) m v (.string ⟨⟨l++(ns.take i).flatMap (pH 8)⟩⟩) (.int .i64 (.ofNat i)) Sz K=true:=by
 intro r;induction r with
 | zero=>
  intro i m Sz hi hm hx;obtain⟨m,rfl⟩:=Nat.exists_eq_succ_of_ne_zero (show m≠0 by omega);rw [yD];unfold qT;have hlen:bH (.l (ns.map fun z:Nat=>[D.n (z:Int)]))=ns.length:=by simp [bH]
  rw [hv.bD.2,hlen,aG,show decide (i<ns.length)=false from decide_eq_false (by omega),cA,List.take_of_length_le (by omega)];exact hK Sz hx
 | succ r ih=>
  intro i m Sz hi hm hx;obtain⟨m,rfl⟩:=Nat.exists_eq_succ_of_ne_zero (show m≠0 by omega);have hlt:i<ns.length:=by omega
  rw [yD];unfold qT;have hlen:bH (.l (ns.map fun z:Nat=>[D.n (z:Int)]))=ns.length:=by simp [bH]
  rw [hv.bD.2,hlen,aG,show decide (i<ns.length)=true from decide_eq_true hlt,bS];obtain⟨b2,o2,hst,hix⟩:=(hv.fr (hx.fr C)).at (i:=i) (by simpa using hlt) 1 rfl;obtain⟨u,hu,hld⟩:=hst.at 0 (it:= .num) rfl;obtain⟨z,rfl,e,hz⟩:=hu.num_inv
  have ez:z=ns[i]:=by
   have:ats [D.n ((ns[i]:Nat):Int)] 0= .n (z:Int):=by simpa using e
   have:D.n ((ns[i]:Nat):Int)= .n (z:Int):=this;injection this with this;omega
  subst ez;rw [Nat.add_zero]at hld;rw [hix,hld];refine Gx hM hz fun S' hx'=>?_
  have hfl:((ns.take i).flatMap (pH 8)).length=8*i:=by
   rw [Vg,List.length_take];omega
  rw [yC _ _ _ _ (by rw [List.length_append,hfl,bK];unfold vO at hl;omega),aP _ _ _ _ (by omega)];have:=ih (i+1) m S' (by omega) (by omega) (hx.trans hx');rw [List.take_succ_eq_append_getElem hlt,List.flatMap_append,<-List.append_assoc]at this;simpa using this
theorem aCg (hM:2000<most){C:Nat->Prop}{v:Value}{ns:List Nat} (hC:∀i,C i->i<Sz.n) (hv:Rd Sz C (.list [.num]) v (.l (ns.map fun z:Nat=>[.n (z:Int)]))) (hl:l.length<=vO)
 (hK:∀S',aZ Sz S'->K (.tuple ⟨[.string ⟨⟨l++(kT ns).1⟩⟩,.int .i64 (.ofNat (kT ns).2)]⟩) S'=true):(X most (n+2)).C AD [.string ⟨⟨l⟩⟩,v] Sz K=true:=by
 rw [aT (by rfl),Ha];unfold QR;unfold kT at hK;have hlen:bH (.l (ns.map fun z:Nat=>[D.n (z:Int)]))=ns.length:=by simp [bH]
 have hle:=hv.bD.1;rw [hlen]at hle;rw [hv.bD.2,hlen,nJ,iX];by_cases h:1024<ns.length
 ·rw [if_pos (by simpa using h)]
  rw [if_pos h]at hK;have:=hK Sz (.refl Sz);simpa using this
 ·rw [if_neg (by simpa using h)]
  rw [if_neg h]at hK;rw [hv.bD.2,hlen];refine aCN (z:=ns.length) (by omega) fun S' hx=>?_;rw [yC _ _ _ _ (by rw [bK];unfold vO at hl;omega)]
  have:=Ov (most:=most) (n:=n) (K:=K) (l:=l++pH 2 ns.length) (by omega) (C:=C) (S0:=S') (v:=v) (ns:=ns) (fun i hi=>Nat.lt_of_lt_of_le (hC i hi) hx.n) (hv.fr (hx.fr C)) (by omega) (by rw [List.length_append,bK];omega) (fun S2z hx2=>by
   rw [List.append_assoc];exact hK S2z (hx.trans hx2)) ns.length 0 most S' (by omega) (by omega) (.refl S')
  rw [bP];simp only [List.take_zero,List.flatMap_nil,List.append_nil]at this;exact this
end
structure sK (Sz:St) (b:Nat) (st:pE):Prop where
 lt:b<Sz.n
 obj:Sz.obj b=some (.cells [.string ⟨⟨st.1⟩⟩,.bool st.2] 77 .exact)
theorem sK.ext{Sz S':St}{b:Nat}{st:pE} (h:sK Sz b st) (hx:aZ Sz S'):sK S' b st:=⟨Nat.lt_of_lt_of_le h.lt hx.n,by rw [hx.same b h.lt];exact h.obj⟩
theorem sK.set1{Sz:St}{b:Nat}{st:pE} (h:sK Sz b st) (l:List UInt8) (k:St->Bool):∃S',sK S' b (l,st.2)/\cM (Row1 b) Sz S' (Row1 b)/\cQ 1 (pt b 0) (.string ⟨⟨l⟩⟩) Sz k=k S':=
 ⟨_,⟨by rw [gG];exact h.lt,by rw [aX];rfl⟩,⟨by rw [gG];exact Nat.le_refl _,fun i _ hb=>aJ hb,fun _ h=> .inl h⟩,fI h.obj (by simp) rfl k⟩
theorem sK.set2{Sz:St}{b:Nat}{st:pE} (h:sK Sz b st) (c:Bool) (k:St->Bool):∃S',sK S' b (st.1,c)/\cM (Row1 b) Sz S' (Row1 b)/\cQ 1 (pt b 1) (.bool c) Sz k=k S':=
 ⟨_,⟨by rw [gG];exact h.lt,by rw [aX];rfl⟩,⟨by rw [gG];exact Nat.le_refl _,fun i _ hb=>aJ hb,fun _ h=> .inl h⟩,fI h.obj (by simp) rfl k⟩
theorem sK.Ow{Sz:St}{b:Nat}{st:pE} (h:sK Sz b st) (K:VK):aN (pt b 0) Sz K=K (.string ⟨⟨st.1⟩⟩) Sz:=cB h.obj rfl K
theorem sK.ld1{Sz:St}{b:Nat}{st:pE} (h:sK Sz b st) (K:VK):aN (pt b 1) Sz K=K (.bool st.2) Sz:=cB h.obj rfl K
def qU (it:It) (es:List (List D)) (st:pE):pE:=es.foldl (fun st ds=>fJ [it] ds st) st
theorem SO (it:It) (es:List (List D)) (ds:List D) (st:pE):qU it (es++[ds]) st=fJ [it] ds (qU it es st):=by unfold qU;rw [List.foldl_append];rfl
section
variable{n b:Nat}{S0:St}{v:Value}{es:List (List D)}{st:pE}{K:VK}
theorem Rr{C:Nat->Prop}{it:It}{Sz:St} (hv:Rd Sz C (.list [it]) v (.l es)){i:Nat} (hi:i<es.length):∃u d,es[i]=[d]/\Rd Sz C it u d/\∃b2 o2,(∀K,dC 1 v (.int .i64 (.ofNat i)) K=K (pt b2 o2))/\∀K,aN (pt b2 o2) Sz K=K u Sz:=by
 obtain⟨b2,o2,hst,hix⟩:=hv.at hi 1 rfl;obtain⟨d0,hd,hc⟩:=hst.cell 0 (it:=it) rfl;obtain⟨u,hu,hld⟩:=hst.at 0 (it:=it) rfl;rw [Nat.add_zero]at hld
 have hdl:es[i].length=1:=by
  cases hv with
  | empty=>simp at hi
  | wK=>simp at hi
  | row _ _ _ _ _ _ _ hd _ _ _=>exact hd _ (List.getElem_mem hi)
 match hq:es[i],hdl with
 | [d],_=>
  rw [hq]at hu;exact⟨u,d,rfl,hu,b2,o2,hix,hld⟩
theorem Kv (hM:2000<most) (hv:Rd S0 (Row1 b) (.list [.int]) v (.l es)) (hl:st.1.length+8*es.length<=vO) (hK:∀S',sK S' b (qU .int es st)->cM (Row1 b) S0 S' (Row1 b)->K (.tuple ⟨[]⟩) S'=true):
 ∀(r i m:Nat) (Sz:St),i+r=es.length->r<m->sK Sz b (qU .int (es.take i) st)->(qU .int (es.take i) st).1.length<=st.1.length+8*i->cM (Row1 b) S0 Sz (Row1 b)->jO (X most (n+2)) m (pt b 0) v (.int .i64 (.ofNat i)) Sz K=true:=by
 intro r;induction r with
 | zero=>
  intro i m Sz hi hm ho hle hf;obtain⟨m,rfl⟩:=Nat.exists_eq_succ_of_ne_zero (show m≠0 by omega);rw [vW];unfold pU;rw [hv.bD.2,aG,show decide (i<bH (.l es))=false from decide_eq_false (show ¬i<es.length by omega),cA];rw [List.take_of_length_le (by omega)]at ho;exact hK Sz ho hf
 | succ r ih=>
  intro i m Sz hi hm ho hle hf;obtain⟨m,rfl⟩:=Nat.exists_eq_succ_of_ne_zero (show m≠0 by omega);have hlt:i<es.length:=by omega
  rw [vW];unfold pU;obtain⟨u,d,ed,hu,b2,o2,hix,hld⟩:=Rr (hv.fr hf) hlt;obtain⟨z,rfl,rfl,hz1,hz2⟩:=hu.rA;rw [hv.bD.2,aG,show decide (i<bH (.l es))=true from decide_eq_true (show i<es.length from hlt),bS,aH,aB,Nat.zero_add,ho.Ow,hix,hld];refine aDP (by omega) (by omega) fun S1z hx1=>?_;rw [aH,aB,Nat.zero_add];have ho1:=ho.ext hx1;obtain⟨S2z,ho2,hf2,h2⟩:=ho1.set1 ((qU .int (es.take i) st).1++pH 8 (u64 z)) (fun Sz=>aK PP .add 3 (.int .i64 (.ofNat i)) (.int .i64 (.ofNat 1)) fun v10=>jO (X most (n+2)) m (pt b 0) v v10 Sz K);rw [h2,aP _ _ _ _ (by have:=hv.bD.1;simp only [bH]at this;omega)]
  have e2:qU .int (es.take (i+1)) st=((qU .int (es.take i) st).1++pH 8 (u64 z),(qU .int (es.take i) st).2):=by
   rw [List.take_succ_eq_append_getElem hlt,SO,ed];rfl
  refine ih (i+1) m S2z (by omega) (by omega) (by rw [e2];exact ho2) (by rw [e2];simp only [List.length_append,bK];omega) ((hf.trans (hx1.fr _)).trans hf2)
theorem QS (hM:140737488355329<most) (ho:sK S0 b st) (hv:Rd S0 (Row1 b) (.list [.int]) v (.l es)) (hl:st.1.length+8*es.length<=vO) (hK:∀S',sK S' b (qU .int es st)->cM (Row1 b) S0 S' (Row1 b)->K (.tuple ⟨[]⟩) S'=true):
 (X most (n+3)).C bR [pt b 0,v] S0 K=true:=by
 rw [aT (by rfl),QT];unfold CO;have h1:=hv.bD.1;simp only [bH]at h1;exact Kv (by omega) hv hl hK es.length 0 _ S0 (by omega) (by rw [bP];omega) (by simpa [qU]using ho) (by simp [qU]) (.refl _ _)
end
end Go.Am
