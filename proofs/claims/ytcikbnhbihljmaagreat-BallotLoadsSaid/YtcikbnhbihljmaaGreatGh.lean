/- BallotLoads, called in any world. -/
import Derived.Test.YtcikbnhbihljmaaGreatGg
import Derived.Test.YtcikbnhbihljmaaGreatGd

set_option linter.unusedVariables false
set_option maxRecDepth 100000
namespace Go.Am
open Go.RowKit Go.MapKept Go.Proofs
def aFz:List It:=[.kind,.int,.int,.int,.int,.int,.int,.int,.int,.text,.nums]
def OC:List It:=[.kind,.int]++aFz++[.text,.list [.text]]
theorem aGN:Iw PP 8 25=some [.list OC]:=by kernel_rfl
def SP:List It:=[.int,.int,.kind,.int,.text]
def WI:List It:=[.int,.int,.int,.int,.int,.int,.int,.text,.text,.int,.int,.is,.is,.text,.list SP]
theorem aGO:Iw PP 8 24=some WI:=by kernel_rfl
section
variable{S:St}{C:Nat->Prop}
theorem Hz{it:It}{v:Value}{es:List (List D)} (h:Rd S C (.list [it]) v (.l es)){α:Type} (f:α->Dt) (g:α->Prop) (hf:∀(v:Value) (d:D),Rd S C it v d->∃a,FO S C (f a) v/\g a):∃l:List α,FO S C (.list (l.map f) l.length) v/\(∀a∈l,g a)/\l.length<=140737488355328:=by
 cases h with
 | empty=>exact⟨[],.nil,(fun a h=>by cases h),Nat.zero_le _⟩
 | OS=>exact⟨[],.emp,(fun a h=>by cases h),Nat.zero_le _⟩
 | @row _ b o n c sp vs e ck es hsp hb hC ho hw hn hl hd hN hnc hr=>
  have each:∀k:Nat,k<n->∃a:α,(∀v,vs[o+k]? =some v->FO S C (f a) v)/\g a:=by
   intro k hk;have hk1:k<es.length:=by omega
   have hlen:=hd es[k] (List.getElem_mem hk1);simp only [List.length_cons,List.length_nil]at hlen hl;have hv:vs[o+k]? =some (vs[o+k]'(by omega)):=List.getElem?_eq_getElem _;obtain⟨d,hd0⟩:∃d,(es[k])[0]? =some d:=⟨(es[k])[0]'(by omega),List.getElem?_eq_getElem (by omega)⟩;obtain⟨a,h1,h2⟩:=hf _ d (hr k es[k] 0 it (vs[o+k]'(by omega)) d (List.getElem?_eq_getElem hk1) rfl (by simp) hd0);exact⟨a,fun v e=>by rw [hv]at e;injection e with e;subst e;exact h1,h2⟩
  rcases Nat.eq_zero_or_pos n with h0 | h0
  ·subst h0
   exact⟨[],.row hsp hb hC ho (by simp;simp at hl;omega) hnc (fun j d v e=>by simp at e),(fun a h=>by cases h),Nat.zero_le _⟩
  ·obtain⟨a0,_⟩:=each 0 h0
   let F:Nat->α:=fun k=>if h:k<n then(each k h).choose else a0
   have hF:∀k,k<n->(∀v,vs[o+k]? =some v->FO S C (f (F k)) v)/\g (F k):=fun k h=>by
    show(∀v,vs[o+k]? =some v->FO S C (f (if h:k<n then(each k h).choose else a0)) v)/\g (if h:k<n then(each k h).choose else a0);rw [dif_pos h];exact(each k h).choose_spec
   refine⟨(List.range n).map F,?_,fun a ha=>?_,by simpa using hN⟩
   ·have:FO S C (.list (((List.range n).map F).map f) n) (.slice (some ⟨b,o,sp⟩) n c):=by
     refine .row hsp hb hC ho (by simp at hl ⊢;omega) hnc fun j d v e1 e2=>?_;rw [List.map_map,List.getElem?_map]at e1;cases hj:(List.range n)[j]? with
     | none=>rw [hj]at e1;cases e1
     | some q=>
      rw [hj]at e1;injection e1 with e1;have hjn:j<n:=by have:=(List.getElem?_eq_some_iff.1 hj).1;simpa using this
      rw [List.getElem?_range hjn]at hj;injection hj with hj;subst hj e1;exact(hF j hjn).1 v e2
    simpa using this
   ·obtain⟨k,hk,rfl⟩:=List.mem_map.1 ha
    exact(hF k (by simpa using hk)).2
theorem aCk{v:Value}{d:D} (h:Rd S C (.list [.text]) v d):∃l:List (List UInt8),FO S C (.list (dV l) l.length) v/\(∀u∈l,u.length<=140737488355328)/\l.length<=140737488355328:=by
 have:∃es,d= .l es:=by cases h<;>exact⟨_,rfl⟩
 obtain⟨es,rfl⟩:=this;exact Hz h Dt.str (fun u=>u.length<=140737488355328) fun v d q=>by cases q with | text h=>exact⟨_,.str,h⟩
theorem aCl{v:Value}{d:D} (h:Rd S C .nums v d):∃(l:List Dt) (n:Nat),FO S C (.list l n) v:=by
 cases h with
 | nums h=>
  obtain⟨l,h1,_⟩:=Hz h (fun z:Nat=>Dt.int .u64 (.ofNat z)) (fun _=>True) fun v d q=>by cases q with | @num z h=>exact⟨z,.int,trivial⟩
  exact⟨_,_,h1⟩
theorem oB{v:Value}{d:D} (h:Rd S C .int v d):∃z:Int,v= .int .i64 z:=by cases h;exact⟨_,rfl⟩
theorem Dn{v:Value}{d:D} (h:Rd S C .kind v d):∃z:Nat,v= .int .u8 (.ofNat z):=by cases h;exact⟨_,rfl⟩
theorem IN{v:Value}{d:D} (h:Rd S C .text v d):∃l:List UInt8,v= .string ⟨⟨l⟩⟩/\l.length<=140737488355328:=by cases h with | text h=>exact⟨_,rfl,h⟩
theorem aAh{v:Value}{d:D} (h:Rd S C (.list OC) v d):∃l:List Sp,FO S C (.list (SL l) l.length) v/\Small l:=by
 cases h with
 | empty=>exact⟨[],.nil,⟨by simp,fun s h=>by cases h⟩⟩
 | OS=>exact⟨[],.emp,⟨by simp,fun s h=>by cases h⟩⟩
 | @row _ b o n c sp vs e ck es hsp hb hC ho hw hn hl hd hN hnc hr=>
  have hits:OC.length=15:=rfl;rw [hits]at hl
  have each:∀k:Nat,k<n->∃s:Sp,(∀(j:Nat) (d:Dt) (v:Value),s.dt[j]? =some d->vs[o+(k*15+j)]? =some v->FO S C d v)/\s.g.tx.length<=140737488355328/\s.want.length<=140737488355328/\s.may.length<=140737488355328/\∀u∈s.may,u.length<=140737488355328:=by
   intro k hk;have hk1:k<es.length:=by omega
   have hlen:=hd es[k] (List.getElem_mem hk1);rw [hits]at hlen
   have cell:∀(j:Nat) (it:It),OC[j]? =some it->∃v d,vs[o+(k*15+j)]? =some v/\Rd S C it v d:=by
    intro j it hj;have hj1:j<15:=by have:=(List.getElem?_eq_some_iff.1 hj).1;rw [hits]at this;exact this
    have hv:vs[o+(k*15+j)]? =some (vs[o+(k*15+j)]'(by omega)):=List.getElem?_eq_getElem _;refine⟨_,es[k][j]'(by omega),hv,hr k es[k] j it _ _ (List.getElem?_eq_getElem hk1) hj (by rw [hits,Nat.add_assoc];exact hv) (List.getElem?_eq_getElem _)⟩
   obtain⟨v0,d0,c0,r0⟩:=cell 0 .kind rfl;obtain⟨v1,d1,c1,r1⟩:=cell 1 .int rfl;obtain⟨v2,d2,c2,r2⟩:=cell 2 .kind rfl;obtain⟨v3,d3,c3,r3⟩:=cell 3 .int rfl;obtain⟨v4,d4,c4,r4⟩:=cell 4 .int rfl;obtain⟨v5,d5,c5,r5⟩:=cell 5 .int rfl;obtain⟨v6,d6,c6,r6⟩:=cell 6 .int rfl;obtain⟨v7,d7,c7,r7⟩:=cell 7 .int rfl;obtain⟨v8,d8,c8,r8⟩:=cell 8 .int rfl;obtain⟨v9,d9,c9,r9⟩:=cell 9 .int rfl;obtain⟨v10,d10,c10,r10⟩:=cell 10 .int rfl;obtain⟨v11,d11,c11,r11⟩:=cell 11 .text rfl;obtain⟨v12,d12,c12,r12⟩:=cell 12 .nums rfl;obtain⟨v13,d13,c13,r13⟩:=cell 13 .text rfl;obtain⟨v14,d14,c14,r14⟩:=cell 14 (.list [.text]) rfl;obtain⟨z0,rfl⟩:=Dn r0;obtain⟨z1,rfl⟩:=oB r1;obtain⟨z2,rfl⟩:=Dn r2;obtain⟨z3,rfl⟩:=oB r3;obtain⟨z4,rfl⟩:=oB r4;obtain⟨z5,rfl⟩:=oB r5;obtain⟨z6,rfl⟩:=oB r6;obtain⟨z7,rfl⟩:=oB r7;obtain⟨z8,rfl⟩:=oB r8;obtain⟨z9,rfl⟩:=oB r9;obtain⟨z10,rfl⟩:=oB r10;obtain⟨z11,rfl,b11⟩:=IN r11;obtain⟨ns,nn,b12⟩:=aCl r12;obtain⟨z13,rfl,b13⟩:=IN r13;obtain⟨LS,b14,b15,b16⟩:=aCk r14;refine⟨⟨z0,z1,⟨z2,z3,z4,z5,z6,z7,z8,z9,z10,z11,ns,nn⟩,z13,LS⟩,fun j d v e1 e2=>?_,b11,b13,b16,b15⟩;have dif:∀{w:Value},vs[o+(k*15+j)]? =some w->w=v:=fun h=>by rw [h]at e2;injection e2
   match j with
   | 0=>injection e1 with e1;subst e1;rw [<-dif c0];exact .int
   | 1=>injection e1 with e1;subst e1;rw [<-dif c1];exact .int
   | 2=>injection e1 with e1;subst e1;rw [<-dif c2];exact .int
   | 3=>injection e1 with e1;subst e1;rw [<-dif c3];exact .int
   | 4=>injection e1 with e1;subst e1;rw [<-dif c4];exact .int
   | 5=>injection e1 with e1;subst e1;rw [<-dif c5];exact .int
   | 6=>injection e1 with e1;subst e1;rw [<-dif c6];exact .int
   | 7=>injection e1 with e1;subst e1;rw [<-dif c7];exact .int
   | 8=>injection e1 with e1;subst e1;rw [<-dif c8];exact .int
   | 9=>injection e1 with e1;subst e1;rw [<-dif c9];exact .int
   | 10=>injection e1 with e1;subst e1;rw [<-dif c10];exact .int
   | 11=>injection e1 with e1;subst e1;rw [<-dif c11];exact .str
   | 12=>injection e1 with e1;subst e1;rw [<-dif c12];exact b12
   | 13=>injection e1 with e1;subst e1;rw [<-dif c13];exact .str
   | 14=>injection e1 with e1;subst e1;rw [<-dif c14];exact b14
   | j+15=>simp [Sp.dt,Mi.dt]at e1
  rcases Nat.eq_zero_or_pos n with h0 | h0
  ·subst h0
   exact⟨[],.row hsp hb hC ho (by simp [SL];omega) hnc (fun j d v e=>by simp [SL]at e),⟨by simp,fun s h=>by cases h⟩⟩
  ·obtain⟨a0,_⟩:=each 0 h0
   let F:Nat->Sp:=fun k=>if h:k<n then(each k h).choose else a0
   have hF:∀k,k<n->(∀(j:Nat) (d:Dt) (v:Value),(F k).dt[j]? =some d->vs[o+(k*15+j)]? =some v->FO S C d v)/\(F k).g.tx.length<=140737488355328/\(F k).want.length<=140737488355328/\(F k).may.length<=140737488355328/\∀u∈(F k).may,u.length<=140737488355328:=fun k h=>by
    have e:F k=(each k h).choose:=dif_pos h;rw [e];exact(each k h).choose_spec
   have hlF:((List.range n).map F).length=n:=by simp
   refine⟨(List.range n).map F,?_,⟨by rw [hlF];exact hN,fun s hs=>?_⟩⟩
   ·have:FO S C (.list (SL ((List.range n).map F)) n) (.slice (some ⟨b,o,sp⟩) n c):=by
     refine .row hsp hb hC ho (by rw [De,hlF];omega) hnc fun j d v e1 e2=>?_;have hj:j<n*15:=by have:=(List.getElem?_eq_some_iff.1 e1).1;rw [De,hlF]at this;exact this
     have hjn:j / 15<n:=Nat.div_lt_of_lt_mul (by omega);have ej:j=j / 15*15+j%15:=by omega
     have hg:((List.range n).map F)[j / 15]? =some (F (j / 15)):=by rw [List.getElem?_map,List.getElem?_range hjn];rfl
     rw [ej,IJ _ _ _ _ hg (Nat.mod_lt _ (by omega))]at e1;exact(hF (j / 15) hjn).1 (j%15) d v e1 (by rw [<-ej];exact e2)
    rw [hlF];exact this
   ·obtain⟨k,hk,rfl⟩:=List.mem_map.1 hs
    exact(hF k (by simpa using hk)).2
end
section
variable{S:St}{C:Nat->Prop}
theorem aCm (l:List Vo) (i c:Nat) (g:Vo) (h:l[i]? =some g) (hc:c<5):(uQ l)[i*5+c]? =g.dt[c]? :=by
 rw [<-PV l i g h,List.getElem?_take,if_pos hc,List.getElem?_drop]
theorem aCH{v:Value}{d:D} (h:Rd S C .is v d):∃b:Bool,v= .bool b:=by cases h;exact⟨_,rfl⟩
theorem aAi{v:Value}{d:D} (h:Rd S C (.list SP) v d):∃l:List Vo,FO S C (.list (uQ l) l.length) v:=by
 cases h with
 | empty=>exact⟨[],.nil⟩
 | OS=>exact⟨[],.emp⟩
 | @row _ b o n c sp vs e ck es hsp hb hC ho hw hn hl hd hN hnc hr=>
  have hits:SP.length=5:=rfl;rw [hits]at hl
  have each:∀k:Nat,k<n->∃s:Vo,∀(j:Nat) (d:Dt) (v:Value),s.dt[j]? =some d->vs[o+(k*5+j)]? =some v->FO S C d v:=by
   intro k hk;have hk1:k<es.length:=by omega
   have hlen:=hd es[k] (List.getElem_mem hk1);rw [hits]at hlen
   have cell:∀(j:Nat) (it:It),SP[j]? =some it->∃v d,vs[o+(k*5+j)]? =some v/\Rd S C it v d:=by
    intro j it hj;have hj1:j<5:=by have:=(List.getElem?_eq_some_iff.1 hj).1;rw [hits]at this;exact this
    have hv:vs[o+(k*5+j)]? =some (vs[o+(k*5+j)]'(by omega)):=List.getElem?_eq_getElem _;refine⟨_,es[k][j]'(by omega),hv,hr k es[k] j it _ _ (List.getElem?_eq_getElem hk1) hj (by rw [hits,Nat.add_assoc];exact hv) (List.getElem?_eq_getElem _)⟩
   obtain⟨v0,d0,c0,r0⟩:=cell 0 .int rfl;obtain⟨v1,d1,c1,r1⟩:=cell 1 .int rfl;obtain⟨v2,d2,c2,r2⟩:=cell 2 .kind rfl;obtain⟨v3,d3,c3,r3⟩:=cell 3 .int rfl;obtain⟨v4,d4,c4,r4⟩:=cell 4 .text rfl;obtain⟨z0,rfl⟩:=oB r0;obtain⟨z1,rfl⟩:=oB r1;obtain⟨z2,rfl⟩:=Dn r2;obtain⟨z3,rfl⟩:=oB r3;obtain⟨z4,rfl,_⟩:=IN r4;refine⟨⟨z0,z1,z2,z3,z4⟩,fun j d v e1 e2=>?_⟩;have dif:∀{w:Value},vs[o+(k*5+j)]? =some w->w=v:=fun h=>by rw [h]at e2;injection e2
   match j with
   | 0=>injection e1 with e1;subst e1;rw [<-dif c0];exact .int
   | 1=>injection e1 with e1;subst e1;rw [<-dif c1];exact .int
   | 2=>injection e1 with e1;subst e1;rw [<-dif c2];exact .int
   | 3=>injection e1 with e1;subst e1;rw [<-dif c3];exact .int
   | 4=>injection e1 with e1;subst e1;rw [<-dif c4];exact .str
   | j+5=>simp [Vo.dt]at e1
  rcases Nat.eq_zero_or_pos n with h0 | h0
  ·subst h0
   exact⟨[],.row hsp hb hC ho (by simp [uQ];omega) hnc (fun j d v e=>by simp [uQ]at e)⟩
  ·obtain⟨a0,_⟩:=each 0 h0
   let F:Nat->Vo:=fun k=>if h:k<n then(each k h).choose else a0
   have hF:∀k,k<n->∀(j:Nat) (d:Dt) (v:Value),(F k).dt[j]? =some d->vs[o+(k*5+j)]? =some v->FO S C d v:=fun k h=>by
    have e:F k=(each k h).choose:=dif_pos h;rw [e];exact(each k h).choose_spec
   have hlF:((List.range n).map F).length=n:=by simp
   refine⟨(List.range n).map F,?_⟩
   have:FO S C (.list (uQ ((List.range n).map F)) n) (.slice (some ⟨b,o,sp⟩) n c):=by
    refine .row hsp hb hC ho (by rw [yY,hlF];omega) hnc fun j d v e1 e2=>?_;have hj:j<n*5:=by have:=(List.getElem?_eq_some_iff.1 e1).1;rw [yY,hlF]at this;exact this
    have hjn:j / 5<n:=Nat.div_lt_of_lt_mul (by omega);have ej:j=j / 5*5+j%5:=by omega
    have hg:((List.range n).map F)[j / 5]? =some (F (j / 5)):=by rw [List.getElem?_map,List.getElem?_range hjn];rfl
    rw [ej,aCm _ _ _ _ hg (Nat.mod_lt _ (by omega))]at e1;exact hF (j / 5) hjn (j%5) d v e1 (by rw [<-ej];exact e2)
   rw [hlF];exact this
theorem aAj{vs:List Value}{ds:List D} (h:RdA S C WI vs ds):∃(s:Bs) (l:List Vo) (w:Value),FO S C (.list (uQ l) l.length) w/\vs=[.int .i64 s.h,.int .i64 s.n,.int .i64 s.t,.int .i64 s.me,.int .i64 s.rd,.int .i64 s.st,.int .i64 s.age,.string ⟨⟨s.lock⟩⟩,.string ⟨⟨s.valid⟩⟩,.int .i64 s.mW,.int .i64 s.gA,.bool s.prop,.bool s.seen,.string ⟨⟨s.dec⟩⟩,w]:=by
 have hl:vs.length=15:=h.len;have hdl:ds.length=15:=h.Ah
 match vs,hl,ds,hdl,h with
 | [a0,a1,a2,a3,a4,a5,a6,a7,a8,a9,a10,a11,a12,a13,a14],_,[b0,b1,b2,b3,b4,b5,b6,b7,b8,b9,b10,b11,b12,b13,b14],_,h=>
  obtain⟨z0,rfl⟩:=oB (h.rd 0 _ _ _ rfl rfl rfl);obtain⟨z1,rfl⟩:=oB (h.rd 1 _ _ _ rfl rfl rfl);obtain⟨z2,rfl⟩:=oB (h.rd 2 _ _ _ rfl rfl rfl);obtain⟨z3,rfl⟩:=oB (h.rd 3 _ _ _ rfl rfl rfl);obtain⟨z4,rfl⟩:=oB (h.rd 4 _ _ _ rfl rfl rfl);obtain⟨z5,rfl⟩:=oB (h.rd 5 _ _ _ rfl rfl rfl);obtain⟨z6,rfl⟩:=oB (h.rd 6 _ _ _ rfl rfl rfl);obtain⟨z7,rfl,_⟩:=IN (h.rd 7 _ _ _ rfl rfl rfl);obtain⟨z8,rfl,_⟩:=IN (h.rd 8 _ _ _ rfl rfl rfl);obtain⟨z9,rfl⟩:=oB (h.rd 9 _ _ _ rfl rfl rfl);obtain⟨z10,rfl⟩:=oB (h.rd 10 _ _ _ rfl rfl rfl);obtain⟨z11,rfl⟩:=aCH (h.rd 11 _ _ _ rfl rfl rfl);obtain⟨z12,rfl⟩:=aCH (h.rd 12 _ _ _ rfl rfl rfl);obtain⟨z13,rfl,_⟩:=IN (h.rd 13 _ _ _ rfl rfl rfl);obtain⟨l,hl⟩:=aAi (h.rd 14 _ _ _ rfl rfl rfl);exact⟨⟨z0,z1,z2,z3,z4,z5,z6,z7,z8,z9,z10,z11,z12,z13⟩,l,a14,hl,rfl⟩
end
theorem aCn{w0:World}:Ty Tryz.prog w0 XM:=by
 intro f g hg;unfold XM at hg;cases h1:Nat.beq f 46 with
 | true=>
  rw [h1]at hg;obtain rfl:f=46:=by simpa using h1
  have e:g=KK:=by injection hg with hg;rw [<-hg]
  rw [e];exact Qh
 | false=>
  rw [h1]at hg;exact Vc f g hg
def c0 (ws:List Value) (n:Nat):Cx:=⟨fun _=>none,fun _ _=>none,fun k=>ws[k]?,n⟩
theorem aAk (P:Program) (S:St) (ws:List Value):VS P (fun _=>False) S (c0 ws S.n) (fun _=>none) S:=by
 refine⟨.refl S,fun b h=>h.elim,(fun i o e _=>by cases e),(fun i vs t n e=>by cases e),fun i j b l _=>?_,(fun i n w e=>by cases e),⟨0,fun i _=>⟨rfl,rfl,fun n=>rfl⟩⟩,⟨ws.length,fun k hk=>List.getElem?_eq_none hk⟩,(fun i vs t n m b e=>by cases e),(fun i vs t n b w e o e1=>by cases e1)⟩;rcases l with ⟨o,e,_⟩ | ⟨vs,t,n,m,e,_⟩<;>cases e
theorem Ss{ws:List Value}{n b:Nat}:¬dB (fun _=>False) (c0 ws n) (fun _=>none) b:=by
 rintro(h | ⟨i,⟨o,e,_⟩ | ⟨vs,t,n,m,e,_⟩⟩)
 ·exact h
 ·cases e
 ·cases e
theorem Lay.none{P:Program}{w:World} (hsz:P.globals.size<=w.heap.size):Lay P w (Rn.globals P.globals.size) (St.none P.globals.size):=by
 refine⟨Rel.none hsz,fun i o h=>?_⟩;have:(St.none P.globals.size).obj i=Option.none:=rfl;rw [this]at h;cases h
theorem Su{H:Type}{enc:TypeId×Value->H}{W:World}{v:Value}{d:DataW H}{p:List MemPlace} (hc:v.cells= #[v]) (h:DataW.Trod enc PP W 0 (fun _=>true) true 25 v d p) (hz:∀b off,MemPlace.cell b off∈p->W.frozen? ⟨b,off,none⟩=false) (hw:∀x∈d.weights PP 25,x<=reachBytes)
 {U:Rn} {S:St} (hl:Lay PP W U S):∃U' S' u l,Ext U U'/\Lay PP W U' S'/\DZ S S'/\VR U' u v/\FO S' (fun _=>False) (.list (SL l) l.length) u/\Small l:=by
 obtain⟨F,hF⟩:=h;obtain⟨U',S',vs,ds,e1,l1,x1,hvs,hr⟩:=lay (P:=PP) (w:=W) (fun _=>true) (fun _=>rfl) F 8 25 v.cells.toList d p hF hz hw [.list OC] aGN U S hl;rw [hc]at hvs;have hlen:vs.length=1:=hr.len
 match vs,hlen,hvs,hr with
 | [u],_,hvs,hr=>
  have hd:ds.length=1:=hr.Ah
  match ds,hd,hr with
  | [d1],_,hr=>
   obtain⟨l,h1,h2⟩:=aAh (hr.rd 0 _ _ _ rfl rfl rfl);exact⟨U',S',u,l,e1,l1,x1,hvs.2 0 u v rfl rfl,h1,h2⟩
theorem aFA:bQ PP 39=some 5:=by kernel_rfl
def aCo:V->Prop
 | .bool b=>b=true
 | _=>False
theorem called_loads{H:Type}{enc:TypeId×Value->H}{W:World}{cs:Array Value}{v2:Value}{d1 d2:DataW H}{p1 p2:List MemPlace} (hc2:v2.cells= #[v2]) (h1:DataW.Trod enc PP W 0 (fun _=>true) true 24 (.agg cs) d1 p1) (h2:DataW.Trod enc PP W 0 (fun _=>true) true 25 v2 d2 p2)
 (hz1:∀b off,MemPlace.cell b off∈p1->W.frozen? ⟨b,off,none⟩=false) (hz2:∀b off,MemPlace.cell b off∈p2->W.frozen? ⟨b,off,none⟩=false) (hw1:∀x∈d1.weights PP 24,x<=reachBytes) (hw2:∀x∈d2.weights PP 25,x<=reachBytes):
 Calls PP gQ #[.agg cs,v2] W (fun e w'=>e= .returned (.bool true)/\Below W.heap.size W w'):=by
 have hsz:PP.globals.size<=W.heap.size:=by rw [show PP.globals.size=0 from Fo];exact Nat.zero_le _
 obtain⟨F,hF⟩:=h1;obtain⟨U1,S1,vs,ds,_,hl1,x1,hvs,hr⟩:=lay (P:=PP) (w:=W) (fun _=>true) (fun _=>rfl) F 8 24 cs.toList d1 p1 hF hz1 hw1 WI aGO _ _ (Lay.none hsz);obtain⟨U2,S2,u2,l2,e2,hl2,x2,hu2,hr2,sm2⟩:=Su hc2 h2 hz2 hw2 hl1;obtain⟨s,l,w,hr1,rfl⟩:=aAj hr;have hr1:=hr1.mono x2.none;have aGP:=hvs.mono e2;obtain⟨M,hM1,hM2⟩:∃M:Nat,100000<M/\M<=125000:=⟨120000,by omega,by omega⟩;obtain⟨m,-⟩:∃m:Nat,m=0:=⟨0,rfl⟩
 have hv:(Bj PP bM gT M (m+12)).C gQ [.agg (aU s (.list (.root 0) (uQ l) l.length)),.list (.root 1) (SL l2) l2.length] (fun _=>none) (fun v _=>aCo v):=by
  rw [YO rfl];exact XP hM1 hM2 (Qp (m+11)) sm2 fun _=>rfl
 have fr:uN (fun _=>False) S2 S2 (dB (fun _=>False) (c0 [w,u2] S2.n) (fun _=>none)):=⟨Nat.le_refl _,fun _ _ _=>rfl,fun b hb=>(Ss hb).elim⟩
 have hst:jQ (c0 [w,u2] S2.n) S2 (dB (fun _=>False) (c0 [w,u2] S2.n) (fun _=>none)) (aU s (.list (.root 0) (uQ l) l.length)) [.int .i64 s.h,.int .i64 s.n,.int .i64 s.t,.int .i64 s.me,.int .i64 s.rd,.int .i64 s.st,.int .i64 s.age,.string ⟨⟨s.lock⟩⟩,.string ⟨⟨s.valid⟩⟩,.int .i64 s.mW,.int .i64 s.gA,.bool s.prop,.bool s.seen,.string ⟨⟨s.dec⟩⟩,w]:=
  .cons .int (.cons .int (.cons .int (.cons .int (.cons .int (.cons .int (.cons .int (.cons .str (.cons .str (.cons .int (.cons .int (.cons .bool (.cons .bool (.cons .str (.cons (.list (.root rfl) (hr1.mono fr)) .nil))))))))))))))
 have hk:=(Xh (P:=PP) (B:=fun _=>False) (Sb:=S2) (tb:=bM) (aET aFA) M (m+12)).eC gQ (aAk PP S2 [w,u2])
  (.cons (.agg hst.len hst.rd) (.cons (.list (.root rfl) (hr2.mono fr)) .nil)) (K:=fun v _=>isTrue v) (fun c' h' S' v w _ _ _ r hb=>by
   cases r with
   | bool=>exact hb
   | _=>cases hb) hv
 obtain⟨_,hcall⟩:=(Jj (P:=PP) (w0:=W) (tb:=bM) (most:=M) (aCn (w0:=W)) names mixed (m+12)).1 gQ [.agg ⟨[.int .i64 s.h,.int .i64 s.n,.int .i64 s.t,.int .i64 s.me,.int .i64 s.rd,.int .i64 s.st,.int .i64 s.age,.string ⟨⟨s.lock⟩⟩,.string ⟨⟨s.valid⟩⟩,.int .i64 s.mW,.int .i64 s.gA,.bool s.prop,.bool s.seen,.string ⟨⟨s.dec⟩⟩,w]⟩,u2] S2 (fun v _=>isTrue v) U2 W [.agg cs,v2] hk hl2.1
  (.cons (.agg (by simpa using aGP.1) (fun k v v' a b=>aGP.2 k v v' a b)) (.cons hu2 (.nil _)))
 refine Calls.mono (callsIn_wide.1 hcall) ?_
 rintro e w' ⟨v',rfl,U3,v,S3,hk2,hv,hrel,_⟩
 cases v with
 | bool b=>
  have hb:b=true:=hk2;subst hb;rw [hv.of_flat rfl];exact⟨rfl,hrel.base⟩
 | _=>cases hk2
end Go.Am
