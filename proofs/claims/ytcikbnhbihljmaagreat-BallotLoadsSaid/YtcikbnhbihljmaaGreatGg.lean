/- The reference's votes: how many sent anything; a proposal; the ballot's own looks at them. -/
import Derived.Test.YtcikbnhbihljmaaGreatGf
import Derived.Test.YtcikbnhbihljmaaGreatGe

set_option linter.unusedVariables false
set_option maxRecDepth 4000
namespace Go.Am
theorem fO{op:KV->Prop}{S:Hp}{k:KV} (h:k yM S):aB true (.bool false) op S k:=h
theorem fI{op:KV->Prop}{S:Hp}{k:KV} (h:k yM S):aB false (.bool true) op S k:=h
theorem gJ{w:Bool}{op:KV->Prop}{S:Hp}{k:KV} (h:k yM S):aB w yM op S k:=by cases w<;>exact h
theorem fP{a b:V}{k:V->Prop} (h:k b):aL (.bool false) a b k:=h
theorem fJ{a b:V}{k:V->Prop} (h:k a):aL (.bool true) a b k:=h
theorem lS{a b:Prop} (h:b):fC (.bool false) a b:=h
theorem pS{a b:Prop} (h:a):fC (.bool true) a b:=h
section
variable{M n:Nat}{x:VE}{S:Hp}{K:KV}{lv:V}{l:List Vo}
theorem Zh{tb nn:Nat}{N r:Int} (hm:x.most≠0) (ht:S tb=some (.row [.int .i64 N,lv] 74)) (hl:Lv S lv l) (hlen:l.length<=1000000) (hn:nn<=1000000) (hs:l.Pairwise fun u w=>u.lt w=true) (hf:∀v∈l,0<=v.fr/\v.fr<=nn)
 (hk:K (.int .i64 (.ofNat (mO (fun v=>decide (v.rd=r)) nn l))) S):
 ∀(q i:Nat),l.length<=i+q->i<=l.length->kG x (q+1) (.ptr tb 0) (.int .i64 r) (.int .i64 (.ofNat (mO (fun v=>decide (v.rd=r)) nn (l.take i)))) (.int .i64 (.ofNat i)) S K:=by
 have lt:∀{K:KV},aE (.ptr tb 1) S K=K lv S:=aJ ht
 have fin:∀i,l.length<=i->aS (.int .i64 (.ofNat (mO (fun v=>decide (v.rd=r)) nn (l.take i)))) S K:=fun i h=>by
  rw [List.take_of_length_le h];exact aK hk
 intro q;induction q with
 | zero=>
  intro i h1 h2;rw [rF];unfold nA;refine aN ?_;simp only [aP,aO,lt,hl.len,aI,nB (show ¬i<l.length by omega),aT,Bool.false_eq_true,if_false];exact fin i (by omega)
 | succ q ih=>
  intro i h1 h2;rw [rF];unfold nA;refine aN ?_;by_cases hi:i<l.length
  ·obtain⟨b,rfl,e⟩:=hl.get hi
   obtain⟨e0,e1,e2,e3,e4,e5⟩:=BR e hi;have mt:=Lh (r:=r) hs hi hf;have hb:=Dl (fun v=>decide (v.rd=r)) nn (l.take i);have Ze:=ih (i+1) (by omega) (by omega);rw [mt]at Ze;generalize mO (fun v=>decide (v.rd=r)) nn (l.take i)=c at Ze hb;simp only [aP,aO,lt,jW,aI,LR hi,aT,if_true,dR hi,qV,e1,bW,bD]
   have nx:∀c':Nat,c'=c+(if l[i].rd=r/\(i=0\/∀u,l[i-1]? =some u->u.rd≠r\/u.fr≠l[i].fr)then 1 else 0)->iS x (q+1) (.ptr tb 0) (.int .i64 r) (.int .i64 (.ofNat c')) (.int .i64 (.ofNat i)) S K:=fun c' hc=>by
    rw [xK x hm];unfold lC;refine aN ?_;rw [bA,fF (by omega),hc];exact Ze
   by_cases c1:l[i].rd=r
   ·simp only [decide_eq_true c1,aH]
    rw [LM];by_cases c2:i=0
    ·simp only [decide_eq_true c2,bL,aR,if_true,bA]
     rw [fF (by omega)];exact nx _ (by rw [if_pos ⟨c1,.inl c2⟩])
    ·have hi1:i-1<l.length:=by omega
     obtain⟨d0,d1,_⟩:=BR e hi1;have hu:∀u,l[i-1]? =some u->u=l[i-1]:=fun u q=>by rw [List.getElem?_eq_getElem hi1]at q;injection q with q;exact q.symm
     simp only [decide_eq_false c2,aH,aP,aO,lt,lV];rw [PW (by omega) (by omega)];simp only [dR hi1,qV,d1,cW,aR,Bool.false_eq_true,if_false];by_cases c3:l[i-1].rd=r
     ·simp only [decide_eq_true c3,Bool.not_true,aH,aP,aO,lt,lV]
      rw [PW (by omega) (by omega)];simp only [dR hi1,dR hi,qV,d0,e0,cW,lt,Bool.false_eq_true,if_false,if_true,bA];by_cases c4:l[i-1].fr=l[i].fr
      ·simp only [decide_eq_true c4,Bool.not_true]
       refine nx _ ?_;rw [if_neg]
       ·rfl
       ·rintro⟨_,q | q⟩
        ·exact c2 q
        ·rcases q _ (List.getElem?_eq_getElem hi1)with q | q
         ·exact q c3
         ·exact q c4
      ·simp only [decide_eq_false c4,Bool.not_false]
       rw [fF (by omega)];refine nx _ ?_;rw [if_pos ⟨c1,.inr fun u q=> .inr (by rw [hu u q];exact c4)⟩]
     ·simp only [decide_eq_false c3,Bool.not_false,bL,if_true,bA]
      rw [fF (by omega)];refine nx _ ?_;rw [if_pos ⟨c1,.inr fun u q=> .inl (by rw [hu u q];exact c3)⟩]
   ·rw [decide_eq_false c1]
    repeat with_reducible (first | refine fO ?_ | refine gJ ?_ | refine fP ?_ | refine lS ?_)
    exact nx _ (by rw [if_neg (fun q=>c1 q.1)];rfl)
  ·simp only [aP,aO,lt,hl.len,aI,nB hi,aT,Bool.false_eq_true,if_false]
   exact fin i (by omega)
theorem aBO{tb nn:Nat}{N r:Int} (hM:100000<M) (hx:Deep PP bM gT M (n+1) x) (ht:S tb=some (.row [.int .i64 N,lv] 74)) (hl:Lv S lv l) (hlen:l.length<=100000) (hn:nn<=1000000) (hs:l.Pairwise fun u w=>u.lt w=true) (hf:∀v∈l,0<=v.fr/\v.fr<=nn)
 (hk:K (.int .i64 (.ofNat (mO (fun v=>decide (v.rd=r)) nn l))) S):x.call gI [.ptr tb 0,.int .i64 r] S K:=by
 refine hx.call aBL fun y hy=>?_;rw [LH];unfold AO;have hm:y.most=M:=hy.most;obtain⟨p,hp⟩:=Nat.exists_eq_succ_of_ne_zero (show y.most≠0 by omega);rw [hp];have:=Zh (x:=y) (by omega) ht hl (by omega) hn hs hf hk p 0 (by omega) (by omega)
 rwa [List.take_zero,WE]at this
theorem Zi{S0:Hp}{tb j:Nat}{N r f:Int} (ht:S tb=some (.row [.int .i64 N,lv] 74)) (hl:Lv S lv l) (hj:S j=some (.row tG.vv 49)) (h0:dL S0 (upd S j (.row tG.vv 49))) (h0j:S0 j=none) (hlen:l.length<=1000000)
 (hk:K (.tuple [.agg (((l.find? fun v=>v.at r f 2).getD tG).vv),.bool (l.find? fun v=>v.at r f 2).isSome]) S0):
 ∀(q i:Nat),l.length<=i+q->i<=l.length->(l.take i).find? (fun v=>v.at r f 2)=none->fV x (q+1) (.ptr tb 0) (.int .i64 r) (.int .i64 f) (.ptr j 0) (.int .i64 (.ofNat i)) S K:=by
 have lt:∀{K:KV},aE (.ptr tb 1) S K=K lv S:=aJ ht
 have ret:∀(u:Vo) (is:Bool),K (.tuple [.agg u.vv,.bool is]) S0->(jK 5 (.ptr j 0) (.agg u.vv) S fun S=>dK 5 (.ptr j 0) S fun v52 _=>aS (.tuple [v52,.bool is]) S K):=fun u is h=>by
  refine gE hj (by rfl) (by rfl) (by rfl) ?_;refine fT upd_same (by rfl) ?_;refine cI (S':=S0) (fun z o q=>?_) h;have hz:z≠j:=fun q2=>by rw [q2,h0j]at q;cases q
  have:=h0 z o q;rw [aG hz]at this ⊢;exact this
 have fin:∀i,l.length<=i->(l.take i).find? (fun v=>v.at r f 2)=none->(gP [(.int .i64 (.ofNat 0)),(.int .i64 (.ofNat 0)),(.int .u8 (.ofNat 0)),(.int .i64 (.ofNat 0)),(.string ⟨⟨[]⟩⟩)] [] fun v54=>jK 5 (.ptr j 0) v54 S fun S=>dK 5 (.ptr j 0) S fun v55 _=>aS (.tuple [v55,(.bool false)]) S K):=fun i h h2=>by
  rw [List.take_of_length_le h]at h2;rw [h2]at hk;exact lW rfl (oO (ret tG false hk))
 intro q;induction q with
 | zero=>
  intro i h1 h2 h3;rw [pP];unfold lD;refine aN ?_;simp only [aP,aO,lt,hl.len,aI,nB (show ¬i<l.length by omega),aT,Bool.false_eq_true,if_false];exact fin i (by omega) h3
 | succ q ih=>
  intro i h1 h2 h3;rw [pP];unfold lD;refine aN ?_;by_cases hi:i<l.length
  ·obtain⟨b,rfl,e⟩:=hl.get hi
   obtain⟨e0,e1,e2,e3,e4,e5⟩:=BR e hi;simp only [aP,aO,lt,jW,aI,LR hi,aT,if_true,dR hi,qV,e1,bW,bD]
   have nx:(l[i]).at r f 2=false->aF PP .add 3 (.int .i64 (.ofNat i)) (.int .i64 (.ofNat 1)) fun v53=>fV x (q+1) (.ptr tb 0) (.int .i64 r) (.int .i64 f) (.ptr j 0) v53 S K:=fun hc=>by
    rw [bA,fF (by omega)];refine ih (i+1) (by omega) (by omega) ?_;rw [List.take_add_one,List.getElem?_eq_getElem hi,List.find?_append,h3];simp [hc]
   by_cases c1:l[i].rd=r
   ·simp only [decide_eq_true c1,aH,aP,aO,lt,dR hi,qV,e0,bW,aR,if_true]
    by_cases c2:l[i].fr=f
    ·simp only [decide_eq_true c2,aH,aP,aO,lt,dR hi,qV,e2,qU,if_true]
     by_cases c3:l[i].kd=2
     ·simp only [decide_eq_true c3,e5]
      have hf:l.find? (fun v=>v.at r f 2)=some l[i]:=by
       have e4:=congrArg (fun z=>List.find? (fun v=>v.at r f 2) z) (List.take_append_drop i l);simp only [List.find?_append,h3,List.drop_eq_getElem_cons hi,List.find?_cons,(AP _ _ _ _).2 ⟨c1,c2,c3⟩]at e4;exact e4.symm
      rw [hf]at hk;exact ret _ true hk
     ·simp only [decide_eq_false c3]
      refine nx ?_;rw [Bool.eq_false_iff];intro z;exact c3 ((AP _ _ _ _).1 z).2.2
    ·simp only [decide_eq_false c2,dF,Bool.false_eq_true,if_false]
     refine nx ?_;rw [Bool.eq_false_iff];intro z;exact c2 ((AP _ _ _ _).1 z).2.1
   ·simp only [decide_eq_false c1,dF,aR,Bool.false_eq_true,if_false]
    refine nx ?_;rw [Bool.eq_false_iff];intro z;exact c1 ((AP _ _ _ _).1 z).1
  ·simp only [aP,aO,lt,hl.len,aI,nB hi,aT,Bool.false_eq_true,if_false]
   exact fin i (by omega) h3
theorem aBP{tb:Nat}{N r f:Int} (hM:100000<M) (hx:Deep PP bM gT M (n+1) x) (ht:S tb=some (.row [.int .i64 N,lv] 74)) (hl:Lv S lv l) (hlen:l.length<=100000)
 (hk:K (.tuple [.agg (((l.find? fun v=>v.at r f 2).getD tG).vv),.bool (l.find? fun v=>v.at r f 2).isSome]) S):x.call jA [.ptr tb 0,.int .i64 r,.int .i64 f] S K:=by
 refine hx.call Hs fun y hy=>?_;rw [EZ];unfold uJ;have hm:y.most=M:=hy.most;obtain⟨p,hp⟩:=Nat.exists_eq_succ_of_ne_zero (show y.most≠0 by omega);refine cG (l:=tG.vv) rfl fun j hj=>?_;have le:dL S (upd S j (.row tG.vv 49)):= .aV hj;rw [hp];exact Zi (le _ _ ht) (hl.hle le) upd_same (by rw [cP];exact le) hj (by omega) hk p 0 (by omega) (by omega) rfl
end
set_option maxRecDepth 4000
def But (S S':Hp) (b:Nat):Prop:=∀i o,i≠b->S i=some o->S' i=some o
theorem But.refl{S:Hp}{b:Nat}:But S S b:=fun _ _ _ h=>h
theorem But.trans{S S1 S2:Hp}{b:Nat} (h:But S S1 b) (k:But S1 S2 b):But S S2 b:=fun i o a e=>k i o a (h i o a e)
theorem But.upd{S:Hp}{b:Nat}{o:Ob}:But S (upd S b o) b:=fun i o a e=>by rw [aG a];exact e
theorem dL.but{S S':Hp}{b:Nat} (h:dL S S'):But S S' b:=fun i o _ e=>h i o e
def XO (S:Hp) (b:Nat) (a:Ba) (K:Hp->Prop):Prop:=∀S',But S S' b->RB S' b a->K S'
theorem XO.mono{S S':Hp}{b:Nat}{a:Ba}{K:Hp->Prop} (h:XO S b a K) (c:But S S' b):XO S' b a K:=fun S2 c2 k=>h S2 (c.trans c2) k
theorem Ht:gT gN=none:=rfl
theorem Sf:gT cT=none:=rfl
theorem Li:gT jI=none:=rfl
theorem aBQ:gT kU=none:=rfl
theorem aBR:gT qG=none:=rfl
theorem aFk:gT aZ=none:=rfl
theorem dC{a b:V}{k:V->Prop}:aL (.bool true) a b k=k a:=rfl
theorem eA{a b:V}{k:V->Prop}:aL (.bool false) a b k=k b:=rfl
theorem cO{a b:Prop}:fC (.bool true) a b=a:=rfl
theorem bP{a b:Prop}:fC (.bool false) a b=b:=rfl
theorem LN{zero:List Value}{z new:List V}{K:V->Prop} (hz:KO zero=some z) (ho:new.all lL=true) (hl:z.length=new.length) (hk:K (.agg new)):gP zero (WC 0 new) K:=lW hz (WD ho hl hk)
section
variable{M n b:Nat}{x:VE}{S S':Hp}{K:KV}{a:Ba}{v:V}
theorem SO{s:Bs}{i:Nat}{vs:List V}{ty:TypeId} (h:S b=some (.row (aU s v) ty)) (hi:S i=some (.row vs 49)) (hl:vs.length<=5):i≠b:=fun e=>by
 rw [e,h]at hi;injection hi with hi;injection hi with hi _;rw [<-hi]at hl;simp [aU]at hl
theorem Lv.but{s:Bs}{ty:TypeId}{l:List Vo} (h:Lv S v l) (hb:S b=some (.row (aU s v) ty)) (c:But S S' b):Lv S' v l:=by
 rcases h.is with ⟨rfl,rfl⟩ | ⟨j,rfl,h2,rfl⟩ | ⟨i,rfl,h2⟩
 ·exact⟨.inl ⟨rfl,rfl⟩⟩
 ·exact⟨.inr (.inl ⟨j,rfl,c _ _ (SO hb h2 (by simp)) h2,rfl⟩)⟩
 ·exact⟨.inr (.inr ⟨i,rfl,c _ _ (fun e=>by rw [e,hb]at h2;cases h2) h2⟩)⟩
theorem RB.hle (h:RB S b a) (k:dL S S'):RB S' b a:=by
 obtain⟨v,h1,h2⟩:=h.row;exact⟨v,k _ _ h1,h2.hle k⟩
theorem fX{s:Bs}{ty:TypeId} (h:S b=some (.row (aU s v) ty)):(∀{K:KV},aE (.ptr b 0) S K=K (.int .i64 s.h) S)/\(∀{K:KV},aE (.ptr b 1) S K=K (.int .i64 s.n) S)/\(∀{K:KV},aE (.ptr b 2) S K=K (.int .i64 s.t) S)/\(∀{K:KV},aE (.ptr b 3) S K=K (.int .i64 s.me) S)/\(∀{K:KV},aE (.ptr b 4) S K=K (.int .i64 s.rd) S)/\(∀{K:KV},aE (.ptr b 5) S K=K (.int .i64 s.st) S)/\(∀{K:KV},aE (.ptr b 6) S K=K (.int .i64 s.age) S)/\(∀{K:KV},aE (.ptr b 7) S K=K (.str s.lock) S)/\(∀{K:KV},aE (.ptr b 8) S K=K (.str s.valid) S)/\(∀{K:KV},aE (.ptr b 9) S K=K (.int .i64 s.mW) S)/\(∀{K:KV},aE (.ptr b 10) S K=K (.int .i64 s.gA) S)/\(∀{K:KV},aE (.ptr b 11) S K=K (.bool s.prop) S)/\(∀{K:KV},aE (.ptr b 12) S K=K (.bool s.seen) S)/\(∀{K:KV},aE (.ptr b 13) S K=K (.str s.dec) S)/\(∀{K:KV},aE (.ptr b 14) S K=K v S):=
 ⟨aJ h,aJ h,aJ h,aJ h,aJ h,aJ h,aJ h,aJ h,aJ h,aJ h,aJ h,aJ h,aJ h,aJ h,aJ h⟩
theorem cA.Ok (i:cA a):∀v∈a.l,0<=v.fr/\v.fr<=(a.s.n.toNat:Int):=fun v hv=>by
 have:=(rB _ _).1 (i.vs v hv).1;omega
theorem cA.len (i:cA a):a.l.length<=2400:=Cz i.HI i.ok.1.2 fun v hv=>(i.vs v hv).1
theorem cA.nn (i:cA a):a.s.n.toNat<=7:=by have:=i.ok;unfold Do at this;omega
theorem Lv.flat{l:List Vo} (h:Lv S v l):lL v=true:=by
 rcases h.is with ⟨rfl,_⟩ | ⟨j,rfl,_⟩ | ⟨i,rfl,_⟩<;>rfl
theorem NZ{s:Bs}{ty:TypeId}{l:List Vo} (hx:Deep PP bM gT M (n+1) x) (hb:S b=some (.row (aU s v) ty)) (hl:Lv S v l) (hk:∀i,S i=none->K (.ptr i 0) (upd S i (.row [.int .i64 s.n,v] 74))):x.call fN [.ptr b 0] S K:=by
 refine hx.call aBK fun y hy=>?_;rw [JA];unfold yB;obtain⟨m0,m1,m2,m3,m4,m5,m6,m7,m8,m9,m10,m11,m12,m13,m14⟩:=fX hb;simp only [aP,aO,m1,m14];refine lW rfl (bC rfl (by simp) (bC hl.flat (by simp) (oO ?_)));rw [hl.same,cZ];have ho:[V.int .i64 s.n,v].all lL=true:=by simp [hl.flat];rfl
 exact⟨eQ ho fun _ _=>trivial,eQ ho fun i hi=>aK (hk i hi)⟩
theorem RA{r:Int} (hM:100000<M) (hx:Deep PP bM gT M (n+2) x) (k:RB S b a) (i:cA a) (hr:0<=r/\r<=1000000) (hk:K (.tuple [.agg ((a.pr r).getD tG).vv,.bool (a.pr r).isSome]) S):x.call gN [.ptr b 0,.int .i64 r] S K:=by
 refine hx.call Ht fun y hy=>?_;rw [EY];unfold uI;refine cG (l:=tG.vv) rfl fun j hj=>?_;have le1:dL S (upd S j (.row tG.vv 49)):= .aV hj;have rj:upd S j (.row tG.vv 49) j=some (.row tG.vv 49):=upd_same;generalize hS1:upd S j (.row tG.vv 49)=S1 at le1 rj;obtain⟨v,hb,hl⟩:=k.row;have hok:=i.ok;unfold Do at hok;refine NZ hy (le1 _ _ hb) (hl.hle le1) fun q hq=>?_;have jX:dL S1 (upd S1 q (.row [.int .i64 a.s.n,v] 74)):= .aV hq;have rq:upd S1 q (.row [.int .i64 a.s.n,v] 74) q=some (.row [.int .i64 a.s.n,v] 74):=upd_same;generalize hS2:upd S1 q (.row [.int .i64 a.s.n,v] 74)=S2 at jX rq;refine Dk hy (jX _ _ (le1 _ _ hb)) (by omega) hr (by omega) ?_;have hlen:=i.len;refine aBP hM hy rq (hl.hle (le1.trans jX)) (by omega) ?_;simp only [oZ,pA];refine gE (jX _ _ rj) rfl (by rfl) (by rfl) ?_;refine fT upd_same (by rfl) ?_;exact cI (pI (le1.trans jX) hj) hk
theorem IK{r:Int}{kd:Nat}{tx:List UInt8} (hM:100000<M) (hx:Deep PP bM gT M (n+2) x) (k:RB S b a) (i:cA a) (hk:K (.bool (a.agreed r kd tx)) S):x.call cT [.ptr b 0,.int .i64 r,.int .u8 (.ofNat kd),.str tx] S K:=by
 refine hx.call Sf fun y hy=>?_;rw [HH];unfold wX;obtain⟨v,hb,hl⟩:=k.row;have hok:=i.ok;unfold Do at hok;obtain⟨m0,m1,m2,m3,m4,m5,m6,m7,m8,m9,m10,m11,m12,m13,m14⟩:=fX hb;simp only [aP,aO,m1,m2,lV];rw [wrap_small (by omega) (by omega)];refine NZ hy hb hl fun q hq=>?_;have jX:dL S (upd S q (.row [.int .i64 a.s.n,v] 74)):= .aV hq;have rq:upd S q (.row [.int .i64 a.s.n,v] 74) q=some (.row [.int .i64 a.s.n,v] 74):=upd_same;generalize hS2:upd S q (.row [.int .i64 a.s.n,v] 74)=S2 at jX rq;obtain⟨p0,p1,p2,_⟩:=fX (jX _ _ hb);have hlen:=i.len;have hnn:=i.nn;simp only [p1,p2,cZ];refine Zf (nn:=a.s.n.toNat) hM hy rq (hl.hle jX) (by omega) (by omega) i.HI i.Ok ?_;simp only [p1,p2,cZ,dG];exact cI jX hk
structure Sv (S:Hp) (v:V) (l:List (List UInt8)):Prop where
 is:(v= .nil/\l=[])\/(∃O,v= .list O (dV l) l.length)\/∃i,v= .acc i l.length/\S i=some (.iD (l.map V.str) 9 l.length)
theorem Sv.len{l:List (List UInt8)} (h:Sv S v l){k:V->Prop}:cY v k=k (.int .i64 (.ofNat l.length)):=by
 rcases h.is with ⟨rfl,rfl⟩ | ⟨O,rfl⟩ | ⟨i,rfl,_⟩<;>rfl
theorem Sv.at{l:List (List UInt8)} (h:Sv S v l){i:Nat} (hi:i<l.length){K:KV}:(fQ 1 v (.int .i64 (.ofNat i)) fun p=>aE p S K)=K (.str l[i]) S:=by
 rcases h.is with ⟨rfl,rfl⟩ | ⟨O,rfl⟩ | ⟨j,rfl,e⟩
 ·simp at hi
 ·rw [qN hi,JP,Nat.mul_one,jF (a:= .str l[i]) (by unfold dV;rw [List.getElem?_map,List.getElem?_eq_getElem hi];rfl)];rfl
 ·rw [dR hi,Nat.mul_one]
  unfold aE;simp only [e,true_and];rw [jF (a:= .str l[i]) (by rw [List.getElem?_map,List.getElem?_eq_getElem hi];rfl)]
theorem Lj{l:List (List UInt8)}{tx:List UInt8} (h:Sv S v l) (hl:l.length<=1000000) (hk:K (.bool (l.contains tx)) S):∀(q i:Nat),l.length<=i+q->i<=l.length->(∀j,j<i->l[j]? ≠some tx)->nN x (q+1) v (.str tx) (.int .i64 (.ofNat i)) S K:=by
 have fin:∀i,l.length<=i->(∀j,j<i->l[j]? ≠some tx)->aS (.bool false) S K:=by
  intro i h1 h2
  have:l.contains tx=false:=by
   rw [Bool.eq_false_iff];intro q;rw [List.contains_iff_mem]at q;obtain⟨j,hj⟩:=List.getElem?_of_mem q;have:=(List.getElem?_eq_some_iff.1 hj).1;exact h2 j (by omega) hj
  rw [this]at hk;exact aK hk
 intro q;induction q with
 | zero=>
  intro i h1 h2 h3;rw [uX];unfold qA;refine aN ?_;rw [h.len,aI,nB (by omega)];exact fin i h1 h3
 | succ q ih=>
  intro i h1 h2 h3;rw [uX];unfold qA;refine aN ?_;rw [h.len,aI];by_cases hi:i<l.length
  ·rw [LR hi,aT,if_pos rfl,h.at hi,gL,aT]
   by_cases e:l[i]=tx
   ·rw [if_pos (by simp [e])]
    have:l.contains tx=true:=by rw [List.contains_iff_mem,<-e];exact List.getElem_mem hi
    rw [this]at hk;exact aK hk
   ·rw [if_neg (by simp [e]),bA,fF (by omega)]
    refine ih (i+1) (by omega) (by omega) fun j hj=>?_;by_cases hji:j=i
    ·subst hji;rw [List.getElem?_eq_getElem hi];intro q;injection q with q;exact e q
    ·exact h3 j (by omega)
  ·rw [nB hi,aT,if_neg (by simp)]
   exact fin i (by omega) h3
theorem ZB{l:List (List UInt8)}{tx:List UInt8} (hM:100000<M) (hx:Deep PP bM gT M (n+1) x) (h:Sv S v l) (hl:l.length<=100000) (hk:K (.bool (l.contains tx)) S):x.call jI [v,.str tx] S K:=by
 refine hx.call Li fun y hy=>?_;rw [RV];unfold FF;have hm:y.most=M:=hy.most;obtain⟨p,hp⟩:=Nat.exists_eq_succ_of_ne_zero (show y.most≠0 by omega);rw [hp];exact Lj h (by omega) hk p 0 (by omega) (by omega) fun j hj=>by omega
theorem Zj{w:Vo} (hM:100000<M) (hx:Deep PP bM gT M (n+3) x) (k:RB S b a) (i:cA a) (hk:XO S b (a.put w) fun S'=>K (.bool (a.s.takes a.l w)) S'):x.call kU [.ptr b 0,.agg w.vv] S K:=by
 refine hx.call aBQ fun y hy=>?_;rw [NP];unfold BL;refine eQ rfl fun j hj=>?_;have le1:dL S (upd S j (.row w.vv 49)):= .aV hj;have rj:upd S j (.row w.vv 49) j=some (.row w.vv 49):=upd_same;generalize upd S j (.row w.vv 49)=S1 at le1 rj;obtain⟨v,hb,hl⟩:=k.row;have hok:=i.ok;unfold Do at hok;obtain⟨m0,m1,m2,m3,m4,m5,m6,m7,m8,m9,m10,m11,m12,m13,m14⟩:=fX (le1 _ _ hb);obtain⟨w0,w1,w2,w3,w4⟩:=rO rj;have hlen:=i.len
 have stop:a.s.takes a.l w=false->aS (.bool false) S1 K:=fun e=>by
  have:=hk S1 le1.but (by unfold Ba.put;rw [e];exact k.hle le1);rw [e]at this;exact aK this
 have rest:(w.kd=2->w.rd<0\/w.rd>=100\/w.fr=a.s.RW w.rd)->(aQ PP (.ptr b 0) fun v36=>
 aD 1 v36 fun v37=>
 aE v37 S1 fun v38 S=>
 aQ PP (.ptr b 0) fun v39=>
 aD 14 v39 fun v40=>
 aE v40 S fun v41 S=>
 gP [(.int .i64 (.ofNat 0)),(.slice none 0 0)] [(0,1,v38),(1,1,v41)] fun v42=>
 aE v40 S fun v43 _=>
 aY v43 v41 (aE v37 S fun v44 _=>
 aY v44 v38 ((nW 74 v42 S fun v45 S=>
 True)/\(nW 74 v42 S fun v46 S=>
 dK 5 (.ptr j 0) S fun v47 S=>
 y.call kV [v46,v47] S fun v48 S=>
 aQ PP v46 fun v49=>
 aD 1 v49 fun v50=>
 aE v50 S fun v51 S=>
 aQ PP (.ptr b 0) fun v52=>
 aD 14 v52 fun v53=>
 jK 1 v53 v51 S fun S=>
 aS v48 S K)))):=by
  intro hc;simp only [aP,aO,m1,m14];have ho:[V.int .i64 a.s.n,v].all lL=true:=by simp [hl.flat];rfl
  refine LN (new:=[.int .i64 a.s.n,v]) rfl ho rfl ?_;rw [hl.same,cZ];refine⟨eQ ho fun _ _=>trivial,eQ ho fun q hq=>?_⟩;have jX:dL S1 (upd S1 q (.row [.int .i64 a.s.n,v] 74)):= .aV hq;have rq:upd S1 q (.row [.int .i64 a.s.n,v] 74) q=some (.row [.int .i64 a.s.n,v] 74):=upd_same;have qb:q≠b:=fun e=>by have:=le1 _ _ hb;rw [<-e,hq]at this;cases this
  generalize upd S1 q (.row [.int .i64 a.s.n,v] 74)=S2 at jX rq;refine fT (jX _ _ rj) (by rfl) ?_;have hb2:=jX _ _ (le1 _ _ hb);have hl2:=hl.hle (le1.trans jX)
  have hn1:(a.s.takes a.l w)=(w.may a.s.n&&w.free a.l):=by
   unfold Bs.takes;by_cases e:w.kd=2
   ·rw [decide_eq_true e,Bool.true_and]
    rcases hc e with e2 | e2 | e2
    ·have:w.may a.s.n=false:=by rw [Bool.eq_false_iff];intro z;have:=(rB _ _).1 z;omega
     rw [this];simp
    ·have:w.may a.s.n=false:=by rw [Bool.eq_false_iff];intro z;have:=(rB _ _).1 z;omega
     rw [this];simp
    ·rw [decide_eq_true e2]
     by_cases e3:w.rd<0
     ·have:w.may a.s.n=false:=by rw [Bool.eq_false_iff];intro z;have:=(rB _ _).1 z;omega
      rw [this];simp
     ·rw [decide_eq_false e3];rfl
   ·rw [decide_eq_false e];rfl
  refine aFi hy rq hl2 (by omega) (by omega) i.HI (fun e=>?_) (fun e S' v' f1 f2 f3=>?_)
  ·have lq:∀{K:KV},aE (.ptr q 1) S2 K=K v S2:=aJ rq
   simp only [aP,aO,lq];refine dQ hb2 hl.flat (by simp [aU]) ?_;have:splice 14 [v] (aU a.s v)=aU a.s v:=rfl;rw [this,Vu hb2];have:=hk S2 (le1.trans jX).but (by unfold Ba.put;rw [hn1,e];exact k.hle (le1.trans jX));rw [hn1,e]at this;exact aK this
  ·have lq:∀{K:KV},aE (.ptr q 1) S' K=K v' S':=aJ f2
   simp only [aP,aO,lq];have hb3:=f1 _ _ (Ne.symm qb) hb2;refine dQ hb3 f3.flat (by simp [aU]) ?_;have es:splice 14 [v'] (aU a.s v)=aU a.s v':=rfl;rw [es]
   have c:But S (upd S' b (.row (aU a.s v') 24)) b:=fun z o hz e=>by
    rw [aG hz];exact f1 _ _ (fun e2=>by rw [e2]at e;have:=le1 _ _ e;rw [hq]at this;cases this) (jX _ _ (le1 _ _ e))
   have f3':Lv (upd S' b (.row (aU a.s v') 24)) v' (uP w a.l):=by
    rcases f3.is with ⟨g1,g2⟩ | ⟨z,g1,g2,g3⟩ | ⟨z,g1,g2⟩
    ·exact⟨.inl ⟨g1,g2⟩⟩
    ·exact⟨.inr (.inl ⟨z,g1,by rw [aG (SO hb3 g2 (by simp))];exact g2,g3⟩)⟩
    ·exact⟨.inr (.inr ⟨z,g1,by rw [aG (fun e=>by rw [e,hb3]at g2;cases g2)];exact g2⟩)⟩
   have:=hk _ c (by unfold Ba.put;rw [hn1,e];exact⟨v',upd_same,f3'⟩);rw [hn1,e]at this;exact aK this
 have skip:(w.kd=2->w.rd<0\/w.rd>=100\/w.fr=a.s.RW w.rd)\/a.s.takes a.l w=false:=by
  by_cases e:w.kd=2
  ·by_cases e2:w.rd<0
   ·exact .inl fun _=> .inl e2
   ·by_cases e3:w.fr=a.s.RW w.rd
    ·exact .inl fun _=> .inr (.inr e3)
    ·refine .inr ?_
     rw [Bool.eq_false_iff];intro z;exact((CZ _ _ _).1 z).1 ⟨e,.inr e3⟩
  ·exact .inl fun e2=>absurd e2 e
 simp only [aO,w2,qU,bD];by_cases c1:w.kd=2
 ·simp only [decide_eq_true c1,aH,w1,dG,dC,↓gB]
  by_cases c2:0<=w.rd
  ·simp only [show decide (Int.ofNat 0<=w.rd)=true from decide_eq_true c2,aH,w1,aI,dC,↓gB]
   by_cases c3:w.rd<100
   ·simp only [show decide (w.rd<Int.ofNat 100)=true from decide_eq_true c3,aH,w0,w1,↓gB]
    refine Dk hy.less (le1 _ _ hb) (by omega) (by omega) (by omega) ?_;simp only [w0,w1,w2,cZ,cW,dC];by_cases c4:w.fr=a.s.RW w.rd
    ·simp only [decide_eq_true c4,Bool.not_true,bP]
     exact rest fun _=> .inr (.inr c4)
    ·simp only [decide_eq_false c4,Bool.not_false,cO]
     exact stop (by rw [Bool.eq_false_iff];intro z;exact((CZ _ _ _).1 z).1 ⟨c1,.inr c4⟩)
   ·rw [show decide (w.rd<Int.ofNat 100)=false from decide_eq_false c3]
    repeat with_reducible (first | refine fO ?_ | refine gJ ?_ | refine fP ?_)
    simp only [vJ,w1,w2,cZ]
    repeat with_reducible (first | refine fO ?_ | refine gJ ?_ | refine fP ?_ | refine lS ?_)
    exact rest fun _=> .inr (.inl (by omega))
  ·rw [show decide (Int.ofNat 0<=w.rd)=false from decide_eq_false c2]
   repeat with_reducible (first | refine fO ?_ | refine gJ ?_ | refine fP ?_)
   simp only [vJ,w1,w2,cZ]
   repeat with_reducible (first | refine fO ?_ | refine gJ ?_ | refine fP ?_ | refine lS ?_)
   exact rest fun _=> .inl (by omega)
 ·rw [decide_eq_false c1]
  repeat with_reducible (first | refine fO ?_ | refine gJ ?_ | refine fP ?_)
  simp only [vJ,w2,cZ]
  repeat with_reducible (first | refine fO ?_ | refine gJ ?_ | refine fP ?_ | refine lS ?_)
  exact rest fun e=>absurd e c1
end
set_option maxRecDepth 100000
noncomputable def iM (x:VE) (m:Nat) (t0 t1 t2 t8 t9:V) (S:Hp) (K:KV):Prop:=kH PP bM kW x [.r,.r,.l,.r,.d] m [] [t0,t1,t2,t8,t9] S K
noncomputable def dM (x:VE) (m:Nat) (t0 t1 t2 t8 t12:V) (S:Hp) (K:KV):Prop:=kH PP bM kW x [.r,.r,.r,.r,.l,.r,.d] m [] [t0,t1,t2,t8,t12] S K
noncomputable def BO (x:VE) (a0 a1 a2:V) (S:Hp) (K:KV):Prop:=
 x.call fN [a0] S fun v0 S=>
 iM x x.most a0 a1 a2 v0 (.int .i64 (.ofNat 0)) S K
theorem NT (x:VE) (a0 a1 a2:V) (S:Hp) (K:KV):nP PP bM kW x [a0,a1,a2] S K=BO x a0 a1 a2 S K:=by kernel_rfl
noncomputable def nX (x:VE) (m0:Nat) (t0 t1 t2 t8 t9:V) (S:Hp) (K:KV):Prop:=
 dX S fun S=>
 aF PP .lss 3 t9 (.int .i64 (.ofNat 100)) fun v0=>
 fC v0 (x.call gN [t0,t9] S fun v1 S=>
 lU 0 v1 fun v2=>
 lU 1 v1 fun v3=>
 fE [(.int .i64 (.ofNat 0)),(.int .i64 (.ofNat 0)),(.int .u8 (.ofNat 0)),(.int .i64 (.ofNat 0)),(.string ⟨⟨[]⟩⟩)] 49 S fun v4 S=>
 jK 5 v4 v2 S fun S=>
 aC x.most (aB true v3 (fun k=>k t0 S) S fun v5 S=>
 aC x.most (aB true v3 (fun k=>k t9 S) S fun v6 S=>
 aC x.most (aB true v3 (fun k=>aD 4 v4 fun v7=>
 k v7 S) S fun v8 S=>
 aC x.most (aB true v3 (fun k=>aE v8 S fun v9 S=>
 k v9 S) S fun v10 S=>
 aC x.most (aB true v3 (fun k=>x.call cT [v5,v6,(.int .u8 (.ofNat 4)),v10] S fun v11 S=>
 k v11 S) S fun v12 S=>
 aC x.most (aL v3 v12 (.bool false) fun v13=>
 fC v13 (aD 4 v4 fun v14=>
 aE v14 S fun v15 S=>
 aQ PP t0 fun v16=>
 aD 13 v16 fun v17=>
 jK 1 v17 v15 S fun S=>
 aS (.tuple [.nil,(.bool true)]) S K) (aF PP .add 3 t9 (.int .i64 (.ofNat 1)) fun v18=>
 iM x m0 t0 t1 t2 t8 v18 S K)))))))) (aQ PP t0 fun v19=>
 aD 3 v19 fun v20=>
 aE v20 S fun v21 S=>
 aF PP .eql 3 v21 (.int .i64 (.ofNat 0)) fun v22=>
 fC v22 (aS (.tuple [.nil,(.bool false)]) S K) (dM x x.most t0 t1 t2 t8 (.int .i64 (.ofNat 99)) S K))
theorem sC (x:VE) (m0:Nat) (t0 t1 t2 t8 t9:V) (S:Hp) (K:KV):iM x (m0+1) t0 t1 t2 t8 t9 S K=nX x m0 t0 t1 t2 t8 t9 S K:=by kernel_rfl
noncomputable def AL (x:VE) (m0:Nat) (t0 t1 t2 t8 t12:V) (S:Hp) (K:KV):Prop:=
 dX S fun S=>
 aQ PP t0 fun v0=>
 aD 4 v0 fun v1=>
 aE v1 S fun v2 S=>
 aF PP .gtr 3 t12 v2 fun v3=>
 fC v3 (aQ PP t0 fun v4=>
 aD 2 v4 fun v5=>
 aE v5 S fun v6 S=>
 x.call gI [t8,t12] S fun v7 S=>
 aE v5 S fun v8 _=>
 aY v8 v6 (aF PP .gtr 3 v7 v6 fun v9=>
 fC v9 (x.call gR [t0,t12] S fun v10 S=>
 aS (.tuple [.nil,(.bool true)]) S K) (aF PP .sub 3 t12 (.int .i64 (.ofNat 1)) fun v11=>
 dM x m0 t0 t1 t2 t8 v11 S K))) (aQ PP t0 fun v12=>
 aD 4 v12 fun v13=>
 aE v13 S fun v14 S=>
 x.call gN [t0,v14] S fun v15 S=>
 lU 0 v15 fun v16=>
 lU 1 v15 fun v17=>
 fE [(.int .i64 (.ofNat 0)),(.int .i64 (.ofNat 0)),(.int .u8 (.ofNat 0)),(.int .i64 (.ofNat 0)),(.string ⟨⟨[]⟩⟩)] 49 S fun v18 S=>
 jK 5 v18 v16 S fun S=>
 aQ PP t0 fun v19=>
 aD 5 v19 fun v20=>
 aE v20 S fun v21 S=>
 aF PP .eql 3 v21 (.int .i64 (.ofNat 1)) fun v22=>
 aC x.most (aB true v22 (fun k=>k v17 S) S fun v23 S=>
 aC x.most (aL v22 v23 (.bool false) fun v24=>
 aC x.most (aB true v24 (fun k=>aD 3 v18 fun v25=>
 k v25 S) S fun v26 S=>
 aC x.most (aB true v24 (fun k=>aE v26 S fun v27 S=>
 k v27 S) S fun v28 S=>
 aC x.most (aB true v24 (fun k=>aF PP .eql 3 v28 (.int .i64 (.negSucc 0)) fun v29=>
 k v29 S) S fun v30 S=>
 aC x.most (aL v24 v30 (.bool false) fun v31=>
 aC x.most (aB true v31 (fun k=>k t2 S) S fun v32 S=>
 aC x.most (aB true v31 (fun k=>aD 4 v18 fun v33=>
 k v33 S) S fun v34 S=>
 aC x.most (aB true v31 (fun k=>aE v34 S fun v35 S=>
 k v35 S) S fun v36 S=>
 aC x.most (aB true v31 (fun k=>x.call jI [v32,v36] S fun v37 S=>
 k v37 S) S fun v38 S=>
 aC x.most (aL v31 v38 (.bool false) fun v39=>
 fC v39 (x.call bK [t0,(.int .i64 (.ofNat 2))] S fun v40 S=>
 aQ PP t0 fun v41=>
 aD 7 v41 fun v42=>
 aE v42 S fun v43 S=>
 aF PP .eql 9 v43 (.str []) fun v44=>
 aC x.most (aB false v44 (fun k=>k t0 S) S fun v45 S=>
 aC x.most (aB false v44 (fun k=>aQ PP v45 fun v46=>
 k v46 S) S fun v47 S=>
 aC x.most (aB false v44 (fun k=>aD 7 v47 fun v48=>
 k v48 S) S fun v49 S=>
 aC x.most (aB false v44 (fun k=>aE v49 S fun v50 S=>
 k v50 S) S fun v51 S=>
 aC x.most (aB false v44 (fun k=>aD 4 v18 fun v52=>
 k v52 S) S fun v53 S=>
 aC x.most (aB false v44 (fun k=>aE v53 S fun v54 S=>
 k v54 S) S fun v55 S=>
 aC x.most (aB false v44 (fun k=>aF PP .eql 9 v51 v55 fun v56=>
 k v56 S) S fun v57 S=>
 aC x.most (aL v44 (.bool true) v57 fun v58=>
 fC v58 (aD 4 v18 fun v59=>
 aE v59 S fun v60 S=>
 x.call aZ [t0,(.int .u8 (.ofNat 3)),(.int .i64 (.ofNat 0)),v60] S fun v61 S=>
 aS (.tuple [v61,(.bool true)]) S K) (x.call aZ [t0,(.int .u8 (.ofNat 3)),(.int .i64 (.ofNat 0)),(.str [])] S fun v62 S=>
 aS (.tuple [v62,(.bool true)]) S K)))))))))) (aQ PP t0 fun v63=>
 aD 5 v63 fun v64=>
 aE v64 S fun v65 S=>
 aF PP .eql 3 v65 (.int .i64 (.ofNat 1)) fun v66=>
 aC x.most (aB true v66 (fun k=>k v17 S) S fun v67 S=>
 aC x.most (aL v66 v67 (.bool false) fun v68=>
 aC x.most (aB true v68 (fun k=>aD 3 v18 fun v69=>
 k v69 S) S fun v70 S=>
 aC x.most (aB true v68 (fun k=>aE v70 S fun v71 S=>
 k v71 S) S fun v72 S=>
 aC x.most (aB true v68 (fun k=>aF PP .geq 3 v72 (.int .i64 (.ofNat 0)) fun v73=>
 k v73 S) S fun v74 S=>
 aC x.most (aL v68 v74 (.bool false) fun v75=>
 aC x.most (aB true v75 (fun k=>aD 3 v18 fun v76=>
 k v76 S) S fun v77 S=>
 aC x.most (aB true v75 (fun k=>aE v77 S fun v78 S=>
 k v78 S) S fun v79 S=>
 aC x.most (aB true v75 (fun k=>k t0 S) S fun v80 S=>
 aC x.most (aB true v75 (fun k=>aQ PP v80 fun v81=>
 k v81 S) S fun v82 S=>
 aC x.most (aB true v75 (fun k=>aD 4 v82 fun v83=>
 k v83 S) S fun v84 S=>
 aC x.most (aB true v75 (fun k=>aE v84 S fun v85 S=>
 k v85 S) S fun v86 S=>
 aC x.most (aB true v75 (fun k=>aF PP .lss 3 v79 v86 fun v87=>
 k v87 S) S fun Ce S=>
 aC x.most (aL v75 Ce (.bool false) fun v89=>
 aC x.most (aB true v89 (fun k=>k t0 S) S fun Km S=>
 aC x.most (aB true v89 (fun k=>aD 3 v18 fun v91=>
 k v91 S) S fun Ri S=>
 aC x.most (aB true v89 (fun k=>aE Ri S fun v93 S=>
 k v93 S) S fun RT S=>
 aC x.most (aB true v89 (fun k=>aD 4 v18 fun Ha=>
 k Ha S) S fun Hb S=>
 aC x.most (aB true v89 (fun k=>aE Hb S fun xG S=>
 k xG S) S fun Ko S=>
 aC x.most (aB true v89 (fun k=>x.call cT [Km,RT,(.int .u8 (.ofNat 3)),Ko] S fun Nq S=>
 k Nq S) S fun PQ S=>
 aC x.most (bN true v75 v86 (fun k=>aE v84 S fun UW _=>
 aY UW v86 k) (aC x.most (bN true v75 v79 (fun k=>aE v77 S fun UX _=>
 aY UX v79 k) (aC x.most (bN true v68 v72 (fun k=>aE v70 S fun UY _=>
 aY UY v72 k) (aE v64 S fun UZ _=>
 aY UZ v65 (aC x.most (aL v89 PQ (.bool false) fun v105=>
 fC v105 (x.call bK [t0,(.int .i64 (.ofNat 2))] S fun Cf S=>
 aQ PP t0 fun v107=>
 aD 9 v107 fun VB=>
 aE VB S fun v109 S=>
 aD 3 v18 fun PR=>
 aE PR S fun VC S=>
 aF PP .leq 3 v109 VC fun tZ=>
 aC x.most (aB false tZ (fun k=>k t0 S) S fun VD S=>
 aC x.most (aB false tZ (fun k=>aQ PP VD fun VF=>
 k VF S) S fun VG S=>
 aC x.most (aB false tZ (fun k=>aD 7 VG fun IV=>
 k IV S) S fun v117 S=>
 aC x.most (aB false tZ (fun k=>aE v117 S fun VH S=>
 k VH S) S fun LA S=>
 aC x.most (aB false tZ (fun k=>aD 4 v18 fun VI=>
 k VI S) S fun Cg S=>
 aC x.most (aB false tZ (fun k=>aE Cg S fun Ci S=>
 k Ci S) S fun Cj S=>
 aC x.most (aB false tZ (fun k=>aF PP .eql 9 LA Cj fun v124=>
 k v124 S) S fun Ck S=>
 aC x.most (aL tZ (.bool true) Ck fun Cl=>
 fC Cl (aD 4 v18 fun v127=>
 aE v127 S fun Cm S=>
 x.call aZ [t0,(.int .u8 (.ofNat 3)),(.int .i64 (.ofNat 0)),Cm] S fun ES S=>
 aS (.tuple [ES,(.bool true)]) S K) (x.call aZ [t0,(.int .u8 (.ofNat 3)),(.int .i64 (.ofNat 0)),(.str [])] S fun v130 S=>
 aS (.tuple [v130,(.bool true)]) S K)))))))))) (aQ PP t0 fun v131=>
 aD 5 v131 fun VJ=>
 aE VJ S fun VL S=>
 aF PP .geq 3 VL (.int .i64 (.ofNat 2)) fun VM=>
 aC x.most (aB true VM (fun k=>k v17 S) S fun Cn S=>
 aC x.most (aL VM Cn (.bool false) fun BW=>
 aC x.most (aB true BW (fun k=>k t0 S) S fun Co S=>
 aC x.most (aB true BW (fun k=>aQ PP Co fun v138=>
 k v138 S) S fun v139 S=>
 aC x.most (aB true BW (fun k=>aD 12 v139 fun Cp=>
 k Cp S) S fun v141 S=>
 aC x.most (aB true BW (fun k=>aE v141 S fun Cq S=>
 k Cq S) S fun v143 S=>
 aC x.most (aB true BW (fun k=>GU .not v143 fun Kp=>
 k Kp S) S fun v145 S=>
 aC x.most (aL BW v145 (.bool false) fun v146=>
 aC x.most (aB true v146 (fun k=>k t0 S) S fun Xn S=>
 aC x.most (aB true v146 (fun k=>k t0 S) S fun v148 S=>
 aC x.most (aB true v146 (fun k=>aQ PP v148 fun XI=>
 k XI S) S fun Xo S=>
 aC x.most (aB true v146 (fun k=>aD 4 Xo fun Xp=>
 k Xp S) S fun v152 S=>
 aC x.most (aB true v146 (fun k=>aE v152 S fun Xq S=>
 k Xq S) S fun v154 S=>
 aC x.most (aB true v146 (fun k=>aD 4 v18 fun Xr=>
 k Xr S) S fun Xs S=>
 aC x.most (aB true v146 (fun k=>aE Xs S fun v157 S=>
 k v157 S) S fun Xt S=>
 aC x.most (aB true v146 (fun k=>x.call cT [Xn,v154,(.int .u8 (.ofNat 3)),Xt] S fun v159 S=>
 k v159 S) S fun v160 S=>
 aC x.most (bN true BW v143 (fun k=>aE v141 S fun aDs _=>
 aY aDs v143 k) (aE VJ S fun v162 _=>
 aY v162 VL (aC x.most (aL v146 v160 (.bool false) fun aDt=>
 fC aDt (aQ PP t0 fun v164=>
 aD 12 v164 fun aDu=>
 jK 1 aDu (.bool true) S fun S=>
 aD 4 v18 fun aDv=>
 aE aDv S fun v167 S=>
 aQ PP t0 fun v168=>
 aD 8 v168 fun aDw=>
 jK 1 aDw v167 S fun S=>
 aQ PP t0 fun aDx=>
 aD 4 aDx fun v171=>
 aE v171 S fun aDy S=>
 aQ PP t0 fun v173=>
 aD 10 v173 fun aDz=>
 jK 1 aDz aDy S fun S=>
 aQ PP t0 fun v175=>
 aD 5 v175 fun aDA=>
 aE aDA S fun aDB S=>
 aF PP .eql 3 aDB (.int .i64 (.ofNat 3)) fun aDC=>
 fC aDC (aS (.tuple [.nil,(.bool true)]) S K) (aD 4 v18 fun aDD=>
 aE aDD S fun aDE S=>
 aQ PP t0 fun aDF=>
 aD 7 aDF fun v182=>
 jK 1 v182 aDE S fun S=>
 aQ PP t0 fun v183=>
 aD 4 v183 fun aDG=>
 aE aDG S fun aDH S=>
 aQ PP t0 fun aDI=>
 aD 9 aDI fun aDJ=>
 jK 1 aDJ aDH S fun S=>
 x.call bK [t0,(.int .i64 (.ofNat 3))] S fun aHq S=>
 aD 4 v18 fun aDK=>
 aE aDK S fun aDL S=>
 x.call aZ [t0,(.int .u8 (.ofNat 4)),(.int .i64 (.ofNat 0)),aDL] S fun aDM S=>
 aS (.tuple [aDM,(.bool true)]) S K)) (aQ PP t0 fun aDN=>
 aD 5 aDN fun v193=>
 aE v193 S fun v194 S=>
 aF PP .eql 3 v194 (.int .i64 (.ofNat 2)) fun LF=>
 aC x.most (aB true LF (fun k=>k t0 S) S fun v196 S=>
 aC x.most (aB true LF (fun k=>k t0 S) S fun aDO S=>
 aC x.most (aB true LF (fun k=>aQ PP aDO fun v198=>
 k v198 S) S fun aDP S=>
 aC x.most (aB true LF (fun k=>aD 4 aDP fun aDQ=>
 k aDQ S) S fun v201 S=>
 aC x.most (aB true LF (fun k=>aE v201 S fun aDR S=>
 k aDR S) S fun v203 S=>
 aC x.most (aB true LF (fun k=>x.call cT [v196,v203,(.int .u8 (.ofNat 3)),(.str [])] S fun aDS S=>
 k aDS S) S fun aDT S=>
 aC x.most (aL LF aDT (.bool false) fun v206=>
 fC v206 (x.call bK [t0,(.int .i64 (.ofNat 3))] S fun aHr S=>
 x.call aZ [t0,(.int .u8 (.ofNat 4)),(.int .i64 (.ofNat 0)),(.str [])] S fun v208 S=>
 aS (.tuple [v208,(.bool true)]) S K) (aQ PP t0 fun aDU=>
 aD 5 aDU fun v210=>
 aE v210 S fun Xu S=>
 aF PP .eql 3 Xu (.int .i64 (.ofNat 1)) fun v212=>
 aC x.most (aB true v212 (fun k=>k t0 S) S fun aDV S=>
 aC x.most (aB true v212 (fun k=>aQ PP aDV fun aDW=>
 k aDW S) S fun aDX S=>
 aC x.most (aB true v212 (fun k=>aD 3 aDX fun aDY=>
 k aDY S) S fun Xv S=>
 aC x.most (aB true v212 (fun k=>aE Xv S fun v218 S=>
 k v218 S) S fun Kq S=>
 aC x.most (aB true v212 (fun k=>k t0 S) S fun aDZ S=>
 aC x.most (aB true v212 (fun k=>k t0 S) S fun aD0 S=>
 aC x.most (aB true v212 (fun k=>aQ PP aD0 fun v222=>
 k v222 S) S fun aD1 S=>
 aC x.most (aB true v212 (fun k=>aD 4 aD1 fun aD2=>
 k aD2 S) S fun aD3 S=>
 aC x.most (aB true v212 (fun k=>aE aD3 S fun v226 S=>
 k v226 S) S fun v227 S=>
 aC x.most (aB true v212 (fun k=>x.call eT [aDZ,v227] S fun v228 S=>
 k v228 S) S fun v229 S=>
 aC x.most (bN true v212 Kq (fun k=>aE Xv S fun aD4 _=>
 aY aD4 Kq k) (aE v210 S fun aD5 _=>
 aY aD5 Xu (aC x.most (aB true v212 (fun k=>aF PP .eql 3 Kq v229 fun v232=>
 k v232 S) S fun v233 S=>
 aC x.most (aL v212 v233 (.bool false) fun v234=>
 aC x.most (aB true v234 (fun k=>k t0 S) S fun aD6 S=>
 aC x.most (aB true v234 (fun k=>aQ PP aD6 fun v236=>
 k v236 S) S fun aD7 S=>
 aC x.most (aB true v234 (fun k=>aD 11 aD7 fun aD8=>
 k aD8 S) S fun aD9 S=>
 aC x.most (aB true v234 (fun k=>aE aD9 S fun aEa S=>
 k aEa S) S fun aEb S=>
 aC x.most (aB true v234 (fun k=>GU .not aEb fun aEc=>
 k aEc S) S fun aEd S=>
 aC x.most (aL v234 aEd (.bool false) fun HG=>
 aC x.most (aB true HG (fun k=>k t0 S) S fun aEe S=>
 aC x.most (aB true HG (fun k=>aQ PP aEe fun aEf=>
 k aEf S) S fun aEg S=>
 aC x.most (aB true HG (fun k=>aD 8 aEg fun aEh=>
 k aEh S) S fun aEi S=>
 aC x.most (aB true HG (fun k=>aE aEi S fun aEj S=>
 k aEj S) S fun aEk S=>
 aC x.most (aB true HG (fun k=>aF PP .neq 9 aEk (.str []) fun aEl=>
 k aEl S) S fun aEm S=>
 aC x.most (aB true HG (fun k=>k aEm S) S fun Kr S=>
 aC x.most (aB false Kr (fun k=>k t1 S) S fun aEn S=>
 aC x.most (aB false Kr (fun k=>aF PP .neq 9 aEn (.str []) fun aEo=>
 k aEo S) S fun aEp S=>
 aC x.most (aB true HG (fun k=>aC x.most (aL Kr (.bool true) aEp fun aEq=>
 k aEq S)) S fun aEr S=>
 aC x.most (aL HG aEr (.bool false) fun aEs=>
 fC aEs (aQ PP t0 fun aEt=>
 aD 11 aEt fun aEu=>
 jK 1 aEu (.bool true) S fun S=>
 aQ PP t0 fun aEv=>
 aD 8 aEv fun aEw=>
 aE aEw S fun aEx S=>
 aF PP .neq 9 aEx (.str []) fun aEy=>
 fC aEy (aQ PP t0 fun aEz=>
 aD 10 aEz fun aEA=>
 aE aEA S fun aEB S=>
 aQ PP t0 fun aEC=>
 aD 8 aEC fun aED=>
 aE aED S fun aEE S=>
 x.call aZ [t0,(.int .u8 (.ofNat 2)),aEB,aEE] S fun aEF S=>
 aS (.tuple [aEF,(.bool true)]) S K) (x.call aZ [t0,(.int .u8 (.ofNat 2)),(.int .i64 (.negSucc 0)),t1] S fun aEG S=>
 aS (.tuple [aEG,(.bool true)]) S K)) (aS (.tuple [.nil,(.bool false)]) S K)))))))))))))))))))))))))))))))))))))))))))))))))))))))))))))))))))))))))))))))))))))))))))))))))))))))
theorem AM (x:VE) (m0:Nat) (t0 t1 t2 t8 t12:V) (S:Hp) (K:KV):dM x (m0+1) t0 t1 t2 t8 t12 S K=AL x m0 t0 t1 t2 t8 t12 S K:=by kernel_rfl
noncomputable def aBz (x:VE) (t0 t1 t2:V) (S:Hp) (K:KV):Prop:=
 aQ PP t0 fun aDU=>
 aD 5 aDU fun v210=>
 aE v210 S fun Xu S=>
 aF PP .eql 3 Xu (.int .i64 (.ofNat 1)) fun v212=>
 aC x.most (aB true v212 (fun k=>k t0 S) S fun aDV S=>
 aC x.most (aB true v212 (fun k=>aQ PP aDV fun aDW=>
 k aDW S) S fun aDX S=>
 aC x.most (aB true v212 (fun k=>aD 3 aDX fun aDY=>
 k aDY S) S fun Xv S=>
 aC x.most (aB true v212 (fun k=>aE Xv S fun v218 S=>
 k v218 S) S fun Kq S=>
 aC x.most (aB true v212 (fun k=>k t0 S) S fun aDZ S=>
 aC x.most (aB true v212 (fun k=>k t0 S) S fun aD0 S=>
 aC x.most (aB true v212 (fun k=>aQ PP aD0 fun v222=>
 k v222 S) S fun aD1 S=>
 aC x.most (aB true v212 (fun k=>aD 4 aD1 fun aD2=>
 k aD2 S) S fun aD3 S=>
 aC x.most (aB true v212 (fun k=>aE aD3 S fun v226 S=>
 k v226 S) S fun v227 S=>
 aC x.most (aB true v212 (fun k=>x.call eT [aDZ,v227] S fun v228 S=>
 k v228 S) S fun v229 S=>
 aC x.most (bN true v212 Kq (fun k=>aE Xv S fun aD4 _=>
 aY aD4 Kq k) (aE v210 S fun aD5 _=>
 aY aD5 Xu (aC x.most (aB true v212 (fun k=>aF PP .eql 3 Kq v229 fun v232=>
 k v232 S) S fun v233 S=>
 aC x.most (aL v212 v233 (.bool false) fun v234=>
 aC x.most (aB true v234 (fun k=>k t0 S) S fun aD6 S=>
 aC x.most (aB true v234 (fun k=>aQ PP aD6 fun v236=>
 k v236 S) S fun aD7 S=>
 aC x.most (aB true v234 (fun k=>aD 11 aD7 fun aD8=>
 k aD8 S) S fun aD9 S=>
 aC x.most (aB true v234 (fun k=>aE aD9 S fun aEa S=>
 k aEa S) S fun aEb S=>
 aC x.most (aB true v234 (fun k=>GU .not aEb fun aEc=>
 k aEc S) S fun aEd S=>
 aC x.most (aL v234 aEd (.bool false) fun HG=>
 aC x.most (aB true HG (fun k=>k t0 S) S fun aEe S=>
 aC x.most (aB true HG (fun k=>aQ PP aEe fun aEf=>
 k aEf S) S fun aEg S=>
 aC x.most (aB true HG (fun k=>aD 8 aEg fun aEh=>
 k aEh S) S fun aEi S=>
 aC x.most (aB true HG (fun k=>aE aEi S fun aEj S=>
 k aEj S) S fun aEk S=>
 aC x.most (aB true HG (fun k=>aF PP .neq 9 aEk (.str []) fun aEl=>
 k aEl S) S fun aEm S=>
 aC x.most (aB true HG (fun k=>k aEm S) S fun Kr S=>
 aC x.most (aB false Kr (fun k=>k t1 S) S fun aEn S=>
 aC x.most (aB false Kr (fun k=>aF PP .neq 9 aEn (.str []) fun aEo=>
 k aEo S) S fun aEp S=>
 aC x.most (aB true HG (fun k=>aC x.most (aL Kr (.bool true) aEp fun aEq=>
 k aEq S)) S fun aEr S=>
 aC x.most (aL HG aEr (.bool false) fun aEs=>
 fC aEs (aQ PP t0 fun aEt=>
 aD 11 aEt fun aEu=>
 jK 1 aEu (.bool true) S fun S=>
 aQ PP t0 fun aEv=>
 aD 8 aEv fun aEw=>
 aE aEw S fun aEx S=>
 aF PP .neq 9 aEx (.str []) fun aEy=>
 fC aEy (aQ PP t0 fun aEz=>
 aD 10 aEz fun aEA=>
 aE aEA S fun aEB S=>
 aQ PP t0 fun aEC=>
 aD 8 aEC fun aED=>
 aE aED S fun aEE S=>
 x.call aZ [t0,(.int .u8 (.ofNat 2)),aEB,aEE] S fun aEF S=>
 aS (.tuple [aEF,(.bool true)]) S K) (x.call aZ [t0,(.int .u8 (.ofNat 2)),(.int .i64 (.negSucc 0)),t1] S fun aEG S=>
 aS (.tuple [aEG,(.bool true)]) S K)) (aS (.tuple [.nil,(.bool false)]) S K))))))))))))))))))))))))))))))))
noncomputable def aBA (x:VE) (t0 t1 t2:V) (S:Hp) (K:KV):Prop:=
 aQ PP t0 fun aDN=>
 aD 5 aDN fun v193=>
 aE v193 S fun v194 S=>
 aF PP .eql 3 v194 (.int .i64 (.ofNat 2)) fun LF=>
 aC x.most (aB true LF (fun k=>k t0 S) S fun v196 S=>
 aC x.most (aB true LF (fun k=>k t0 S) S fun aDO S=>
 aC x.most (aB true LF (fun k=>aQ PP aDO fun v198=>
 k v198 S) S fun aDP S=>
 aC x.most (aB true LF (fun k=>aD 4 aDP fun aDQ=>
 k aDQ S) S fun v201 S=>
 aC x.most (aB true LF (fun k=>aE v201 S fun aDR S=>
 k aDR S) S fun v203 S=>
 aC x.most (aB true LF (fun k=>x.call cT [v196,v203,(.int .u8 (.ofNat 3)),(.str [])] S fun aDS S=>
 k aDS S) S fun aDT S=>
 aC x.most (aL LF aDT (.bool false) fun v206=>
 fC v206 (x.call bK [t0,(.int .i64 (.ofNat 3))] S fun aHr S=>
 x.call aZ [t0,(.int .u8 (.ofNat 4)),(.int .i64 (.ofNat 0)),(.str [])] S fun v208 S=>
 aS (.tuple [v208,(.bool true)]) S K) (aBz x t0 t1 t2 S K))))))))
noncomputable def aBB (x:VE) (t0 t1 t2 v17 v18:V) (S:Hp) (K:KV):Prop:=
 aQ PP t0 fun v131=>
 aD 5 v131 fun VJ=>
 aE VJ S fun VL S=>
 aF PP .geq 3 VL (.int .i64 (.ofNat 2)) fun VM=>
 aC x.most (aB true VM (fun k=>k v17 S) S fun Cn S=>
 aC x.most (aL VM Cn (.bool false) fun BW=>
 aC x.most (aB true BW (fun k=>k t0 S) S fun Co S=>
 aC x.most (aB true BW (fun k=>aQ PP Co fun v138=>
 k v138 S) S fun v139 S=>
 aC x.most (aB true BW (fun k=>aD 12 v139 fun Cp=>
 k Cp S) S fun v141 S=>
 aC x.most (aB true BW (fun k=>aE v141 S fun Cq S=>
 k Cq S) S fun v143 S=>
 aC x.most (aB true BW (fun k=>GU .not v143 fun Kp=>
 k Kp S) S fun v145 S=>
 aC x.most (aL BW v145 (.bool false) fun v146=>
 aC x.most (aB true v146 (fun k=>k t0 S) S fun Xn S=>
 aC x.most (aB true v146 (fun k=>k t0 S) S fun v148 S=>
 aC x.most (aB true v146 (fun k=>aQ PP v148 fun XI=>
 k XI S) S fun Xo S=>
 aC x.most (aB true v146 (fun k=>aD 4 Xo fun Xp=>
 k Xp S) S fun v152 S=>
 aC x.most (aB true v146 (fun k=>aE v152 S fun Xq S=>
 k Xq S) S fun v154 S=>
 aC x.most (aB true v146 (fun k=>aD 4 v18 fun Xr=>
 k Xr S) S fun Xs S=>
 aC x.most (aB true v146 (fun k=>aE Xs S fun v157 S=>
 k v157 S) S fun Xt S=>
 aC x.most (aB true v146 (fun k=>x.call cT [Xn,v154,(.int .u8 (.ofNat 3)),Xt] S fun v159 S=>
 k v159 S) S fun v160 S=>
 aC x.most (bN true BW v143 (fun k=>aE v141 S fun aDs _=>
 aY aDs v143 k) (aE VJ S fun v162 _=>
 aY v162 VL (aC x.most (aL v146 v160 (.bool false) fun aDt=>
 fC aDt (aQ PP t0 fun v164=>
 aD 12 v164 fun aDu=>
 jK 1 aDu (.bool true) S fun S=>
 aD 4 v18 fun aDv=>
 aE aDv S fun v167 S=>
 aQ PP t0 fun v168=>
 aD 8 v168 fun aDw=>
 jK 1 aDw v167 S fun S=>
 aQ PP t0 fun aDx=>
 aD 4 aDx fun v171=>
 aE v171 S fun aDy S=>
 aQ PP t0 fun v173=>
 aD 10 v173 fun aDz=>
 jK 1 aDz aDy S fun S=>
 aQ PP t0 fun v175=>
 aD 5 v175 fun aDA=>
 aE aDA S fun aDB S=>
 aF PP .eql 3 aDB (.int .i64 (.ofNat 3)) fun aDC=>
 fC aDC (aS (.tuple [.nil,(.bool true)]) S K) (aD 4 v18 fun aDD=>
 aE aDD S fun aDE S=>
 aQ PP t0 fun aDF=>
 aD 7 aDF fun v182=>
 jK 1 v182 aDE S fun S=>
 aQ PP t0 fun v183=>
 aD 4 v183 fun aDG=>
 aE aDG S fun aDH S=>
 aQ PP t0 fun aDI=>
 aD 9 aDI fun aDJ=>
 jK 1 aDJ aDH S fun S=>
 x.call bK [t0,(.int .i64 (.ofNat 3))] S fun aHq S=>
 aD 4 v18 fun aDK=>
 aE aDK S fun aDL S=>
 x.call aZ [t0,(.int .u8 (.ofNat 4)),(.int .i64 (.ofNat 0)),aDL] S fun aDM S=>
 aS (.tuple [aDM,(.bool true)]) S K)) (aBA x t0 t1 t2 S K)))))))))))))))))))))
noncomputable def aBC (x:VE) (t0 t1 t2 v17 v18:V) (S:Hp) (K:KV):Prop:=
 aQ PP t0 fun v63=>
 aD 5 v63 fun v64=>
 aE v64 S fun v65 S=>
 aF PP .eql 3 v65 (.int .i64 (.ofNat 1)) fun v66=>
 aC x.most (aB true v66 (fun k=>k v17 S) S fun v67 S=>
 aC x.most (aL v66 v67 (.bool false) fun v68=>
 aC x.most (aB true v68 (fun k=>aD 3 v18 fun v69=>
 k v69 S) S fun v70 S=>
 aC x.most (aB true v68 (fun k=>aE v70 S fun v71 S=>
 k v71 S) S fun v72 S=>
 aC x.most (aB true v68 (fun k=>aF PP .geq 3 v72 (.int .i64 (.ofNat 0)) fun v73=>
 k v73 S) S fun v74 S=>
 aC x.most (aL v68 v74 (.bool false) fun v75=>
 aC x.most (aB true v75 (fun k=>aD 3 v18 fun v76=>
 k v76 S) S fun v77 S=>
 aC x.most (aB true v75 (fun k=>aE v77 S fun v78 S=>
 k v78 S) S fun v79 S=>
 aC x.most (aB true v75 (fun k=>k t0 S) S fun v80 S=>
 aC x.most (aB true v75 (fun k=>aQ PP v80 fun v81=>
 k v81 S) S fun v82 S=>
 aC x.most (aB true v75 (fun k=>aD 4 v82 fun v83=>
 k v83 S) S fun v84 S=>
 aC x.most (aB true v75 (fun k=>aE v84 S fun v85 S=>
 k v85 S) S fun v86 S=>
 aC x.most (aB true v75 (fun k=>aF PP .lss 3 v79 v86 fun v87=>
 k v87 S) S fun Ce S=>
 aC x.most (aL v75 Ce (.bool false) fun v89=>
 aC x.most (aB true v89 (fun k=>k t0 S) S fun Km S=>
 aC x.most (aB true v89 (fun k=>aD 3 v18 fun v91=>
 k v91 S) S fun Ri S=>
 aC x.most (aB true v89 (fun k=>aE Ri S fun v93 S=>
 k v93 S) S fun RT S=>
 aC x.most (aB true v89 (fun k=>aD 4 v18 fun Ha=>
 k Ha S) S fun Hb S=>
 aC x.most (aB true v89 (fun k=>aE Hb S fun xG S=>
 k xG S) S fun Ko S=>
 aC x.most (aB true v89 (fun k=>x.call cT [Km,RT,(.int .u8 (.ofNat 3)),Ko] S fun Nq S=>
 k Nq S) S fun PQ S=>
 aC x.most (bN true v75 v86 (fun k=>aE v84 S fun UW _=>
 aY UW v86 k) (aC x.most (bN true v75 v79 (fun k=>aE v77 S fun UX _=>
 aY UX v79 k) (aC x.most (bN true v68 v72 (fun k=>aE v70 S fun UY _=>
 aY UY v72 k) (aE v64 S fun UZ _=>
 aY UZ v65 (aC x.most (aL v89 PQ (.bool false) fun v105=>
 fC v105 (x.call bK [t0,(.int .i64 (.ofNat 2))] S fun Cf S=>
 aQ PP t0 fun v107=>
 aD 9 v107 fun VB=>
 aE VB S fun v109 S=>
 aD 3 v18 fun PR=>
 aE PR S fun VC S=>
 aF PP .leq 3 v109 VC fun tZ=>
 aC x.most (aB false tZ (fun k=>k t0 S) S fun VD S=>
 aC x.most (aB false tZ (fun k=>aQ PP VD fun VF=>
 k VF S) S fun VG S=>
 aC x.most (aB false tZ (fun k=>aD 7 VG fun IV=>
 k IV S) S fun v117 S=>
 aC x.most (aB false tZ (fun k=>aE v117 S fun VH S=>
 k VH S) S fun LA S=>
 aC x.most (aB false tZ (fun k=>aD 4 v18 fun VI=>
 k VI S) S fun Cg S=>
 aC x.most (aB false tZ (fun k=>aE Cg S fun Ci S=>
 k Ci S) S fun Cj S=>
 aC x.most (aB false tZ (fun k=>aF PP .eql 9 LA Cj fun v124=>
 k v124 S) S fun Ck S=>
 aC x.most (aL tZ (.bool true) Ck fun Cl=>
 fC Cl (aD 4 v18 fun v127=>
 aE v127 S fun Cm S=>
 x.call aZ [t0,(.int .u8 (.ofNat 3)),(.int .i64 (.ofNat 0)),Cm] S fun ES S=>
 aS (.tuple [ES,(.bool true)]) S K) (x.call aZ [t0,(.int .u8 (.ofNat 3)),(.int .i64 (.ofNat 0)),(.str [])] S fun v130 S=>
 aS (.tuple [v130,(.bool true)]) S K)))))))))) (aBB x t0 t1 t2 v17 v18 S K)))))))))))))))))))))))))))))
noncomputable def aFe (x:VE) (t0 t1 t2 v17 v18:V) (S:Hp) (K:KV):Prop:=
 aQ PP t0 fun v19=>
 aD 5 v19 fun v20=>
 aE v20 S fun v21 S=>
 aF PP .eql 3 v21 (.int .i64 (.ofNat 1)) fun v22=>
 aC x.most (aB true v22 (fun k=>k v17 S) S fun v23 S=>
 aC x.most (aL v22 v23 (.bool false) fun v24=>
 aC x.most (aB true v24 (fun k=>aD 3 v18 fun v25=>
 k v25 S) S fun v26 S=>
 aC x.most (aB true v24 (fun k=>aE v26 S fun v27 S=>
 k v27 S) S fun v28 S=>
 aC x.most (aB true v24 (fun k=>aF PP .eql 3 v28 (.int .i64 (.negSucc 0)) fun v29=>
 k v29 S) S fun v30 S=>
 aC x.most (aL v24 v30 (.bool false) fun v31=>
 aC x.most (aB true v31 (fun k=>k t2 S) S fun v32 S=>
 aC x.most (aB true v31 (fun k=>aD 4 v18 fun v33=>
 k v33 S) S fun v34 S=>
 aC x.most (aB true v31 (fun k=>aE v34 S fun v35 S=>
 k v35 S) S fun v36 S=>
 aC x.most (aB true v31 (fun k=>x.call jI [v32,v36] S fun v37 S=>
 k v37 S) S fun v38 S=>
 aC x.most (aL v31 v38 (.bool false) fun v39=>
 fC v39 (x.call bK [t0,(.int .i64 (.ofNat 2))] S fun v40 S=>
 aQ PP t0 fun v41=>
 aD 7 v41 fun v42=>
 aE v42 S fun v43 S=>
 aF PP .eql 9 v43 (.str []) fun v44=>
 aC x.most (aB false v44 (fun k=>k t0 S) S fun v45 S=>
 aC x.most (aB false v44 (fun k=>aQ PP v45 fun v46=>
 k v46 S) S fun v47 S=>
 aC x.most (aB false v44 (fun k=>aD 7 v47 fun v48=>
 k v48 S) S fun v49 S=>
 aC x.most (aB false v44 (fun k=>aE v49 S fun v50 S=>
 k v50 S) S fun v51 S=>
 aC x.most (aB false v44 (fun k=>aD 4 v18 fun v52=>
 k v52 S) S fun v53 S=>
 aC x.most (aB false v44 (fun k=>aE v53 S fun v54 S=>
 k v54 S) S fun v55 S=>
 aC x.most (aB false v44 (fun k=>aF PP .eql 9 v51 v55 fun v56=>
 k v56 S) S fun v57 S=>
 aC x.most (aL v44 (.bool true) v57 fun v58=>
 fC v58 (aD 4 v18 fun v59=>
 aE v59 S fun v60 S=>
 x.call aZ [t0,(.int .u8 (.ofNat 3)),(.int .i64 (.ofNat 0)),v60] S fun v61 S=>
 aS (.tuple [v61,(.bool true)]) S K) (x.call aZ [t0,(.int .u8 (.ofNat 3)),(.int .i64 (.ofNat 0)),(.str [])] S fun v62 S=>
 aS (.tuple [v62,(.bool true)]) S K)))))))))) (aBC x t0 t1 t2 v17 v18 S K))))))))))))
noncomputable def aBD (x:VE) (t0 t1 t2:V) (S:Hp) (K:KV):Prop:=
 aQ PP t0 fun v12=>
 aD 4 v12 fun v13=>
 aE v13 S fun v14 S=>
 x.call gN [t0,v14] S fun v15 S=>
 lU 0 v15 fun v16=>
 lU 1 v15 fun v17=>
 fE [(.int .i64 (.ofNat 0)),(.int .i64 (.ofNat 0)),(.int .u8 (.ofNat 0)),(.int .i64 (.ofNat 0)),(.string ⟨⟨[]⟩⟩)] 49 S fun v18 S=>
 jK 5 v18 v16 S fun S=>
 aFe x t0 t1 t2 v17 v18 S K
theorem Hq (x:VE) (m0:Nat) (t0 t1 t2 t8 t12:V) (S:Hp) (K:KV):dM x (m0+1) t0 t1 t2 t8 t12 S K=(dX S fun S=>
 aQ PP t0 fun v0=>
 aD 4 v0 fun v1=>
 aE v1 S fun v2 S=>
 aF PP .gtr 3 t12 v2 fun v3=>
 fC v3 (aQ PP t0 fun v4=>
 aD 2 v4 fun v5=>
 aE v5 S fun v6 S=>
 x.call gI [t8,t12] S fun v7 S=>
 aE v5 S fun v8 _=>
 aY v8 v6 (aF PP .gtr 3 v7 v6 fun v9=>
 fC v9 (x.call gR [t0,t12] S fun v10 S=>
 aS (.tuple [.nil,(.bool true)]) S K) (aF PP .sub 3 t12 (.int .i64 (.ofNat 1)) fun v11=>
 dM x m0 t0 t1 t2 t8 v11 S K))) (aBD x t0 t1 t2 S K)):=AM x m0 t0 t1 t2 t8 t12 S K
set_option maxRecDepth 4000
theorem aFl:gT kW=none:=rfl
section
variable{M n b:Nat}{x:VE}{S S':Hp}{K:KV}{a:Ba}{v:V}
theorem qB{op:Prop->Prop}{k:Prop} (h:k):bN true (.bool false) yM op k:=h
theorem uZ{w:Bool}{op:Prop->Prop}{k:Prop} (h:k):bN w yM yM op k:=by rw [YP];exact h
theorem aFm{fr:Int}{g:Mi}{O:Tag} (hM:100000<M) (hx:Deep PP bM gT M (n+4) x) (k:RB S b a) (i:cA a) (hk:XO S b (a.give fr g.kd g.h g.r g.vl g.tx) fun S'=>K (.bool (decide (g.h=a.s.h)&&decide (2<=g.kd)&&decide (g.kd<=4)&&decide (g.r<100)&&a.s.takes a.l ⟨fr,g.r,g.kd,g.vl,g.tx⟩)) S'):x.call qG [.ptr b 0,.int .i64 fr,.agg (g.vv O)] S K:=by
 refine hx.call aBR fun y hy=>?_;rw [NQ];unfold BM;refine eQ rfl fun q hq=>?_;have le1:dL S (upd S q (.row (g.vv O) 45)):= .aV hq;have ri:upd S q (.row (g.vv O) 45) q=some (.row (g.vv O) 45):=upd_same;generalize upd S q (.row (g.vv O) 45)=S1 at le1 ri;obtain⟨v,hb,hl⟩:=k.row;obtain⟨l0,_⟩:=fX (le1 _ _ hb);have m0:∀{K:KV},aE (.ptr q 0) S1 K=K (.int .u8 (.ofNat g.kd)) S1:=aJ ri;have m3:∀{K:KV},aE (.ptr q 3) S1 K=K (.int .i64 g.h) S1:=aJ ri;have m4:∀{K:KV},aE (.ptr q 4) S1 K=K (.int .i64 g.r) S1:=aJ ri;have m5:∀{K:KV},aE (.ptr q 5) S1 K=K (.int .i64 g.vl) S1:=aJ ri;have m9:∀{K:KV},aE (.ptr q 9) S1 K=K (.str g.tx) S1:=aJ ri
 have no:(decide (g.h=a.s.h)&&decide (2<=g.kd)&&decide (g.kd<=4))=false->aS (.bool false) S1 K:=fun e=>by
  unfold Ba.give at hk;rw [if_neg (by rw [e];simp)]at hk;have:=hk S1 le1.but (k.hle le1);rw [e,Bool.false_and,Bool.false_and]at this;exact aK this
 simp only [aO,m0,LL,bD];by_cases c2:g.kd<2
 ·simp only [decide_eq_true c2,bL,dC,cO]
  exact no (by simp;omega)
 ·simp only [decide_eq_false c2,aH,m0,WB,eA]
  by_cases c3:4<g.kd
  ·simp only [decide_eq_true c3,bL,dC,cO]
   exact no (by simp;omega)
  ·simp only [decide_eq_false c3,aH,m3,aP,aO,l0,cW,eA]
   by_cases c1:g.h=a.s.h
   ·simp only [decide_eq_true c1,Bool.not_true,bP,m4,m0,m5,m9]
    refine LN (new:=Vo.vv ⟨fr,g.r,g.kd,g.vl,g.tx⟩) rfl rfl rfl ?_;refine Zj (w:=⟨fr,g.r,g.kd,g.vl,g.tx⟩) hM hy (k.hle le1) i fun S2 c2 k2=>?_;have hk2:=hk S2 (le1.but.trans c2);unfold Ba.give at hk2;by_cases c4:g.r<100
    ·have e:(decide (g.h=a.s.h)&&decide (2<=g.kd)&&decide (g.kd<=4)&&decide (g.r<100))=true:=by simp;omega
     rw [if_pos e,e,Bool.true_and]at hk2;exact aK (hk2 k2)
    ·have e:(decide (g.h=a.s.h)&&decide (2<=g.kd)&&decide (g.kd<=4)&&decide (g.r<100))=false:=by rw [decide_eq_false c4,Bool.and_false]
     have et:a.s.takes a.l ⟨fr,g.r,g.kd,g.vl,g.tx⟩=false:=by
      rw [Bool.eq_false_iff];intro z;have:=(rB _ _).1 ((CZ _ _ _).1 z).2.1;have:=this.1.2.2.2.1;exact c4 this
     rw [e,if_neg (by simp),Bool.false_and]at hk2;have ep:a.put ⟨fr,g.r,g.kd,g.vl,g.tx⟩=a:=by unfold Ba.put;rw [et];rfl
     rw [ep]at k2;rw [et];exact aK (hk2 k2)
   ·simp only [decide_eq_false c1,Bool.not_false,cO]
    exact no (by simp [c1])
theorem ZC{kd:Nat}{vl:Int}{tx:List UInt8} (hM:100000<M) (hx:Deep PP bM gT M (n+4) x) (k:RB S b a) (i:cA a) (hk:XO S b (a.say kd vl tx).1 fun S'=>∀j,S' j=none->aS (.own j 0 1 1) (upd S' j (.row (Mg.vv ⟨kd,a.s.h,a.s.rd,vl,tx⟩) 45)) K):x.call aZ [.ptr b 0,.int .u8 (.ofNat kd),.int .i64 vl,.str tx] S K:=by
 refine hx.call aFk fun y hy=>?_;rw [NU];unfold BP;obtain⟨v,hb,hl⟩:=k.row;obtain⟨m0,m1,m2,m3,m4,_⟩:=fX hb;simp only [aP,aO,m3,m4];refine LN (new:=Vo.vv ⟨a.s.me,a.s.rd,kd,vl,tx⟩) rfl rfl rfl ?_;refine Zj (w:=⟨a.s.me,a.s.rd,kd,vl,tx⟩) hM hy k i fun S1 c1 k1=>?_;have es:(a.put ⟨a.s.me,a.s.rd,kd,vl,tx⟩).s=a.s:=cA.YU _ _;obtain⟨v2,hb2,hl2⟩:=k1.row;rw [es]at hb2;obtain⟨p0,p1,p2,p3,p4,_⟩:=fX hb2;simp only [p0,p3,p4,cZ];refine lW rfl (bC rfl (by simp) (bC rfl (by simp) (bC rfl (by simp) (bC rfl (by simp) (bC rfl (by simp) (oO ?_))))));have hb3:∀{K:KV},(∀j,S1 j=none->K (.own j 0 1 1) (upd S1 j (.row (Mg.vv ⟨kd,a.s.h,a.s.rd,vl,tx⟩) 45)))->dP 45 1 [(.int .u8 (.ofNat 0)),(.int .i64 (.ofNat 0)),(.int .i64 (.ofNat 0)),(.int .i64 (.ofNat 0)),(.int .i64 (.ofNat 0)),(.int .i64 (.ofNat 0)),(.int .i64 (.ofNat 0)),(.int .i64 (.ofNat 0)),(.int .i64 (.ofNat 0)),(.string ⟨⟨[]⟩⟩),(.slice none 0 0)] [(0,11,.agg (Mg.vv ⟨kd,a.s.h,a.s.rd,vl,tx⟩))] S1 K:=fun h=>oQ rfl rfl rfl rfl h;refine⟨hb3 fun j hj=>trivial,hb3 fun j hj=>?_⟩;exact hk S1 c1 k1 j hj
theorem aFn{kd:Nat}{vl:Int}{tx:List UInt8} (hM:100000<M) (hx:Deep PP bM gT M (n+4) x) (k:RB S b a) (i:cA a) (hk:XO S b (a.say kd vl tx).1 fun S'=>∀O,K (.list O (yZ (a.say kd vl tx).2) 1) S'):x.call aZ [.ptr b 0,.int .u8 (.ofNat kd),.int .i64 vl,.str tx] S K:=
 ZC hM hx k i fun S1 c1 k1 j hj=>Dd upd_same hj (.aV hj) (hk S1 c1 k1)
def WF (K:KV) (r:R3) (S':Hp):Prop:=∀O,K (.tuple [.list O (yZ r.2.1) r.2.1.length,.bool r.2.2]) S'
theorem HK{r:R3}{bb:Bool} (h:WF K r S) (e1:r.2.1=[]) (e2:r.2.2=bb):aS (.tuple [.nil,.bool bb]) S K:=by
 refine vK (cs:=[]) (n:=0) (.refl _) .nil fun O=>?_;have:=h O;rw [e1,e2]at this;exact this
theorem uK{want:List UInt8}{may:List (List UInt8)}{m q:Nat} (h:(a.rule want may q).2.2=true):a.from_ want may (m+1) q=a.rule want may q:=by
 conv=>lhs;unfold Ba.from_
 rw [if_pos h]
theorem BS{want:List UInt8}{may:List (List UInt8)}{m q:Nat} (h:(a.rule want may q).2.2=false):a.from_ want may (m+1) q=a.from_ want may m (q+1):=by
 conv=>lhs;unfold Ba.from_
 rw [if_neg (by rw [h];simp)]
theorem sG{a':Ba}{kd:Nat}{vl:Int}{tx:List UInt8}{r:R3} (hM:100000<M) (hx:Deep PP bM gT M (n+4) x) (c:But S S' b) (k:RB S' b a') (i:cA a') (hk:XO S b r.1 (WF K r)) (e:r=Ba.yes (a'.say kd vl tx)):x.call aZ [.ptr b 0,.int .u8 (.ofNat kd),.int .i64 vl,.str tx] S' fun w S=>aS (.tuple [w,.bool true]) S K:=by
 subst e;refine aFn hM hx k i fun S2 c2 k2 O=>aK ?_;exact hk S2 (c.trans c2) k2 O
theorem RB.mk2{s:Bs} (k:RB S b a){v:V} (h:S b=some (.row (aU a.s v) 24)) (hl:Lv S v a.l):RB (upd S b (.row (aU s v) 24)) b ⟨s,a.l⟩:=⟨v,upd_same,hl.but h .upd⟩
theorem aBS{want:List UInt8}{may:List (List UInt8)}{t2:V} (hM:100000<M) (hx:Deep PP bM gT M (n+4) x) (k:RB S b a) (i:cA a) (hk:XO S b (a.from_ want may 1 6).1 (WF K (a.from_ want may 1 6))):aBz x (.ptr b 0) (.str want) t2 S K:=by
 unfold aBz;obtain⟨v,hb,hl⟩:=k.row;have hok:=i.ok;unfold Do at hok;have hrd:=i.rd;obtain⟨m0,m1,m2,m3,m4,m5,m6,m7,m8,m9,m10,m11,m12,m13,m14⟩:=fX hb
 have no:(a.rule want may 6).2.2=false->aS (.tuple [.nil,.bool false]) S K:=fun e=>by
  rw [BS e]at hk;exact HK (hk S .refl k) rfl rfl
 have no2:(decide (a.s.st=1)&& !a.s.prop&&decide (a.s.RW a.s.rd=a.s.me)&& !decide ((a.wants want).1=[]))=false->aS (.tuple [.nil,.bool false]) S K:=fun e=>no (by unfold Ba.rule Ba.propose;rw [e];rfl);simp only [aP,aO,m5,bW,bD];by_cases c1:a.s.st=1
 ·simp only [show decide (a.s.st=Int.ofNat 1)=true from decide_eq_true c1,aH,gB,aP,aO,m3,m4]
  refine Dk hx.less.less.less hb (by omega) (by omega) (by omega) ?_;simp only [m3,m5,cZ,bW,dC];by_cases c2:a.s.me=a.s.RW a.s.rd
  ·simp only [decide_eq_true c2,aH,aP,aO,m11,fG,dC]
   by_cases c3:a.s.prop=true
   ·simp only [c3,Bool.not_true]
    repeat with_reducible (first | refine fO ?_ | refine fI ?_ | refine gJ ?_ | refine fP ?_ | refine fJ ?_ | refine lS ?_)
    exact no2 (by simp [c3])
   ·simp only [Bool.not_eq_true]at c3
    simp only [c3,Bool.not_false,aH,aP,aO,m8,kT];have hset:RB (upd S b (.row (aU {a.s with prop:=true} v) 24)) b ⟨{a.s with prop:=true},a.l⟩:=k.mk2 hb hl;have es:splice 11 [.bool true] (aU a.s v)=aU {a.s with prop:=true} v:=rfl;have rb2:upd S b (.row (aU {a.s with prop:=true} v) 24) b=some (.row (aU {a.s with prop:=true} v) 24):=upd_same;have cb:But S (upd S b (.row (aU {a.s with prop:=true} v) 24)) b:= .upd;have st:∀{k:Hp->Prop},k (upd S b (.row (aU {a.s with prop:=true} v) 24))->jK 1 (.ptr b 11) (.bool true) S k:=fun h=>dQ hb rfl (by simp [aU]) (by rw [es];exact h);generalize upd S b (.row (aU {a.s with prop:=true} v) 24)=S2 at hset rb2 cb st;have q8:∀{K:KV},aE (.ptr b 8) S2 K=K (.str a.s.valid) S2:=aJ rb2;have q10:∀{K:KV},aE (.ptr b 10) S2 K=K (.int .i64 a.s.gA) S2:=aJ rb2;have i2:cA ⟨{a.s with prop:=true},a.l⟩:=⟨i.ok,i.rd,i.st,i.age,i.lk,i.vl,i.dec,i.HI,i.vs⟩;by_cases c4:a.s.valid=[]
    ·simp only [decide_eq_true c4,Bool.not_true,aH,kT,eA,dC]
     by_cases c5:want=[]
     ·simp only [decide_eq_true c5,Bool.not_true,bP]
      exact no2 (by unfold Ba.wants;rw [if_pos c4];simp [c5])
     ·simp only [decide_eq_false c5,Bool.not_false,cO]
      refine st ?_;simp only [q8,kT,decide_eq_true c4,Bool.not_true,bP]
      have e7:a.rule want may 6=Ba.yes ((⟨{a.s with prop:=true},a.l⟩:Ba).say 2 (-1) want):=by
       unfold Ba.rule Ba.propose Ba.wants;simp only [if_pos c4];rw [if_pos (by simp [c1,c3,c2.symm,c5])]
      refine sG (r:=a.from_ want may 1 6) hM hx cb hset i2 hk ?_;exact(uK (by rw [e7];rfl)).trans e7
    ·simp only [decide_eq_false c4,Bool.not_false,bL,dC,cO]
     refine st ?_;simp only [q8,q10,kT,decide_eq_false c4,Bool.not_false,cO]
     have e7:a.rule want may 6=Ba.yes ((⟨{a.s with prop:=true},a.l⟩:Ba).say 2 a.s.gA a.s.valid):=by
      unfold Ba.rule Ba.propose Ba.wants;simp only [if_neg c4];rw [if_pos (by simp [c1,c3,c2.symm,c4])]
     refine sG (r:=a.from_ want may 1 6) hM hx cb hset i2 hk ?_;exact(uK (by rw [e7];rfl)).trans e7
  ·rw [decide_eq_false c2]
   repeat with_reducible (first | refine fO ?_ | refine fI ?_ | refine gJ ?_ | refine fP ?_ | refine fJ ?_ | refine lS ?_)
   exact no2 (by rw [decide_eq_false (p:=a.s.RW a.s.rd=a.s.me) (fun e=>c2 e.symm)];simp)
 ·rw [show decide (a.s.st=Int.ofNat 1)=false from decide_eq_false c1]
  repeat with_reducible (first | refine fO ?_ | refine fI ?_ | refine gJ ?_ | refine fP ?_ | refine fJ ?_ | refine lS ?_ | refine qB ?_ | refine uZ ?_)
  simp only [m5,cZ]
  repeat with_reducible (first | refine fO ?_ | refine fI ?_ | refine gJ ?_ | refine fP ?_ | refine fJ ?_ | refine lS ?_ | refine qB ?_ | refine uZ ?_)
  exact no2 (by rw [decide_eq_false c1];rfl)
end
set_option maxRecDepth 4000
structure Lk (S0:Hp) (b j:Nat) (v:V) (l:List Vo) (u:Vo) (S:Hp) (s:Bs):Prop where
 row:S b=some (.row (aU s v) 24)
 vo:S j=some (.row u.vv 49)
 but:But S0 S b
 lv:Lv S v l
section
variable{M n b j:Nat}{x:VE}{S S' S0:Hp}{K:KV}{a:Ba}{v:V}{l:List Vo}{u:Vo}{s s':Bs}
theorem Lk.rb (g:Lk S0 b j v l u S s):RB S b ⟨s,l⟩:=⟨v,g.row,g.lv⟩
theorem Lk.next (g:Lk S0 b j v l u S s):Lk S0 b j v l u (upd S b (.row (aU s' v) 24)) s':=by
 have hj:j≠b:=SO g.row g.vo (by simp [Vo.vv]);exact⟨upd_same,by rw [aG hj];exact g.vo,g.but.trans .upd,g.lv.but g.row .upd⟩
theorem Lk.st{o:Nat}{val:V}{k:Hp->Prop} (g:Lk S0 b j v l u S s) (ho:lL val=true) (hl:o<15) (e:splice o [val] (aU s v)=aU s' v) (hk:∀S2,Lk S0 b j v l u S2 s'->k S2):jK 1 (.ptr b o) val S k:=by
 refine dQ g.row ho (by simpa [aU]using hl) ?_;rw [e];exact hk _ g.next
theorem Lk.step{z:Int} (hx:Deep PP bM gT M (n+1) x) (g:Lk S0 b j v l u S s) (hk:∀S2,Lk S0 b j v l u S2 {s with st:=z,age:=0}->K (.tuple []) S2):x.call bK [.ptr b 0,.int .i64 z] S K:=
 SN hx g.row (hk _ g.next)
theorem aBT{want:List UInt8}{may:List (List UInt8)}{t2:V} (hM:100000<M) (hx:Deep PP bM gT M (n+4) x) (g:Lk S b j v a.l u S a.s) (i:cA a) (hk:XO S b (a.from_ want may 2 5).1 (WF K (a.from_ want may 2 5))):aBA x (.ptr b 0) (.str want) t2 S K:=by
 unfold aBA;obtain⟨m0,m1,m2,m3,m4,m5,m6,m7,m8,m9,m10,m11,m12,m13,m14⟩:=fX g.row;have hx2:Deep PP bM gT M (n+2+2) x:=hx
 have no:(decide (a.s.st=2)&&a.agreed a.s.rd 3 [])=false->aBz x (.ptr b 0) (.str want) t2 S K:=fun e=>by
  rw [BS (by unfold Ba.rule Ba.nothing;rw [e];rfl)]at hk;exact aBS hM hx g.rb i hk
 simp only [aP,aO,m5,bW,bD];by_cases c1:a.s.st=2
 ·simp only [show decide (a.s.st=Int.ofNat 2)=true from decide_eq_true c1,aH,aP,aO,m4]
  refine IK hM hx2 g.rb i ?_;simp only [dC];cases c2:a.agreed a.s.rd 3 []with
  | false=>
   rw [bP];exact no (by rw [c2,Bool.and_false])
  | true=>
   rw [cO]
   have e6:a.rule want may 5=Ba.yes ((a.to 3).say 4 0 []):=by
    unfold Ba.rule Ba.nothing;simp only;rw [if_pos (by simp [c1,c2])]
   refine g.step hx2.less fun S2 g2=>?_;exact sG (r:=a.from_ want may 2 5) hM hx g2.but g2.rb (i.to (by decide) (by decide)) hk ((uK (by rw [e6];rfl)).trans e6)
 ·rw [show decide (a.s.st=Int.ofNat 2)=false from decide_eq_false c1]
  repeat with_reducible (first | refine fO ?_ | refine fI ?_ | refine gJ ?_ | refine fP ?_ | refine fJ ?_ | refine lS ?_)
  exact no (by rw [decide_eq_false c1];rfl)
theorem aBU{want:List UInt8}{may:List (List UInt8)}{t2:V} (hM:100000<M) (hx:Deep PP bM gT M (n+4) x) (g:Lk S b j v a.l ((a.pr a.s.rd).getD tG) S a.s) (i:cA a) (hk:XO S b (a.from_ want may 3 4).1 (WF K (a.from_ want may 3 4))):aBB x (.ptr b 0) (.str want) t2 (.bool (a.pr a.s.rd).isSome) (.ptr j 0) S K:=by
 unfold aBB;obtain⟨m0,m1,m2,m3,m4,m5,m6,m7,m8,m9,m10,m11,m12,m13,m14⟩:=fX g.row;obtain⟨w0,w1,w2,w3,w4⟩:=rO g.vo;have hx2:Deep PP bM gT M (n+2+2) x:=hx;have hst:=i.st
 have no:(a.rule want may 4).2.2=false->aBA x (.ptr b 0) (.str want) t2 S K:=fun e=>by
  rw [BS e]at hk;exact aBT hM hx g i hk
 simp only [aP,aO,m5,dG,bD];by_cases c1:2<=a.s.st
 ·cases hp:a.pr a.s.rd with
  | none=>
   simp only [show decide (Int.ofNat 2<=a.s.st)=true from decide_eq_true c1,aH,dC,Option.isSome_none]
   repeat with_reducible (first | refine fO ?_ | refine fI ?_ | refine gJ ?_ | refine fP ?_ | refine fJ ?_ | refine lS ?_ | refine qB ?_ | refine uZ ?_)
   simp only [m5,cZ]
   repeat with_reducible (first | refine fO ?_ | refine fI ?_ | refine gJ ?_ | refine fP ?_ | refine fJ ?_ | refine lS ?_ | refine qB ?_ | refine uZ ?_)
   exact no (by unfold Ba.rule Ba.lock;simp only [hp];rfl)
  | some w=>
   have w4:∀{K:KV},aE (.ptr j 4) S K=K (.str w.tx) S:=fun {K}=>by rw [w4,hp];rfl
   rw [hp]at g;simp only [show decide (Int.ofNat 2<=a.s.st)=true from decide_eq_true c1,aH,dC,Option.isSome_some,aP,aO,m12,fG];by_cases c2:a.s.seen=true
   ·simp only [c2,Bool.not_true]
    repeat with_reducible (first | refine fO ?_ | refine fI ?_ | refine gJ ?_ | refine fP ?_ | refine fJ ?_ | refine lS ?_ | refine qB ?_ | refine uZ ?_)
    simp only [gB,m12,c2,m5,cZ,yP]
    repeat with_reducible (first | refine fO ?_ | refine fI ?_ | refine gJ ?_ | refine fP ?_ | refine fJ ?_ | refine lS ?_ | refine qB ?_ | refine uZ ?_)
    exact no (by unfold Ba.rule Ba.lock;simp only [hp];rw [if_neg (by simp [c2])];rfl)
   ·simp only [Bool.not_eq_true]at c2
    simp only [c2,Bool.not_false,aH,aP,aO,m4,w4];refine IK hM hx2 ⟨_,g.row,g.lv⟩ i ?_;simp only [gB,m12,c2,m5,cZ,yP,dC];cases c3:a.agreed a.s.rd 3 w.tx with
    | false=>
     rw [bP];exact no (by unfold Ba.rule Ba.lock;simp only [hp];rw [if_neg (by simp [c3])];rfl)
    | true=>
     simp only [cO];refine g.st (s':={a.s with seen:=true}) rfl (by decide) rfl fun S1 g1=>?_;obtain⟨_,_,_,_,wa⟩:=rO g1.vo;have wa:∀{K:KV},aE (.ptr j 4) S1 K=K (.str w.tx) S1:=wa;simp only [wa];refine g1.st (s':={a.s with seen:=true,valid:=w.tx}) rfl (by decide) rfl fun S2 g2=>?_;have r2:∀{K:KV},aE (.ptr b 4) S2 K=K (.int .i64 a.s.rd) S2:=aJ g2.row;simp only [r2];refine g2.st (s':={a.s with seen:=true,valid:=w.tx,gA:=a.s.rd}) rfl (by decide) rfl fun S3 g3=>?_;have r3:∀{K:KV},aE (.ptr b 5) S3 K=K (.int .i64 a.s.st) S3:=aJ g3.row;have r34:∀{K:KV},aE (.ptr b 4) S3 K=K (.int .i64 a.s.rd) S3:=aJ g3.row;simp only [r3,bW];by_cases c4:a.s.st=3
     ·rw [show decide (a.s.st=Int.ofNat 3)=true from decide_eq_true c4,cO]
      have e5:a.rule want may 4=(⟨{a.s with seen:=true,valid:=w.tx,gA:=a.s.rd},a.l⟩,[],true):=by
       unfold Ba.rule Ba.lock;simp only [hp];rw [if_pos (by simp [c2,c3,c4]),if_pos c4]
      rw [uK (by rw [e5]),e5]at hk;exact HK (hk S3 g3.but g3.rb) rfl rfl
     ·rw [show decide (a.s.st=Int.ofNat 3)=false from decide_eq_false c4,bP]
      obtain⟨_,_,_,_,wb⟩:=rO g3.vo;have wb:∀{K:KV},aE (.ptr j 4) S3 K=K (.str w.tx) S3:=wb;simp only [wb];refine g3.st (s':={a.s with seen:=true,valid:=w.tx,gA:=a.s.rd,lock:=w.tx}) rfl (by decide) rfl fun S4 g4=>?_;have r4:∀{K:KV},aE (.ptr b 4) S4 K=K (.int .i64 a.s.rd) S4:=aJ g4.row;simp only [r4];refine g4.st (s':={a.s with seen:=true,valid:=w.tx,gA:=a.s.rd,lock:=w.tx,mW:=a.s.rd}) rfl (by decide) rfl fun S5 g5=>?_;refine g5.step hx2.less fun S6 g6=>?_;obtain⟨_,_,_,_,wc⟩:=rO g6.vo;have wc:∀{K:KV},aE (.ptr j 4) S6 K=K (.str w.tx) S6:=wc;simp only [wc]
      have e5:a.rule want may 4=Ba.yes ((⟨{a.s with seen:=true,valid:=w.tx,gA:=a.s.rd,lock:=w.tx,mW:=a.s.rd,st:=3,age:=0},a.l⟩:Ba).say 4 0 w.tx):=by
       unfold Ba.rule Ba.lock;simp only [hp];rw [if_pos (by simp [c2,c3];omega),if_neg c4]
      have hm:=i.HJ hp;have hrd:=i.rd
      have i6:cA ⟨{a.s with seen:=true,valid:=w.tx,gA:=a.s.rd,lock:=w.tx,mW:=a.s.rd,st:=3,age:=0},a.l⟩:=
       ⟨i.ok,i.rd,⟨by show(1:Int)<=3;decide,by show(3:Int)<=3;decide⟩,⟨Int.le_refl _,by show(0:Int)<=1099511627776;decide⟩,(nZ _ _ _).2 ⟨hm.2.2.2.2.1,by show-1<=a.s.rd;omega,Int.le_refl _,⟨fun q=>absurd q hm.2.2.2.1,fun q=>by have q:a.s.rd= -1:=q;omega⟩⟩,(nZ _ _ _).2 ⟨hm.2.2.2.2.1,by show-1<=a.s.rd;omega,Int.le_refl _,⟨fun q=>absurd q hm.2.2.2.1,fun q=>by have q:a.s.rd= -1:=q;omega⟩⟩,i.dec,i.HI,i.vs⟩
      exact sG (r:=a.from_ want may 3 4) hM hx g6.but g6.rb i6 hk ((uK (by rw [e5];rfl)).trans e5)
 ·rw [show decide (Int.ofNat 2<=a.s.st)=false from decide_eq_false c1]
  repeat with_reducible (first | refine fO ?_ | refine fI ?_ | refine gJ ?_ | refine fP ?_ | refine fJ ?_ | refine lS ?_ | refine qB ?_ | refine uZ ?_)
  simp only [m5,cZ]
  repeat with_reducible (first | refine fO ?_ | refine fI ?_ | refine gJ ?_ | refine fP ?_ | refine fJ ?_ | refine lS ?_ | refine qB ?_ | refine uZ ?_)
  refine no ?_;unfold Ba.rule Ba.lock;cases hp:a.pr a.s.rd with
  | none=>rfl
  | some w=>simp only;rw [if_neg (by simp;omega)];rfl
end
set_option maxRecDepth 4000
section
variable{M n b j:Nat}{x:VE}{S S' S0:Hp}{K:KV}{a:Ba}{v:V}{l:List Vo}{u:Vo}{s s':Bs}
theorem IL (a:Ba) (tx:List UInt8) (free:Bool):a.iT tx free=if free || decide (a.s.lock=tx)then(a.to 2).say 3 0 tx else(a.to 2).say 3 0 []:=by
 unfold Ba.iT;cases free
 ·by_cases h:a.s.lock=tx
  ·simp [h]
  ·simp [h]
 ·rfl
theorem aBV{want:List UInt8}{may:List (List UInt8)}{t2:V} (hM:100000<M) (hx:Deep PP bM gT M (n+4) x) (g:Lk S b j v a.l ((a.pr a.s.rd).getD tG) S a.s) (i:cA a) (hk:XO S b (a.from_ want may 4 3).1 (WF K (a.from_ want may 4 3))):aBC x (.ptr b 0) (.str want) t2 (.bool (a.pr a.s.rd).isSome) (.ptr j 0) S K:=by
 unfold aBC;obtain⟨m0,m1,m2,m3,m4,m5,m6,m7,m8,m9,m10,m11,m12,m13,m14⟩:=fX g.row;obtain⟨w0,w1,w2,w3,w4⟩:=rO g.vo;have hx2:Deep PP bM gT M (n+2+2) x:=hx
 have no:(a.rule want may 3).2.2=false->aBB x (.ptr b 0) (.str want) t2 (.bool (a.pr a.s.rd).isSome) (.ptr j 0) S K:=fun e=>by
  rw [BS e]at hk;exact aBU hM hx g i hk
 simp only [aP,aO,m5,bW,bD];by_cases c1:a.s.st=1
 ·cases hp:a.pr a.s.rd with
  | none=>
   rw [hp]at no;simp only [show decide (a.s.st=Int.ofNat 1)=true from decide_eq_true c1,aH,dC,Option.isSome_none]
   repeat with_reducible (first | refine fO ?_ | refine fI ?_ | refine gJ ?_ | refine fP ?_ | refine fJ ?_ | refine lS ?_ | refine qB ?_ | refine uZ ?_)
   simp only [m5,cZ]
   repeat with_reducible (first | refine fO ?_ | refine fI ?_ | refine gJ ?_ | refine fP ?_ | refine fJ ?_ | refine lS ?_ | refine qB ?_ | refine uZ ?_)
   exact no (by unfold Ba.rule Ba.old;simp only [hp];rfl)
  | some w=>
   have w3:∀{K:KV},aE (.ptr j 3) S K=K (.int .i64 w.vl) S:=fun {K}=>by rw [w3,hp];rfl
   have w4:∀{K:KV},aE (.ptr j 4) S K=K (.str w.tx) S:=fun {K}=>by rw [w4,hp];rfl
   rw [hp]at g no;have hm:=i.HJ hp;have hmay:=(rB _ _).1 hm.2.2.2.2.2
   have hvl: -1<=w.vl/\w.vl<a.s.rd:=by
    rcases hmay.2 with ⟨_,_,q1,q2⟩ | ⟨q,_⟩
    ·rw [<-hm.2.1];exact⟨q1,q2⟩
    ·have:=hm.2.2.1;omega
   simp only [show decide (a.s.st=Int.ofNat 1)=true from decide_eq_true c1,aH,dC,Option.isSome_some,w3,dG];by_cases c2:0<=w.vl
   ·simp only [show decide (Int.ofNat 0<=w.vl)=true from decide_eq_true c2,aH,dC,aP,aO,w3,m4,aI,decide_eq_true hvl.2,w4]
    refine IK hM hx2 ⟨_,g.row,g.lv⟩ i ?_;simp only [gB,w3,m4,m5,cZ];cases c3:a.agreed w.vl 3 w.tx with
    | false=>
     rw [bP];exact no (by unfold Ba.rule Ba.old;simp only [hp];rw [if_neg (by simp [c3])];rfl)
    | true=>
     simp only [cO];refine g.step hx2.less fun S2 g2=>?_;have r9:∀{K:KV},aE (.ptr b 9) S2 K=K (.int .i64 a.s.mW) S2:=aJ g2.row;have r7:∀{K:KV},aE (.ptr b 7) S2 K=K (.str a.s.lock) S2:=aJ g2.row;obtain⟨_,_,_,wb3,wb4⟩:=rO g2.vo;have wb3:∀{K:KV},aE (.ptr j 3) S2 K=K (.int .i64 w.vl) S2:=wb3;have wb4:∀{K:KV},aE (.ptr j 4) S2 K=K (.str w.tx) S2:=wb4
     have e4:a.rule want may 3=Ba.yes (a.iT w.tx (decide (a.s.mW<=w.vl))):=by
      unfold Ba.rule Ba.old;simp only [hp];rw [if_pos (by simp [c1,c3];omega)]
     have fy:∀{y:Ba×List Mg},a.iT w.tx (decide (a.s.mW<=w.vl))=y->a.from_ want may 4 3=Ba.yes y:=fun q=>((uK (by rw [e4];rfl)).trans e4).trans (by rw [q]);have i2:cA (a.to 2):=i.to (by decide) (by decide);simp only [r9,wb3,pU];by_cases c4:a.s.mW<=w.vl
     ·simp only [decide_eq_true c4]
      repeat with_reducible (first | refine fO ?_ | refine fI ?_ | refine gJ ?_ | refine fP ?_ | refine fJ ?_ | refine pS ?_)
      simp only [wb4];exact sG (r:=a.from_ want may 4 3) hM hx g2.but g2.rb i2 hk (fy (by rw [IL,decide_eq_true c4];rfl))
     ·simp only [decide_eq_false c4,aH,aP,aO,r7,wb4,gL,eA]
      by_cases c5:a.s.lock=w.tx
      ·simp only [decide_eq_true c5,cO]
       exact sG (r:=a.from_ want may 4 3) hM hx g2.but g2.rb i2 hk (fy (by rw [IL,decide_eq_true c5,Bool.or_true];rfl))
      ·simp only [decide_eq_false c5,bP]
       exact sG (r:=a.from_ want may 4 3) hM hx g2.but g2.rb i2 hk (fy (by rw [IL,decide_eq_false c5,decide_eq_false c4];rfl))
   ·rw [show decide (Int.ofNat 0<=w.vl)=false from decide_eq_false c2]
    repeat with_reducible (first | refine fO ?_ | refine fI ?_ | refine gJ ?_ | refine fP ?_ | refine fJ ?_ | refine lS ?_ | refine qB ?_ | refine uZ ?_)
    simp only [gB,w3,m5,cZ]
    repeat with_reducible (first | refine fO ?_ | refine fI ?_ | refine gJ ?_ | refine fP ?_ | refine fJ ?_ | refine lS ?_ | refine qB ?_ | refine uZ ?_)
    exact no (by unfold Ba.rule Ba.old;simp only [hp];rw [if_neg (by simp;omega)];rfl)
 ·rw [show decide (a.s.st=Int.ofNat 1)=false from decide_eq_false c1]
  repeat with_reducible (first | refine fO ?_ | refine fI ?_ | refine gJ ?_ | refine fP ?_ | refine fJ ?_ | refine lS ?_ | refine qB ?_ | refine uZ ?_)
  simp only [m5,cZ]
  repeat with_reducible (first | refine fO ?_ | refine fI ?_ | refine gJ ?_ | refine fP ?_ | refine fJ ?_ | refine lS ?_ | refine qB ?_ | refine uZ ?_)
  refine no ?_;unfold Ba.rule Ba.old;cases hp:a.pr a.s.rd with
  | none=>rfl
  | some w=>simp only;rw [if_neg (by simp [c1])];rfl
theorem aBW{want:List UInt8}{may:List (List UInt8)}{t2:V} (hM:100000<M) (hx:Deep PP bM gT M (n+4) x) (g:Lk S b j v a.l ((a.pr a.s.rd).getD tG) S a.s) (i:cA a) (hmay:Sv S t2 may) (hml:may.length<=100000) (hk:XO S b (a.from_ want may 5 2).1 (WF K (a.from_ want may 5 2))):aFe x (.ptr b 0) (.str want) t2 (.bool (a.pr a.s.rd).isSome) (.ptr j 0) S K:=by
 unfold aFe;obtain⟨m0,m1,m2,m3,m4,m5,m6,m7,m8,m9,m10,m11,m12,m13,m14⟩:=fX g.row;obtain⟨w0,w1,w2,w3,w4⟩:=rO g.vo;have hx2:Deep PP bM gT M (n+2+2) x:=hx;have hx3:Deep PP bM gT M (n+3+1) x:=hx
 have no:(a.rule want may 2).2.2=false->aBC x (.ptr b 0) (.str want) t2 (.bool (a.pr a.s.rd).isSome) (.ptr j 0) S K:=fun e=>by
  rw [BS e]at hk;exact aBV hM hx g i hk
 simp only [aP,aO,m5,bW,bD];by_cases c1:a.s.st=1
 ·cases hp:a.pr a.s.rd with
  | none=>
   rw [hp]at no;simp only [show decide (a.s.st=Int.ofNat 1)=true from decide_eq_true c1,aH,dC,Option.isSome_none]
   repeat with_reducible (first | refine fO ?_ | refine fI ?_ | refine gJ ?_ | refine fP ?_ | refine fJ ?_ | refine lS ?_)
   exact no (by unfold Ba.rule Ba.fresh;simp only [hp];rfl)
  | some w=>
   have w3:∀{K:KV},aE (.ptr j 3) S K=K (.int .i64 w.vl) S:=fun {K}=>by rw [w3,hp];rfl
   have w4:∀{K:KV},aE (.ptr j 4) S K=K (.str w.tx) S:=fun {K}=>by rw [w4,hp];rfl
   rw [hp]at g no;simp only [show decide (a.s.st=Int.ofNat 1)=true from decide_eq_true c1,aH,dC,Option.isSome_some,w3,bW];by_cases c2:w.vl= -1
   ·simp only [show decide (w.vl=Int.negSucc 0)=true from decide_eq_true c2,aH,dC,w4]
    refine ZB hM hx3 hmay hml ?_;cases c3:may.contains w.tx with
    | false=>
     rw [bP];exact no (by unfold Ba.rule Ba.fresh;simp only [hp];rw [if_neg (by rw [c3,Bool.and_false];simp)];rfl)
    | true=>
     simp only [cO];refine g.step hx2.less fun S2 g2=>?_;have r7:∀{K:KV},aE (.ptr b 7) S2 K=K (.str a.s.lock) S2:=aJ g2.row;obtain⟨_,_,_,_,wb4⟩:=rO g2.vo;have wb4:∀{K:KV},aE (.ptr j 4) S2 K=K (.str w.tx) S2:=wb4
     have e3:a.rule want may 2=Ba.yes (a.iT w.tx (decide (a.s.lock=[]))):=by
      unfold Ba.rule Ba.fresh;simp only [hp];rw [if_pos (by rw [c3,decide_eq_true c1,decide_eq_true c2];rfl)]
     have fy:∀{y:Ba×List Mg},a.iT w.tx (decide (a.s.lock=[]))=y->a.from_ want may 5 2=Ba.yes y:=fun q=>((uK (by rw [e3];rfl)).trans e3).trans (by rw [q]);have i2:cA (a.to 2):=i.to (by decide) (by decide);simp only [r7,gL];by_cases c4:a.s.lock=[]
     ·simp only [decide_eq_true c4]
      repeat with_reducible (first | refine fO ?_ | refine fI ?_ | refine gJ ?_ | refine fP ?_ | refine fJ ?_ | refine pS ?_)
      simp only [wb4];exact sG (r:=a.from_ want may 5 2) hM hx g2.but g2.rb i2 hk (fy (by rw [IL,decide_eq_true c4];rfl))
     ·simp only [decide_eq_false c4,aH,aP,aO,r7,wb4,gL,eA]
      by_cases c5:a.s.lock=w.tx
      ·simp only [decide_eq_true c5,cO]
       exact sG (r:=a.from_ want may 5 2) hM hx g2.but g2.rb i2 hk (fy (by rw [IL,decide_eq_true c5,Bool.or_true];rfl))
      ·simp only [decide_eq_false c5,bP]
       exact sG (r:=a.from_ want may 5 2) hM hx g2.but g2.rb i2 hk (fy (by rw [IL,decide_eq_false c5,decide_eq_false c4];rfl))
   ·rw [show decide (w.vl=Int.negSucc 0)=false from decide_eq_false c2]
    repeat with_reducible (first | refine fO ?_ | refine fI ?_ | refine gJ ?_ | refine fP ?_ | refine fJ ?_ | refine lS ?_)
    exact no (by unfold Ba.rule Ba.fresh;simp only [hp];rw [if_neg (by rw [decide_eq_false c2];simp)];rfl)
 ·rw [show decide (a.s.st=Int.ofNat 1)=false from decide_eq_false c1]
  repeat with_reducible (first | refine fO ?_ | refine fI ?_ | refine gJ ?_ | refine fP ?_ | refine fJ ?_ | refine lS ?_)
  refine no ?_;unfold Ba.rule Ba.fresh;cases hp:a.pr a.s.rd with
  | none=>rfl
  | some w=>simp only;rw [if_neg (by simp [c1])];rfl
end
set_option maxRecDepth 4000
theorem aBX{zs:List Int} (hs:zs.Pairwise fun u w=>u<=w):∀j,j<=zs.length->(dq zs j).Pairwise (fun u w=>u<w)/\∀z,z∈dq zs j↔∃i,i<j/\zs[i]? =some z:=by
 intro j;induction j with
 | zero=>intro _;exact⟨.nil,fun z=>⟨fun h=>(List.not_mem_nil h).elim,fun⟨i,h,_⟩=>absurd h (by omega)⟩⟩
 | succ j ih=>
  intro hj;obtain⟨h1,h2⟩:=ih (by omega);have hjl:j<zs.length:=by omega
  have ej:zs.getD j 0=zs[j]:=DA hjl;by_cases hk:kp zs j=true
  ·have e:dq zs (j+1)=dq zs j++[zs[j]]:=by rw [<-ej];conv=>lhs;unfold dq
                                           rw [if_pos hk]
   rw [e];refine⟨List.pairwise_append.2 ⟨h1,List.pairwise_singleton _ _,fun u hu w hw=>?_⟩,fun z=>?_⟩
   ·simp at hw;subst hw
    obtain⟨i,hi,hz⟩:=(h2 u).1 hu;have hil:=(List.getElem?_eq_some_iff.1 hz).1;have hz2:=(List.getElem?_eq_some_iff.1 hz).2;have hp:j-1<zs.length:=by omega
    have hne:zs[j]≠zs[j-1]:=fun q=>by
     unfold kp at hk;rw [ej,DA hp,decide_eq_true q,decide_eq_false (by omega)]at hk;cases hk
    have a1:zs[j-1]<=zs[j]:=List.pairwise_iff_getElem.1 hs (j-1) j hp hjl (by omega)
    have a2:u<=zs[j-1]:=by
     by_cases e2:i=j-1
     ·subst e2;rw [<-hz2];exact Int.le_refl _
     ·rw [<-hz2];exact List.pairwise_iff_getElem.1 hs i (j-1) hil hp (by omega)
    omega
   ·rw [List.mem_append,h2]
    constructor
    ·rintro(⟨i,hi,hz⟩ | hz)
     ·exact⟨i,by omega,hz⟩
     ·simp at hz;exact⟨j,by omega,by rw [hz];exact List.getElem?_eq_getElem hjl⟩
    ·rintro⟨i,hi,hz⟩
     by_cases e2:i=j
     ·subst e2;rw [List.getElem?_eq_getElem hjl]at hz;injection hz with hz;right;simp [hz]
     ·exact .inl ⟨i,by omega,hz⟩
  ·have e:dq zs (j+1)=dq zs j:=by
    conv=>lhs;unfold dq
    rw [if_neg hk]
   rw [e];refine⟨h1,fun z=>?_⟩;rw [h2];constructor
   ·rintro⟨i,hi,hz⟩;exact⟨i,by omega,hz⟩
   ·rintro⟨i,hi,hz⟩
    by_cases e2:i=j
    ·subst e2
     unfold kp at hk;have h0:i≠0:=fun q=>hk (by rw [decide_eq_true q];rfl);have hp:i-1<zs.length:=by omega
     rw [ej,DA hp,decide_eq_false h0]at hk
     have:zs[i]=zs[i-1]:=by
      by_cases q:zs[i]=zs[i-1]
      ·exact q
      ·exact absurd (by rw [decide_eq_false q];rfl) hk
     refine⟨i-1,by omega,?_⟩;rw [List.getElem?_eq_getElem hp,<-this,<-hz];exact(List.getElem?_eq_getElem hjl).symm
    ·exact⟨i,by omega,hz⟩
theorem cA.tE{a:Ba} (i:cA a):a.rounds.Pairwise (fun u w=>u<w)/\∀r,r∈a.rounds↔∃v∈a.l,v.rd=r:=by
 have hs:(a.l.map (·.rd)).Pairwise fun u w=>u<=w:=by
  rw [List.pairwise_map];exact i.HI.imp fun {u w} h=>by rw [lt_iff]at h;omega
 obtain⟨h1,h2⟩:=aBX hs _ (Nat.le_refl _);refine⟨h1,fun r=>(h2 r).trans ?_⟩;constructor
 ·rintro⟨k,hk,hz⟩
  have:=List.mem_of_getElem? hz;obtain⟨v,hv,e⟩:=List.mem_map.1 this;exact⟨v,hv,e⟩
 ·rintro⟨v,hv,e⟩
  have:r∈a.l.map (·.rd):=List.mem_map.2 ⟨v,hv,e⟩;obtain⟨k,hk⟩:=List.getElem?_of_mem this;exact⟨k,(List.getElem?_eq_some_iff.1 hk).1,hk⟩
theorem Zk{α:Type}{f:Int->Option α}{L:List Int} (hp:L.Pairwise fun u w=>u<w){r:Int}{y:α} (hr:r∈L) (hf:f r=some y) (hn:∀q∈L,q<r->f q=none):L.findSome? f=some y:=by
 obtain⟨l1,l2,rfl⟩:=List.append_of_mem hr;rw [List.findSome?_append]
 have:l1.findSome? f=none:=by
  rw [List.findSome?_eq_none_iff];intro q hq;exact hn q (List.mem_append_left _ hq) ((List.pairwise_append.1 hp).2.2 q hq r (.head _))
 rw [this,List.findSome?_cons,hf];rfl
theorem aBY{p:Int->Bool}{L:List Int} (hp:L.Pairwise fun u w=>u<w){r:Int} (hr:r∈L) (hf:p r=true) (hn:∀q∈L,r<q->p q=false):L.reverse.find? p=some r:=by
 obtain⟨l1,l2,rfl⟩:=List.append_of_mem hr;rw [List.reverse_append,List.reverse_cons,List.append_assoc,List.find?_append]
 have:l2.reverse.find? p=none:=by
  rw [List.find?_eq_none];intro q hq;have hq:=List.mem_reverse.1 hq;have:=(List.pairwise_cons.1 (List.pairwise_append.1 hp).2.1).1 q hq;rw [hn q (List.mem_append_right _ (.tail _ hq)) this];simp
 rw [this];simp [hf]
theorem Sg{a:Ba} (i:cA a){r:Int}{tx:List UInt8} (h:a.nO r=some tx):r∈a.rounds:=by
 unfold Ba.nO at h;cases hp:a.pr r with
 | none=>rw [hp]at h;cases h
 | some v=>
  have:=i.HJ hp;exact(i.tE.2 r).2 ⟨v,this.1,this.2.1⟩
theorem Sh{a:Ba} (i:cA a){r:Int} (h:a.skips r=true):r∈a.rounds:=by
 unfold Ba.skips at h;simp only [Bool.and_eq_true,decide_eq_true_eq]at h;have hok:=i.ok;unfold Do at hok;have h0:0<a.sent r:=by omega
 unfold Ba.sent mO at h0;obtain⟨k,hk⟩:=List.exists_mem_of_length_pos h0;obtain⟨v,hv,q⟩:=List.any_eq_true.1 (List.mem_filter.1 hk).2;simp only [Bool.and_eq_true,decide_eq_true_eq]at q;exact(i.tE.2 r).2 ⟨v,hv,q.1⟩
section
variable{M n b j tt:Nat}{x:VE}{S S' S0:Hp}{K:KV}{a:Ba}{v:V}
theorem aFo{want:List UInt8}{may:List (List UInt8)}{t2:V} (hM:100000<M) (hx:Deep PP bM gT M (n+4) x) (k:RB S b a) (i:cA a) (hmay:Sv S t2 may) (hml:may.length<=100000) (hk:XO S b (a.from_ want may 5 2).1 (WF K (a.from_ want may 5 2))):aBD x (.ptr b 0) (.str want) t2 S K:=by
 unfold aBD;obtain⟨v,hb,hl⟩:=k.row;have m4:∀{K:KV},aE (.ptr b 4) S K=K (.int .i64 a.s.rd) S:=aJ hb;have hx2:Deep PP bM gT M (n+2+2) x:=hx;have hrd:=i.rd;simp only [aP,aO,m4];refine RA hM hx2 k i (by omega) ?_;simp only [oZ,pA];refine cG (l:=tG.vv) rfl fun j hj=>?_;refine gE upd_same (by rfl) (by rfl) (by rfl) ?_;rw [cP];have le1:dL S (upd S j (.row ((a.pr a.s.rd).getD tG).vv 49)):= .aV hj;refine aBW hM hx ⟨le1 _ _ hb,upd_same,.refl,hl.hle le1⟩ i ?_ hml (hk.mono le1.but);rcases hmay.is with h | h | ⟨q,h1,h2⟩
 ·exact⟨.inl h⟩
 ·exact⟨.inr (.inl h)⟩
 ·exact⟨.inr (.inr ⟨q,h1,le1 _ _ h2⟩)⟩
theorem Zl{want:List UInt8}{may:List (List UInt8)}{t2:V}{N:Int} (hM:100000<M) (hx:Deep PP bM gT M (n+4) x) (k:RB S b a) (i:cA a) (hb:S b=some (.row (aU a.s v) 24)) (hl:Lv S v a.l) (ht:S tt=some (.row [.int .i64 N,v] 74)) (hmay:Sv S t2 may) (hml:may.length<=100000) (hk:XO S b (a.from_ want may 6 1).1 (WF K (a.from_ want may 6 1))):
 ∀(q:Nat) (r:Int),r<=a.s.rd+q->r<=99->a.s.rd<=r->(∀r',r<r'->r'<=99->a.skips r'=false)->dM x (q+1) (.ptr b 0) (.str want) t2 (.ptr tt 0) (.int .i64 r) S K:=by
 obtain⟨m0,m1,m2,m3,m4,m5,m6,m7,m8,m9,m10,m11,m12,m13,m14⟩:=fX hb;have hx2:Deep PP bM gT M (n+3+1) x:=hx;have hrd:=i.rd;have hok:=i.ok;unfold Do at hok;have hlen:=i.len;have hnn:=i.nn
 have fin:∀r:Int,¬a.s.rd<r->(∀r',r<r'->r'<=99->a.skips r'=false)->aBD x (.ptr b 0) (.str want) t2 S K:=fun r h1 h2=>by
  have:a.rounds.reverse.find? a.skips=none:=by
   rw [List.find?_eq_none];intro q hq;have hq:=List.mem_reverse.1 hq;have h3:=i.sU hq;by_cases e:r<q
   ·rw [h2 q e h3.2];simp
   ·unfold Ba.skips;rw [decide_eq_false (by omega)];simp
  rw [BS (by unfold Ba.rule Ba.skip;simp only [this];rfl)]at hk;exact aFo hM hx k i hmay hml hk
 intro q;induction q with
 | zero=>
  intro r h1 h2 h3 h4;rw [Hq];refine aN ?_;have hlt:¬a.s.rd<r:=by omega
  simp only [aP,aO,m4,dN,decide_eq_false hlt,bP];exact fin r hlt h4
 | succ q ih=>
  intro r h1 h2 h3 h4;rw [Hq];refine aN ?_;by_cases hlt:a.s.rd<r
  ·simp only [aP,aO,m4,dN,decide_eq_true hlt,cO,m2]
   refine aBO (nn:=a.s.n.toNat) hM hx2 ht hl (by omega) (by omega) i.HI i.Ok ?_;simp only [m2,cZ,dN];by_cases hs:a.s.t<(a.sent r:Int)
   ·rw [show decide (a.s.t<Int.ofNat (mO (fun v=>decide (v.rd=r)) a.s.n.toNat a.l))=true from decide_eq_true hs,cO]
    have hsk:a.skips r=true:=by unfold Ba.skips;rw [decide_eq_true hlt,decide_eq_true hs];rfl
    have hfind:a.rounds.reverse.find? a.skips=some r:=aBY i.tE.1 (Sh i hsk) hsk fun q hq hrq=>h4 q hrq (i.sU hq).2;have e2:a.rule want may 1=(a.sS r,[],true):=by unfold Ba.rule Ba.skip;simp only [hfind]
    have e3:a.from_ want may 6 1=(a.sS r,[],true):=(uK (by rw [e2])).trans e2;rw [e3]at hk;refine Hr (n:=n+2) hx hb ?_;exact HK (hk _ .upd (k.mk2 hb hl)) rfl rfl
   ·rw [show decide (a.s.t<Int.ofNat (mO (fun v=>decide (v.rd=r)) a.s.n.toNat a.l))=false from decide_eq_false hs,bP,lV,wrap_small (by simp;omega) (by simp;omega)]
    refine ih (r-1) (by omega) (by omega) (by omega) fun r' g1 g2=>?_;by_cases e:r'=r
    ·subst e;unfold Ba.skips;rw [decide_eq_false hs,Bool.and_false]
    ·exact h4 r' (by omega) g2
  ·simp only [aP,aO,m4,dN,decide_eq_false hlt,bP]
   exact fin r hlt h4
theorem aBZ{want:List UInt8}{may:List (List UInt8)}{t2:V}{N:Int} (hM:100000<M) (hx:Deep PP bM gT M (n+4) x) (k:RB S b a) (i:cA a) (hb:S b=some (.row (aU a.s v) 24)) (hl:Lv S v a.l) (ht:S tt=some (.row [.int .i64 N,v] 74)) (hmay:Sv S t2 may) (hml:may.length<=100000) (hk:XO S b (a.from_ want may a.mine 0).1 (WF K (a.from_ want may a.mine 0))):
 ∀(q r:Nat) (S1:Hp),100<=r+q->r<=100->(∀r':Int,r'<r->0<=r'->a.nO r'=none)->dL S S1->iM x (q+1) (.ptr b 0) (.str want) t2 (.ptr tt 0) (.int .i64 (.ofNat r)) S1 K:=by
 obtain⟨m0,m1,m2,m3,m4,m5,m6,m7,m8,m9,m10,m11,m12,m13,m14⟩:=fX hb;have hx2:Deep PP bM gT M (n+2+2) x:=hx;have hm:x.most=M:=hx.most;have hrd:=i.rd;have fin:∀r:Nat,100<=r->(∀r':Int,r'<r->0<=r'->a.nO r'=none)->(aF PP .eql 3 (.int .i64 a.s.me) (.int .i64 (.ofNat 0)) fun v22=>
 fC v22 (aS (.tuple [.nil,(.bool false)]) S K) (dM x x.most (.ptr b 0) (.str want) t2 (.ptr tt 0) (.int .i64 (.ofNat 99)) S K)):=fun r h1 h2=>by
  have hn:a.rounds.findSome? a.nO=none:=by
   rw [List.findSome?_eq_none_iff];intro z hz;have:=i.sU hz;exact h2 z (by omega) this.1
  have e1:(a.rule want may 0).2.2=false:=by unfold Ba.rule Ba.rA;simp only [hn];rfl
  rw [bW];unfold Ba.mine at hk;by_cases c:a.s.me=0
  ·rw [if_pos c,BS e1]at hk
   rw [show decide (a.s.me=Int.ofNat 0)=true from decide_eq_true c,cO];exact HK (hk S .refl k) rfl rfl
  ·rw [if_neg c,BS e1]at hk
   rw [show decide (a.s.me=Int.ofNat 0)=false from decide_eq_false c,bP];obtain⟨p,hp⟩:=Nat.exists_eq_succ_of_ne_zero (show x.most≠0 by omega);rw [hp];exact Zl hM hx k i hb hl ht hmay hml hk p 99 (by omega) (by omega) (by omega) fun r' g1 g2=>absurd g1 (by omega)
 intro q;induction q with
 | zero=>
  intro r S1 h1 h2 h3 hle;rw [sC];unfold nX;refine lE S hle ?_;simp only [aI,nB (show ¬r<100 by omega),bP,aP,aO,m3];exact fin r (by omega) h3
 | succ q ih=>
  intro r S1 h1 h2 h3 hle;rw [sC];unfold nX;refine lE S hle ?_;by_cases hr:r<100
  ·rw [aI,LR hr,cO]
   refine RA hM hx2 k i ⟨Int.natCast_nonneg _,by show(r:Int)<=1000000;omega⟩ ?_;simp only [oZ,pA];refine cG (l:=tG.vv) rfl fun j hj=>?_;refine gE upd_same (by rfl) (by rfl) (by rfl) ?_;rw [cP];have le1:dL S (upd S j (.row ((a.pr (Int.ofNat r)).getD tG).vv 49)):= .aV hj;have rj:upd S j (.row ((a.pr (Int.ofNat r)).getD tG).vv 49) j=some (.row ((a.pr (Int.ofNat r)).getD tG).vv 49):=upd_same;generalize upd S j (.row ((a.pr (Int.ofNat r)).getD tG).vv 49)=S2 at le1 rj
   have nx:a.nO (Int.ofNat r)=none->aF PP .add 3 (.int .i64 (.ofNat r)) (.int .i64 (.ofNat 1)) fun v18=>iM x (q+1) (.ptr b 0) (.str want) t2 (.ptr tt 0) v18 S2 K:=fun e=>by
    rw [bA,fF (by omega)];refine ih (r+1) S2 (by omega) (by omega) (fun r' g1 g2=>?_) le1;by_cases e2:r'=r
    ·subst e2;exact e
    ·exact h3 r' (by omega) g2
   obtain⟨_,_,_,_,w4⟩:=rO rj;cases hp:a.pr (Int.ofNat r)with
   | none=>
    simp only [Option.isSome_none,bD]
    repeat with_reducible (first | refine fO ?_ | refine fI ?_ | refine gJ ?_ | refine fP ?_ | refine fJ ?_ | refine lS ?_)
    exact nx (by unfold Ba.nO;simp only [hp])
   | some w=>
    have w4:∀{K:KV},aE (.ptr j 4) S2 K=K (.str w.tx) S2:=fun {K}=>by rw [w4,hp];rfl
    simp only [Option.isSome_some,bD,aH,aO,w4,dC];refine IK hM hx2 (k.hle le1) i ?_;cases ha:a.agreed (Int.ofNat r) 4 w.tx with
    | false=>
     rw [bP];exact nx (by unfold Ba.nO;simp only [hp];rw [if_neg (by rw [ha];simp)])
    | true=>
     have hd:a.nO (Int.ofNat r)=some w.tx:=by unfold Ba.nO;simp only [hp];rw [if_pos ha]
     have hf:a.rounds.findSome? a.nO=some w.tx:=Zk i.tE.1 (Sg i hd) hd fun q hq hqr=>h3 q hqr (i.sU hq).1;have e1:a.rule want may 0=(⟨{a.s with dec:=w.tx},a.l⟩,[],true):=by unfold Ba.rule Ba.rA;simp only [hf]
     have Hn:∃m',a.mine=m'+1:=by unfold Ba.mine;split<;>exact⟨_,rfl⟩
     obtain⟨m',hm'⟩:=Hn;have e3:a.from_ want may a.mine 0=(⟨{a.s with dec:=w.tx},a.l⟩,[],true):=by rw [hm'];exact(uK (by rw [e1])).trans e1
     rw [e3]at hk;simp only [cO,w4,aP,aO];refine dQ (le1 _ _ hb) rfl (by simp [aU]) ?_;exact HK (hk _ (le1.but.trans .upd) ((k.hle le1).mk2 (s:={a.s with dec:=w.tx}) (le1 _ _ hb) (hl.hle le1))) rfl rfl
  ·simp only [aI,nB hr,bP,aP,aO,m3]
   exact fin r (by omega) h3
theorem aGE{want:List UInt8}{may:List (List UInt8)}{t2:V} (hM:100000<M) (hx:Deep PP bM gT M (n+5) x) (k:RB S b a) (i:cA a) (hmay:Sv S t2 may) (hml:may.length<=100000) (hk:XO S b (a.from_ want may a.mine 0).1 (WF K (a.from_ want may a.mine 0))):x.call kW [.ptr b 0,.str want,t2] S K:=by
 refine hx.call aFl fun y hy=>?_;rw [NT];unfold BO;obtain⟨v,hb,hl⟩:=k.row;refine NZ (n:=n+3) hy hb hl fun tt htt=>?_;have le1:dL S (upd S tt (.row [.int .i64 a.s.n,v] 74)):= .aV htt;have hm:y.most=M:=hy.most;obtain⟨p,hp⟩:=Nat.exists_eq_succ_of_ne_zero (show y.most≠0 by omega);rw [hp];refine aBZ hM hy (k.hle le1) i (le1 _ _ hb) (hl.hle le1) upd_same ?_ hml (hk.mono le1.but) p 0 _ (by omega) (by omega) (fun r' g1 g2=>absurd g1 (by simp;omega)) (.refl _);rcases hmay.is with h | h | ⟨q,h1,h2⟩
 ·exact⟨.inl h⟩
 ·exact⟨.inr (.inl h)⟩
 ·exact⟨.inr (.inr ⟨q,h1,le1 _ _ h2⟩)⟩
end
set_option maxRecDepth 100000
noncomputable def tkD (x:VE) (a0 a1 a2 v49:V) (S:Hp) (K:KV):Prop:=
 aQ PP a0 fun RT=>
 aD 5 RT fun Ha=>
 aE Ha S fun Hb S=>
 aF PP .eql 3 Hb (.int .i64 (.ofNat 3)) fun xG=>
 aC x.most (aB true xG (fun k=>k v49 S) S fun Ko S=>
 aC x.most (aB true xG (fun k=>k a0 S) S fun Nq S=>
 aC x.most (aB true xG (fun k=>aQ PP Nq fun PQ=>
 k PQ S) S fun UW S=>
 aC x.most (aB true xG (fun k=>aD 4 UW fun UX=>
 k UX S) S fun UY S=>
 aC x.most (aB true xG (fun k=>aE UY S fun UZ S=>
 k UZ S) S fun v105 S=>
 aC x.most (aB true xG (fun k=>k a0 S) S fun Cf S=>
 aC x.most (aB true xG (fun k=>aQ PP Cf fun v107=>
 k v107 S) S fun VB S=>
 aC x.most (aB true xG (fun k=>aD 1 VB fun v109=>
 k v109 S) S fun PR S=>
 aC x.most (aB true xG (fun k=>aE PR S fun VC S=>
 k VC S) S fun tZ S=>
 aC x.most (aB true xG (fun k=>k a0 S) S fun VD S=>
 aC x.most (aB true xG (fun k=>aQ PP VD fun VF=>
 k VF S) S fun VG S=>
 aC x.most (aB true xG (fun k=>aD 2 VG fun IV=>
 k IV S) S fun v117 S=>
 aC x.most (aB true xG (fun k=>aE v117 S fun VH S=>
 k VH S) S fun LA S=>
 aC x.most (aB true xG (fun k=>aF PP .sub 3 tZ LA fun VI=>
 k VI S) S fun Cg S=>
 aC x.most (aB true xG (fun k=>x.call eJ [Ko,v105,(.int .u8 (.ofNat 4))] S fun Ci S=>
 k Ci S) S fun Cj S=>
 aC x.most (bN true xG LA (fun k=>aE v117 S fun v124 _=>
 aY v124 LA k) (aC x.most (bN true xG tZ (fun k=>aE PR S fun Ck _=>
 aY Ck tZ k) (aE Ha S fun Cl _=>
 aY Cl Hb (aC x.most (aB true xG (fun k=>aF PP .geq 3 Cj Cg fun v127=>
 k v127 S) S fun Cm S=>
 aC x.most (aL xG Cm (.bool false) fun ES=>
 aC x.most (aB true ES (fun k=>k a0 S) S fun v130 S=>
 aC x.most (aB true ES (fun k=>aQ PP v130 fun v131=>
 k v131 S) S fun VJ S=>
 aC x.most (aB true ES (fun k=>aD 4 VJ fun VL=>
 k VL S) S fun VM S=>
 aC x.most (aB true ES (fun k=>aE VM S fun Cn S=>
 k Cn S) S fun BW S=>
 aC x.most (aB true ES (fun k=>aF PP .lss 3 BW (.int .i64 (.ofNat 99)) fun Co=>
 k Co S) S fun v138 S=>
 aC x.most (aL ES v138 (.bool false) fun v139=>
 fC v139 (aQ PP a0 fun Cp=>
 aD 4 Cp fun v141=>
 aE v141 S fun Cq S=>
 aF PP .add 3 Cq (.int .i64 (.ofNat 1)) fun v143=>
 x.call gR [a0,v143] S fun Kp S=>
 aW x a0 a1 a2 .nil S K) (aW x a0 a1 a2 .nil S K)))))))))))))))))))))))))))))
noncomputable def tkC (x:VE) (a0 a1 a2 v49:V) (S:Hp) (K:KV):Prop:=
 aQ PP a0 fun v56=>
 aD 5 v56 fun v57=>
 aE v57 S fun v58 S=>
 aF PP .eql 3 v58 (.int .i64 (.ofNat 2)) fun v59=>
 aC x.most (aB true v59 (fun k=>k v49 S) S fun v60 S=>
 aC x.most (aB true v59 (fun k=>k a0 S) S fun v61 S=>
 aC x.most (aB true v59 (fun k=>aQ PP v61 fun v62=>
 k v62 S) S fun v63 S=>
 aC x.most (aB true v59 (fun k=>aD 4 v63 fun v64=>
 k v64 S) S fun v65 S=>
 aC x.most (aB true v59 (fun k=>aE v65 S fun v66 S=>
 k v66 S) S fun v67 S=>
 aC x.most (aB true v59 (fun k=>k a0 S) S fun v68 S=>
 aC x.most (aB true v59 (fun k=>aQ PP v68 fun v69=>
 k v69 S) S fun v70 S=>
 aC x.most (aB true v59 (fun k=>aD 1 v70 fun v71=>
 k v71 S) S fun v72 S=>
 aC x.most (aB true v59 (fun k=>aE v72 S fun v73 S=>
 k v73 S) S fun v74 S=>
 aC x.most (aB true v59 (fun k=>k a0 S) S fun v75 S=>
 aC x.most (aB true v59 (fun k=>aQ PP v75 fun v76=>
 k v76 S) S fun v77 S=>
 aC x.most (aB true v59 (fun k=>aD 2 v77 fun v78=>
 k v78 S) S fun v79 S=>
 aC x.most (aB true v59 (fun k=>aE v79 S fun v80 S=>
 k v80 S) S fun v81 S=>
 aC x.most (aB true v59 (fun k=>aF PP .sub 3 v74 v81 fun v82=>
 k v82 S) S fun v83 S=>
 aC x.most (aB true v59 (fun k=>x.call eJ [v60,v67,(.int .u8 (.ofNat 3))] S fun v84 S=>
 k v84 S) S fun v85 S=>
 aC x.most (bN true v59 v81 (fun k=>aE v79 S fun v86 _=>
 aY v86 v81 k) (aC x.most (bN true v59 v74 (fun k=>aE v72 S fun v87 _=>
 aY v87 v74 k) (aE v57 S fun Ce _=>
 aY Ce v58 (aC x.most (aB true v59 (fun k=>aF PP .geq 3 v85 v83 fun v89=>
 k v89 S) S fun Km S=>
 aC x.most (aL v59 Km (.bool false) fun v91=>
 fC v91 (x.call bK [a0,(.int .i64 (.ofNat 3))] S fun Ri S=>
 x.call aZ [a0,(.int .u8 (.ofNat 4)),(.int .i64 (.ofNat 0)),(.str [])] S fun v93 S=>
 aW x a0 a1 a2 v93 S K) (tkD x a0 a1 a2 v49 S K)))))))))))))))))))))))
noncomputable def tkB (x:VE) (a0 a1 a2:V) (S:Hp) (K:KV):Prop:=
 x.call fN [a0] S fun v49 S=>
 aQ PP a0 fun v50=>
 aD 5 v50 fun v51=>
 aE v51 S fun v52 S=>
 aF PP .eql 3 v52 (.int .i64 (.ofNat 1)) fun v53=>
 fC v53 (x.call bK [a0,(.int .i64 (.ofNat 2))] S fun v54 S=>
 x.call aZ [a0,(.int .u8 (.ofNat 3)),(.int .i64 (.ofNat 0)),(.str [])] S fun v55 S=>
 aW x a0 a1 a2 v55 S K) (tkC x a0 a1 a2 v49 S K)
noncomputable def tkA (x:VE) (a0 a1 a2:V) (S:Hp) (K:KV):Prop:=
 aQ PP a0 fun v33=>
 aD 6 v33 fun v34=>
 aE v34 S fun v35 S=>
 aF PP .add 3 v35 (.int .i64 (.ofNat 1)) fun v36=>
 Bf false v36 (.int .i64 (.ofNat 1099511627776)) fun v37=>
 aQ PP a0 fun v38=>
 aD 6 v38 fun v39=>
 jK 1 v39 v37 S fun S=>
 aQ PP a0 fun v40=>
 aD 6 v40 fun v41=>
 aE v41 S fun v42 S=>
 aQ PP a0 fun v43=>
 aD 4 v43 fun v44=>
 aE v44 S fun v45 S=>
 aF PP .mul 3 (.int .i64 (.ofNat 2)) v45 fun v46=>
 aF PP .add 3 (.int .i64 (.ofNat 4)) v46 fun v47=>
 aF PP .geq 3 v42 v47 fun v48=>
 fC v48 (tkB x a0 a1 a2 S K) (aW x a0 a1 a2 .nil S K)
theorem Za (x:VE) (a0 a1 a2:V) (S:Hp) (K:KV):AJ x a0 a1 a2 S K=(aQ PP a0 fun v0=>
 aD 3 v0 fun v1=>
 aE v1 S fun v2 S=>
 aF PP .eql 3 v2 (.int .i64 (.ofNat 0)) fun v3=>
 aC x.most (aB false v3 (fun k=>k a0 S) S fun v4 S=>
 aC x.most (aB false v3 (fun k=>aQ PP v4 fun v5=>
 k v5 S) S fun v6 S=>
 aC x.most (aB false v3 (fun k=>aD 13 v6 fun v7=>
 k v7 S) S fun v8 S=>
 aC x.most (aB false v3 (fun k=>aE v8 S fun v9 S=>
 k v9 S) S fun v10 S=>
 aC x.most (aB false v3 (fun k=>aF PP .neq 9 v10 (.str []) fun v11=>
 k v11 S) S fun v12 S=>
 aC x.most (aL v3 (.bool true) v12 fun v13=>
 aC x.most (aB false v13 (fun k=>k a0 S) S fun v14 S=>
 aC x.most (aB false v13 (fun k=>aQ PP v14 fun v15=>
 k v15 S) S fun v16 S=>
 aC x.most (aB false v13 (fun k=>aD 14 v16 fun v17=>
 k v17 S) S fun v18 S=>
 aC x.most (aB false v13 (fun k=>aE v18 S fun v19 S=>
 k v19 S) S fun v20 S=>
 aC x.most (aB false v13 (fun k=>cY v20 fun v21=>
 k v21 S) S fun v22 S=>
 aC x.most (aB false v13 (fun k=>aF PP .eql 3 v22 (.int .i64 (.ofNat 0)) fun v23=>
 k v23 S) S fun v24 S=>
 aC x.most (aB false v13 (fun k=>k v24 S) S fun v25 S=>
 aC x.most (aB true v25 (fun k=>k a1 S) S fun v26 S=>
 aC x.most (aB true v25 (fun k=>aF PP .eql 9 v26 (.str []) fun v27=>
 k v27 S) S fun v28 S=>
 aC x.most (aB false v13 (fun k=>aC x.most (aL v25 v28 (.bool false) fun v29=>
 k v29 S)) S fun v30 S=>
 aC x.most (aL v13 (.bool true) v30 fun v31=>
 fC v31 (x.call gM [a0,a1,a2] S fun v32 S=>
 aS v32 S K) (tkA x a0 a1 a2 S K))))))))))))))))))):=rfl
set_option maxRecDepth 4000
theorem aGF:gT gM=none:=rfl
theorem aB0:gT jZ=none:=rfl
section
variable{M n b:Nat}{x:VE}{S S' S0:Hp}{K:KV}{a a0:Ba}{v:V}
theorem Ll{want:List UInt8}{may:List (List UInt8)}:∀(m q:Nat),(a.from_ want may m q).2.2=false->a.from_ want may m q=a.no:=by
 intro m;induction m with
 | zero=>intro q _;rfl
 | succ m ih=>
  intro q h;unfold Ba.from_ at h ⊢;by_cases e:(a.rule want may q).2.2=true
  ·rw [if_pos e]at h;rw [e]at h;cases h
  ·rw [if_neg e]at h ⊢;exact ih _ h
theorem RB.del{j:Nat}{o:Ob} (k:RB S b a) (hj:S j=some o) (h1:∀vs,o≠ .row vs 24) (h2:∀vs n,o≠ .iD vs 49 n) (h3:∀vs,o≠ .row vs 49):RB (del S j) b a:=by
 obtain⟨v,q1,q2⟩:=k.row
 have un:∀{z:Nat} {o2:Ob},S z=some o2->o2≠o->Am.del S j z=some o2:=fun {z o2} e ne=>by
  unfold Am.del;rw [if_neg (fun q=>ne (by rw [q,hj]at e;injection e with e;exact e.symm))];exact e
 refine⟨v,un q1 fun e=>h1 _ e.symm,?_⟩;rcases q2.is with ⟨rfl,e⟩ | ⟨z,rfl,e1,e2⟩ | ⟨z,rfl,e1⟩
 ·exact⟨.inl ⟨rfl,e⟩⟩
 ·exact⟨.inr (.inl ⟨z,rfl,un e1 fun e=>h3 _ e.symm,e2⟩)⟩
 ·exact⟨.inr (.inr ⟨z,rfl,un e1 fun e=>h2 _ _ e.symm⟩)⟩
theorem But.del{j:Nat} (c:But S0 S b) (h:S0 j=none):But S0 (del S j) b:=fun z o hz e=>by
 unfold Am.del;rw [if_neg (fun q=>by rw [q,h]at e;cases e)];exact c z o hz e
theorem Dm{t7:V}{vs:List V}{out:List Mg} (c:But S0 S b) (k:RB S b a) (ac:pR S0 S 45 11 t7 vs out.length) (cl:Od vs (yZ out)) (hk:XO S0 b a fun S'=>∀O,K (.list O (yZ out) out.length) S'):aS t7 S K:=by
 rcases ac.is with ⟨e1,rfl,rfl⟩ | ⟨z,rfl,h1,h2⟩
 ·have:out=[]:=List.eq_nil_of_length_eq_zero e1
  subst this;exact rU (.refl _) .nil (hk S c k)
 ·refine rU (S':=del S z) Vv (.acc h1 Ga cl.1 fun j v d e1 e2=>?_) (hk _ (c.del h2) (k.del h1 (fun _ e=>by cases e) (fun _ _ e=>by cases e) (fun _ e=>by cases e)))
  obtain⟨O,rfl⟩:=cl.2 j v d e1 e2;exact .T
theorem Si (want:List UInt8) (may:List (List UInt8)):(a.from_ want may a.mine 0).2.1.length<=1:=Ho (a:=a) want may _ _
theorem pR.aHy{S0 S:Hp}{el size bytes n m:Nat}{t:V}{vs:List V}{O:Tag}{cs:List Dt}{K:KV} (a:pR S0 S el size t vs n) (hle:∀i,S i=none->S0 i=none) (hs:0<size) (hc:cs.length=m*size) (ho:∀d∈cs,∀O,lL (T O d)=true) (hb:(n+m)*(bytes+1)<=1099511627776)
 (hk:∀t2 S2 vs2,pR S0 S2 el size t2 vs2 (n+m)->vs2=vs++Tl O 0 cs->(∀j o,S j=some o->(∀vs2 n2,o≠ .iD vs2 el n2)->S2 j=some o)->(∀j,S0 j≠none->S2 j=S j)->K t2 S2):oP el size bytes t (.list O cs m) S K:=by
 unfold oP zY;refine⟨by omega,?_⟩;rw [List.take_of_length_le (by omega)];cases m with
 | zero=>
  have hcs:cs=[]:=List.eq_nil_of_length_eq_zero (by simpa using hc);subst hcs;have h:=hk t S vs a (by simp [Tl]) (fun _ _ e _=>e) (fun _ _=>rfl);rcases a.is with ⟨rfl,rfl,_⟩ | ⟨i,rfl,_,_⟩
  ·exact h
  ·exact h
 | succ m=>
  have hall:(Tl O 0 cs).all lL=true:=by
   rw [List.all_eq_true];intro v hv;obtain⟨j,hj⟩:=List.getElem?_of_mem hv;rw [GV]at hj;cases hq:cs[j]? with
   | none=>rw [hq]at hj;cases hj
   | some d=>rw [hq]at hj;injection hj with hj;subst hj;exact ho d (List.mem_of_getElem? hq) _
  have hlen:(vs++Tl O 0 cs).length=(n+(m+1))*size:=by rw [List.length_append,EM,a.len,hc];exact(Nat.add_mul _ _ _).symm
  refine⟨hall,?_⟩;rcases a.is with ⟨rfl,rfl,rfl⟩ | ⟨i,rfl,h1,h2⟩
  ·refine⟨by simpa using hb,fun i hi=>?_⟩
   have:=hk (.acc i (0+(m+1))) (upd S i (.iD ([]++Tl O 0 cs) el (0+(m+1)))) _ ⟨.inr ⟨i,rfl,upd_same,hle i hi⟩,hlen⟩ rfl (fun j o e _=>by
    rw [aG (fun q=>by rw [q,hi]at e;cases e)];exact e) (fun j hj=>aG (fun q=>hj (by rw [q];exact hle i hi)))
   simpa using this
  ·simp only [h1]
   refine⟨trivial,trivial,a.len,hb,?_⟩;refine hk _ _ _ ⟨.inr ⟨i,rfl,upd_same,h2⟩,hlen⟩ rfl (fun j o e hg=>?_) (fun j hj=>aG (fun q=>hj (by rw [q];exact h2)));rw [aG (fun q=>by rw [q,h1]at e;injection e with e;exact hg _ _ e.symm)];exact e
theorem aFp{want:List UInt8}{may:List (List UInt8)}{Ow:Tag} (hM:100000<M) (hx:Deep PP bM gT M (n+5) x) (h0b:S0 b≠none) (hmay:may.length<=100000):
 ∀(q f:Nat) (S1:Hp) (a:Ba) (t7:V) (vs:List V) (out:List Mg),But S0 S1 b->RB S1 b a->cA a->pR S0 S1 45 11 t7 vs out.length->Od vs (yZ out)->(a.s.dec=[]->1000-a.mu<=(q:Int))->(a.s.dec=[]->1000-a.mu<=(f:Int))->out.length+8*q<=1000000->
  XO S0 b (Ba.run want may f a out).1 (fun S'=>∀O,K (.list O (yZ (Ba.run want may f a out).2) (Ba.run want may f a out).2.length) S')->
  mR x (q+1) (.ptr b 0) (.str want) (.list Ow (dV may) may.length) t7 S1 K:=by
 intro q;induction q with
 | zero=>
  intro f S1 a t7 vs out c k i ac cl hq hf ho hk;have hmu:=i.YV;rw [uF];unfold pF;refine aN ?_;obtain⟨v,hb,hl⟩:=k.row;have XN:∀{K:KV},aE (.ptr b 13) S1 K=K (.str a.s.dec) S1:=aJ hb;simp only [aP,aO,XN,gL];by_cases hd:a.s.dec=[]
  ·have:=hq hd;omega
  ·rw [decide_eq_false hd,bP]
   have e:Ba.run want may f a out=(a,out):=by cases f with
    | zero=>rfl
    | succ f=>unfold Ba.run;rw [if_neg hd]
   rw [e]at hk;exact Dm c k ac cl hk
 | succ q ih=>
  intro f S1 a t7 vs out c k i ac cl hq hf ho hk;have hmu:=i.YV;rw [uF];unfold pF;refine aN ?_;obtain⟨v,hb,hl⟩:=k.row;have XN:∀{K:KV},aE (.ptr b 13) S1 K=K (.str a.s.dec) S1:=aJ hb;simp only [aP,aO,XN,gL];by_cases hd:a.s.dec=[]
  ·rw [decide_eq_true hd,cO]
   obtain⟨f,rfl⟩:=Nat.exists_eq_succ_of_ne_zero (show f≠0 by have:=hf hd;omega)
   have e1:Ba.run want may (f+1) a out=if(a.from_ want may a.mine 0).2.2 then Ba.run want may f (a.from_ want may a.mine 0).1 (out++(a.from_ want may a.mine 0).2.1)else(a,out):=by
    conv=>lhs;unfold Ba.run
    rw [if_pos hd]
   refine aGE hM hx k i ⟨.inr (.inl ⟨Ow,rfl⟩)⟩ hmay fun S2 c2 k2 O=>?_;simp only [oZ,pA,fG]
   have ac2:pR S0 S2 45 11 t7 vs out.length:=ac.keep fun z hz=>by
    rw [hz];exact c2 z _ (fun q2=>by rw [q2,hb]at hz;cases hz) hz
   have c3:=c.trans c2;cases hr:(a.from_ want may a.mine 0).2.2 with
   | false=>
    rw [Bool.not_false,cO];rw [e1,hr]at hk;rw [Ll _ _ hr]at k2;exact Dm c3 k2 ac2 cl hk
   | true=>
    rw [Bool.not_true,bP];rw [e1,hr]at hk;have hlen:=Si (a:=a) want may
    have hnone:∀z,S2 z=none->S0 z=none:=fun z hz=>by
     cases e:S0 z with
     | none=>rfl
     | some o=>
      by_cases hzb:z=b
      ·subst hzb
       obtain⟨v2,hb2,_⟩:=k2.row;rw [hb2]at hz;cases hz
      ·rw [c3 z o hzb e]at hz;cases hz
    refine ac2.aHy hnone (by omega) (by rw [zA]) (Le _) (by omega) ?_;intro t9 S3 vs3 ac3 e6 f1 f2;have hmu2:=aBb i want may _ _ hr
    have k3:RB S3 b (a.from_ want may a.mine 0).1:=by
     obtain⟨v2,hb2,hl2⟩:=k2.row;refine⟨v2,f1 _ _ hb2 (fun _ _ e=>by cases e),?_⟩;rcases hl2.is with q1 | ⟨z,q1,q2,q3⟩ | ⟨z,q1,q2⟩
     ·exact⟨.inl q1⟩
     ·exact⟨.inr (.inl ⟨z,q1,f1 _ _ q2 (fun _ _ e=>by cases e),q3⟩)⟩
     ·exact⟨.inr (.inr ⟨z,q1,f1 _ _ q2 (fun _ _ e=>by cases e)⟩)⟩
    refine ih f S3 (a.from_ want may a.mine 0).1 t9 vs3 (out++(a.from_ want may a.mine 0).2.1) (fun z o h1 h2=>by rw [f2 z (by rw [h2];simp)];exact c3 z o h1 h2) k3 (i.from_ want may _ _) (by rw [List.length_append];exact ac3) (by rw [e6,Dg];exact cl.app .tl) (fun hdd=>?_) (fun hdd=>?_) (by rw [List.length_append];omega) hk
    ·rcases hmu2 with h | h
     ·have:=hq hd;omega
     ·exact absurd hdd h
    ·rcases hmu2 with h | h
     ·have:=hf hd;omega
     ·exact absurd hdd h
  ·rw [decide_eq_false hd,bP]
   have e:Ba.run want may f a out=(a,out):=by cases f with
    | zero=>rfl
    | succ f=>unfold Ba.run;rw [if_neg hd]
   rw [e]at hk;exact Dm c k ac cl hk
theorem Zm{want:List UInt8}{may:List (List UInt8)}{Ow:Tag} (hM:100000<M) (hM2:M<=125000) (hx:Deep PP bM gT M (n+6) x) (k:RB S b a) (i:cA a) (hmay:may.length<=100000) (hk:XO S b (a.NW want may).1 fun S'=>∀O,K (.list O (yZ (a.NW want may).2) (a.NW want may).2.length) S'):x.call gM [.ptr b 0,.str want,.list Ow (dV may) may.length] S K:=by
 refine hx.call aGF fun y hy=>?_;rw [PT];unfold CY;have hm:y.most=M:=hy.most;obtain⟨p,hp⟩:=Nat.exists_eq_succ_of_ne_zero (show y.most≠0 by omega);have hmu:=i.YV;rw [hp];refine aFp hM hy (fun e=>?_) hmay p 1000 S a .nil [] [] .refl k i .nil .nil (fun _=>by omega) (fun _=>by omega) (by simp;omega) hk;obtain⟨v,hb,_⟩:=k.row;rw [hb]at e;cases e
end
set_option maxRecDepth 4000
def Pre (S S2:Hp) (pre:List Mg) (s:V):Prop:=(pre=[]/\s= .nil)\/∃j g,pre=[g]/\s= .own j 0 1 1/\S2 j=some (.row g.vv 45)/\S j=none
section
variable{M n b tt:Nat}{x:VE}{S S' S0:Hp}{K:KV}{a a0:Ba}{v:V}
theorem But.none (c:But S S' b) (h:S' b≠none){j:Nat} (e:S' j=none):S j=none:=by
 cases q:S j with
 | none=>rfl
 | some o=>
  by_cases hj:j=b
  ·subst hj;exact absurd e h
  ·rw [c j o hj q]at e;cases e
theorem RB.ne (k:RB S b a):S b≠none:=by
 obtain⟨v,hb,_⟩:=k.row;rw [hb];simp
theorem Hu{a':Ba}{kd:Nat}{vl:Int}{tx:List UInt8}{J:V->Hp->Prop} (hM:100000<M) (hx:Deep PP bM gT M (n+4) x) (c:But S S' b) (k:RB S' b a') (i:cA a') (hk:∀S2 s,But S S2 b->RB S2 b (a'.say kd vl tx).1->Pre S S2 (a'.say kd vl tx).2 s->J s S2):x.call aZ [.ptr b 0,.int .u8 (.ofNat kd),.int .i64 vl,.str tx] S' fun s S=>J s S:=by
 refine ZC hM hx k i fun S2 c2 k2 j hj=>aK ?_;have le:dL S2 (upd S2 j (.row (Mg.vv ⟨kd,a'.s.h,a'.s.rd,vl,tx⟩) 45)):= .aV hj;exact hk _ _ ((c.trans c2).trans le.but) (k2.hle le) (.inr ⟨j,_,rfl,rfl,upd_same,(c.trans c2).none k2.ne hj⟩)
theorem aGG{w t2:V}{N:Int} (hM:100000<M) (hx:Deep PP bM gT M (n+4) x) (k:RB S b a) (i:cA a) (hb:S b=some (.row (aU a.s v) 24)) (hl:Lv S v a.l) (ht:S tt=some (.row [.int .i64 N,v] 74)) (h1:a.s.st≠1) (h2:¬(a.s.st=2/\a.s.n-a.s.t<=(a.all a.s.rd 3:Int)))
 (hj:∀a1 pre S2 s,a.late=(a1,pre)->But S S2 b->RB S2 b a1->cA a1->Pre S S2 pre s->aW x (.ptr b 0) w t2 s S2 K):tkD x (.ptr b 0) w t2 (.ptr tt 0) S K:=by
 unfold tkD;obtain⟨m0,m1,m2,m3,m4,m5,m6,m7,m8,m9,m10,m11,m12,m13,m14⟩:=fX hb;have hx2:Deep PP bM gT M (n+3+1) x:=hx;have hst:=i.st;have hrd:=i.rd;have hok:=i.ok;unfold Do at hok;have hlen:=i.len;have hnn:=i.nn;have no:a.late=(a,[])->aW x (.ptr b 0) w t2 .nil S K:=fun e=>hj a [] S .nil e .refl k i (.inl ⟨rfl,rfl⟩);simp only [aP,aO,m5,bW,bD];by_cases c1:a.s.st=3
 ·have el:a.late=(if decide (a.s.n-a.s.t<=(a.all a.s.rd 4:Int))&&decide (a.s.rd<99)then(a.sS (a.s.rd+1),[])else(a,[])):=by
   unfold Ba.late;rw [if_neg h1,if_neg (by omega)]
  simp only [show decide (a.s.st=Int.ofNat 3)=true from decide_eq_true c1,aH,aP,aO,m4,m1,m2,lV];rw [wrap_small (by omega) (by omega)];refine Zg (nn:=a.s.n.toNat) hM hx2 ht hl (by omega) (by omega) i.HI i.Ok ?_;simp only [gB,m1,m2,m5,cZ,dG,dC];by_cases c2:a.s.n-a.s.t<=(a.all a.s.rd 4:Int)
  ·rw [show decide (a.s.n-a.s.t<=Int.ofNat (mO (fun v=>decide (v.rd=a.s.rd)&&decide (v.kd=4)) a.s.n.toNat a.l))=true from decide_eq_true c2]
   simp only [aH,aP,aO,m4,aI,dC];by_cases c3:a.s.rd<99
   ·rw [show decide (a.s.rd<Int.ofNat 99)=true from decide_eq_true c3,cO]
    simp only [bA];rw [show kC .i64 (a.s.rd+Int.ofNat 1)=a.s.rd+1 by rw [wrap_small]<;>simp<;>omega];refine Hr (n:=n+2) hx hb ?_;exact hj (a.sS (a.s.rd+1)) [] _ .nil (by rw [el,if_pos (by rw [decide_eq_true c2,decide_eq_true c3];rfl)]) .upd (k.mk2 hb hl) (i.sS (by omega) (by omega)) (.inl ⟨rfl,rfl⟩)
   ·rw [show decide (a.s.rd<Int.ofNat 99)=false from decide_eq_false c3,bP]
    exact no (by rw [el,if_neg (by rw [decide_eq_false c3,Bool.and_false];simp)])
  ·rw [show decide (a.s.n-a.s.t<=Int.ofNat (mO (fun v=>decide (v.rd=a.s.rd)&&decide (v.kd=4)) a.s.n.toNat a.l))=false from decide_eq_false c2]
   repeat with_reducible (first | refine fO ?_ | refine fI ?_ | refine gJ ?_ | refine fP ?_ | refine fJ ?_ | refine lS ?_)
   exact no (by rw [el,if_neg (by rw [decide_eq_false c2];simp)])
 ·have el:a.late=(a,[]):=by
   unfold Ba.late;have e2:a.s.st=2:=by omega
   rw [if_neg h1,if_pos e2,if_neg (fun q=>h2 ⟨e2,of_decide_eq_true q⟩)]
  rw [show decide (a.s.st=Int.ofNat 3)=false from decide_eq_false c1]
  repeat with_reducible (first | refine fO ?_ | refine fI ?_ | refine gJ ?_ | refine fP ?_ | refine fJ ?_ | refine lS ?_ | refine qB ?_ | refine uZ ?_)
  simp only [m5,cZ]
  repeat with_reducible (first | refine fO ?_ | refine fI ?_ | refine gJ ?_ | refine fP ?_ | refine fJ ?_ | refine lS ?_ | refine qB ?_ | refine uZ ?_)
  exact no el
theorem aGH{w t2:V}{N:Int} (hM:100000<M) (hx:Deep PP bM gT M (n+4) x) (k:RB S b a) (i:cA a) (hb:S b=some (.row (aU a.s v) 24)) (hl:Lv S v a.l) (ht:S tt=some (.row [.int .i64 N,v] 74)) (h1:a.s.st≠1)
 (hj:∀a1 pre S2 s,a.late=(a1,pre)->But S S2 b->RB S2 b a1->cA a1->Pre S S2 pre s->aW x (.ptr b 0) w t2 s S2 K):tkC x (.ptr b 0) w t2 (.ptr tt 0) S K:=by
 unfold tkC;obtain⟨m0,m1,m2,m3,m4,m5,m6,m7,m8,m9,m10,m11,m12,m13,m14⟩:=fX hb;have hx2:Deep PP bM gT M (n+3+1) x:=hx;have hok:=i.ok;unfold Do at hok;have hlen:=i.len;have hnn:=i.nn;have next:¬(a.s.st=2/\a.s.n-a.s.t<=(a.all a.s.rd 3:Int))->tkD x (.ptr b 0) w t2 (.ptr tt 0) S K:=fun h2=>aGG hM hx k i hb hl ht h1 h2 hj;simp only [aP,aO,m5,bW,bD];by_cases c1:a.s.st=2
 ·simp only [show decide (a.s.st=Int.ofNat 2)=true from decide_eq_true c1,aH,aP,aO,m4,m1,m2,lV]
  rw [wrap_small (by omega) (by omega)];refine Zg (nn:=a.s.n.toNat) hM hx2 ht hl (by omega) (by omega) i.HI i.Ok ?_;simp only [gB,m1,m2,m5,cZ,dG,dC];by_cases c2:a.s.n-a.s.t<=(a.all a.s.rd 3:Int)
  ·rw [show decide (a.s.n-a.s.t<=Int.ofNat (mO (fun v=>decide (v.rd=a.s.rd)&&decide (v.kd=3)) a.s.n.toNat a.l))=true from decide_eq_true c2,cO]
   have el:a.late=(a.to 3).say 4 0 []:=by
    unfold Ba.late;rw [if_neg h1,if_pos c1,if_pos (decide_eq_true c2)]
   refine SN (n:=n+3) hx hb ?_;have i3:cA (a.to 3):=i.to (by decide) (by decide);refine Hu (a':=a.to 3) (J:=fun s S=>aW x (.ptr b 0) w t2 s S K) hM hx .upd (k.mk2 hb hl) i3 fun S2 s c2 k2 p2=>?_;exact hj _ _ S2 s el c2 k2 (i3.say _ _ _) p2
  ·rw [show decide (a.s.n-a.s.t<=Int.ofNat (mO (fun v=>decide (v.rd=a.s.rd)&&decide (v.kd=3)) a.s.n.toNat a.l))=false from decide_eq_false c2,bP]
   exact next fun q=>c2 q.2
 ·rw [show decide (a.s.st=Int.ofNat 2)=false from decide_eq_false c1]
  repeat with_reducible (first | refine fO ?_ | refine fI ?_ | refine gJ ?_ | refine fP ?_ | refine fJ ?_ | refine lS ?_ | refine qB ?_ | refine uZ ?_)
  simp only [m5,cZ]
  repeat with_reducible (first | refine fO ?_ | refine fI ?_ | refine gJ ?_ | refine fP ?_ | refine fJ ?_ | refine lS ?_ | refine qB ?_ | refine uZ ?_)
  exact next fun q=>c1 q.1
theorem aGI{w t2:V} (hM:100000<M) (hx:Deep PP bM gT M (n+4) x) (k:RB S b a) (i:cA a)
 (hj:∀a1 pre S2 s,a.late=(a1,pre)->But S S2 b->RB S2 b a1->cA a1->Pre S S2 pre s->aW x (.ptr b 0) w t2 s S2 K):tkB x (.ptr b 0) w t2 S K:=by
 unfold tkB;obtain⟨v,hb,hl⟩:=k.row;refine NZ (n:=n+3) hx hb hl fun tt htt=>?_;have le1:dL S (upd S tt (.row [.int .i64 a.s.n,v] 74)):= .aV htt;have rt:upd S tt (.row [.int .i64 a.s.n,v] 74) tt=some (.row [.int .i64 a.s.n,v] 74):=upd_same;generalize upd S tt (.row [.int .i64 a.s.n,v] 74)=S1 at le1 rt;have hb1:=le1 _ _ hb;have hl1:=hl.hle le1;have k1:=k.hle le1
 have hj1:∀a1 pre S2 s,a.late=(a1,pre)->But S1 S2 b->RB S2 b a1->cA a1->Pre S1 S2 pre s->aW x (.ptr b 0) w t2 s S2 K:=fun a1 pre S2 s e c k2 i2 p=>hj a1 pre S2 s e (le1.but.trans c) k2 i2 (by
  rcases p with p | ⟨j,g,p1,p2,p3,p4⟩
  ·exact .inl p
  ·exact .inr ⟨j,g,p1,p2,p3,le1.none p4⟩)
 obtain⟨m0,m1,m2,m3,m4,m5,_⟩:=fX hb1;simp only [aP,aO,m5,bW];by_cases c1:a.s.st=1
 ·rw [show decide (a.s.st=Int.ofNat 1)=true from decide_eq_true c1,cO]
  have el:a.late=(a.to 2).say 3 0 []:=by
   unfold Ba.late;rw [if_pos c1]
  refine SN (n:=n+3) hx hb1 ?_;have i3:cA (a.to 2):=i.to (by decide) (by decide);refine Hu (a':=a.to 2) (J:=fun s S=>aW x (.ptr b 0) w t2 s S K) hM hx .upd (k1.mk2 hb1 hl1) i3 fun S2 s c2 k2 p2=>?_;exact hj1 _ _ S2 s el c2 k2 (i3.say _ _ _) p2
 ·rw [show decide (a.s.st=Int.ofNat 1)=false from decide_eq_false c1,bP]
  exact aGH hM hx k1 i hb1 hl1 rt c1 hj1
theorem aB1{want:List UInt8}{may:List (List UInt8)}{Ow:Tag} (hM:100000<M) (hM2:M<=125000) (hx:Deep PP bM gT M (n+7) x) (k:RB S b a) (i:cA a) (hmay:may.length<=100000) (hk:XO S b (a.tick want may).1 fun S'=>∀O,K (.list O (yZ (a.tick want may).2) (a.tick want may).2.length) S'):x.call jZ [.ptr b 0,.str want,.list Ow (dV may) may.length] S K:=by
 refine hx.call aB0 fun y hy=>?_;rw [LE,Za];have hm:y.most≠0:=by rw [hy.most];omega
 obtain⟨v,hb,hl⟩:=k.row;obtain⟨m0,m1,m2,m3,m4,m5,m6,m7,m8,m9,m10,m11,m12,m13,m14⟩:=fX hb
 have dir:a.ticks want=false->(y.call gM [.ptr b 0,.str want,.list Ow (dV may) may.length] S fun v32 S=>aS v32 S K):=fun e=>by
  have e0:a.tick want may=a.NW want may:=by
   unfold Ba.tick Ba.sF;rw [e];rfl
  rw [e0]at hk;exact Zm hM hM2 hy k i hmay fun S2 c2 k2 O=>aK (hk S2 c2 k2 O)
 have yes:a.ticks want=true->tkA y (.ptr b 0) (.str want) (.list Ow (dV may) may.length) S K:=fun e=>by
  unfold tkA;have aHx:=i.age;have hrd:=i.rd;have Lg:∀{x y:Int} {k:V->Prop},Bf false (.int .i64 x) (.int .i64 y) k=k (.int .i64 (min x y)):=rfl;have e1:kC .i64 (a.s.age+Int.ofNat 1)=a.s.age+1:=by rw [wrap_small]<;>simp<;>omega
  have e0:Int.ofNat 1099511627776=1099511627776:=rfl;simp only [aP,aO,m6,bA];rw [e1];simp only [Lg];rw [e0];refine dQ hb rfl (by simp [aU]) ?_;have k1:RB (upd S b (.row (aU a.older.s v) 24)) b a.older:=k.mk2 hb hl;have c1:But S (upd S b (.row (aU a.older.s v) 24)) b:= .upd;have r1:upd S b (.row (aU a.older.s v) 24) b=some (.row (aU a.older.s v) 24):=upd_same;show aE (.ptr b 6) (upd S b (.row (aU a.older.s v) 24)) _;generalize upd S b (.row (aU a.older.s v) 24)=S1 at k1 c1 r1;have l6:∀{K:KV},aE (.ptr b 6) S1 K=K (.int .i64 a.older.s.age) S1:=aJ r1;have l4:∀{K:KV},aE (.ptr b 4) S1 K=K (.int .i64 a.s.rd) S1:=aJ r1;simp only [l6,l4,HU,bA,dG];have e2:kC .i64 (Int.ofNat 2*a.s.rd)=2*a.s.rd:=by rw [wrap_small]<;>simp<;>omega
  have e3:kC .i64 (Int.ofNat 4+2*a.s.rd)=4+2*a.s.rd:=by rw [wrap_small]<;>simp<;>omega
  rw [e2,e3]
  have jo:∀a1 pre S2 s,a.sF want=(a1,pre)->But S S2 b->RB S2 b a1->cA a1->Pre S S2 pre s->aW y (.ptr b 0) (.str want) (.list Ow (dV may) may.length) s S2 K:=by
   intro a1 pre S2 s et c2 k2 i2 p;rw [AX y hm];unfold mY;refine aN ?_;have ek:a.tick want may=((a1.NW want may).1,pre++(a1.NW want may).2):=by unfold Ba.tick;rw [et]
   rw [ek]at hk;have hdl:=Di (a:=a1) want may;refine Zm hM hM2 hy k2 i2 hmay fun S3 c3 k3 O=>?_;rcases p with ⟨rfl,rfl⟩ | ⟨j,g,rfl,rfl,p3,p4⟩
   ·exact Dh (S':=S3) (.inl ⟨rfl,rfl⟩) (.refl _) (by omega) (hk S3 (c2.trans c3) k3)
   ·have hjb:j≠b:=fun q=>by rw [q]at p4;exact k.ne p4
    have p5:=c3 j _ hjb p3;exact Dh (S':=del S3 j) (.inr ⟨j,g,rfl,rfl,p5,Ga⟩) Vv (by omega) (hk _ ((c2.trans c3).del p4) (k3.del p5 (fun _ e=>by injection e with _ e;cases e) (fun _ _ e=>by cases e) (fun _ e=>by injection e with _ e;cases e)))
  by_cases h:4+2*a.s.rd<=a.older.s.age
  ·rw [decide_eq_true h,cO]
   refine aGI (n:=n+2) hM hy k1 i.older fun a1 pre S2 s el c2 k2 i2 p=>?_;refine jo a1 pre S2 s ?_ (c1.trans c2) k2 i2 ?_
   ·unfold Ba.sF;rw [if_pos e,if_pos h,el]
   ·rcases p with p | ⟨j,g,p1,p2,p3,p4⟩
    ·exact .inl p
    ·exact .inr ⟨j,g,p1,p2,p3,c1.none k1.ne p4⟩
  ·rw [decide_eq_false h,bP]
   exact jo a.older [] S1 .nil (by unfold Ba.sF;rw [if_pos e,if_neg h]) c1 k1 i.older (.inl ⟨rfl,rfl⟩)
 have hrl:(0<a.rounds.length)↔0<a.l.length:=by
  constructor
  ·intro h
   obtain⟨r,hr⟩:=List.exists_mem_of_length_pos h;obtain⟨w,hw,_⟩:=(i.tE.2 r).1 hr;exact List.length_pos_of_mem hw
  ·intro h
   obtain⟨w,hw⟩:=List.exists_mem_of_length_pos h;exact List.length_pos_of_mem ((i.tE.2 w.rd).2 ⟨w,hw,rfl⟩)
 simp only [aP,aO,m3,bW,bD];by_cases c1:a.s.me=0
 ·rw [show decide (a.s.me=Int.ofNat 0)=true from decide_eq_true c1]
  repeat with_reducible (first | refine fO ?_ | refine fI ?_ | refine gJ ?_ | refine fP ?_ | refine fJ ?_ | refine pS ?_)
  exact dir (by unfold Ba.ticks;rw [decide_eq_true c1];rfl)
 ·simp only [show decide (a.s.me=Int.ofNat 0)=false from decide_eq_false c1,aH,aP,aO,m13,kT,eA]
  by_cases c2:a.s.dec=[]
  ·simp only [decide_eq_true c2,Bool.not_true,aH,aP,aO,m14,hl.len]
   rw [LM];by_cases c3:a.l.length=0
   ·simp only [decide_eq_true c3,aH,gL,dC,eA]
    by_cases c4:want=[]
    ·simp only [decide_eq_true c4,cO]
     exact dir (by unfold Ba.ticks;rw [decide_eq_true c4,decide_eq_false (p:=0<a.rounds.length) (by rw [hrl];omega)];simp)
    ·simp only [decide_eq_false c4,bP]
     exact yes (by unfold Ba.ticks;rw [decide_eq_false c4,decide_eq_false c1,decide_eq_true c2];rfl)
   ·simp only [decide_eq_false c3,dF,eA,bP]
    exact yes (by unfold Ba.ticks;rw [decide_eq_false c1,decide_eq_true c2,decide_eq_true (p:=0<a.rounds.length) (by rw [hrl];omega)];simp)
  ·rw [decide_eq_false c2,Bool.not_false]
   repeat with_reducible (first | refine fO ?_ | refine fI ?_ | refine gJ ?_ | refine fP ?_ | refine fJ ?_ | refine pS ?_)
   exact dir (by unfold Ba.ticks;rw [decide_eq_false c2];simp)
end
set_option maxRecDepth 4000
theorem aB2:gT yQ=none:=rfl
theorem Zn:gT rX=none:=rfl
theorem aB3:gT tV=none:=rfl
theorem aB4:gT mC=none:=rfl
def oA (s:Bs):List Vo->List Vo->Option (List Vo)
 | acc,[]=>some acc
 | acc,v::l=>if s.takes acc v then oA s (uP v acc) l else none
def KB (s:Bs):Prop:=Do s.h s.n s.t s.me/\(0<=s.rd/\s.rd<=99)/\(1<=s.st/\s.st<=3)/\(0<=s.age/\s.age<=1099511627776)/\oN s.lock s.mW s.rd=true/\oN s.valid s.gA s.rd=true/\s.dec.length<=2048
theorem KB.inv{s:Bs} (h:KB s):cA ⟨s,[]⟩:=⟨h.1,h.2.1,h.2.2.1,h.2.2.2.1,h.2.2.2.2.1,h.2.2.2.2.2.1,h.2.2.2.2.2.2,.nil,fun v hv=>by cases hv⟩
theorem Hv{s s':Bs} (hh:s.h=s'.h) (hn:s.n=s'.n) (l:List Vo) (v:Vo):s.takes l v=s'.takes l v:=by
 unfold Bs.takes Bs.RW;rw [hh,hn]
structure Gv (ty:TypeId) (S:Hp) (v:V) (l:List Vo):Prop where
 is:(v= .nil/\l=[])\/(∃O,v= .list O (uQ l) l.length)\/(∃i,v= .acc i l.length/\S i=some (.iD (AT l) ty l.length))\/∃j,v= .own j 0 0 0/\l=[]
section
variable{M n b:Nat}{x:VE}{S S' S0:Hp}{K:KV}{a a0:Ba}{v:V}{s:Bs}{l:List Vo}{ty:TypeId}
theorem Gv.len (h:Gv ty S v l){k:V->Prop}:cY v k=k (.int .i64 (.ofNat l.length)):=by
 rcases h.is with ⟨rfl,rfl⟩ | ⟨O,rfl⟩ | ⟨i,rfl,_⟩ | ⟨j,rfl,rfl⟩<;>rfl
theorem Gv.at (h:Gv ty S v l){i:Nat} (hi:i<l.length){K:KV}:(fQ 5 v (.int .i64 (.ofNat i)) fun p=>dK 5 p S K)=K (.agg l[i].vv) S:=by
 rcases h.is with ⟨rfl,rfl⟩ | ⟨O,rfl⟩ | ⟨j,rfl,e⟩ | ⟨j,rfl,rfl⟩
 ·simp at hi
 ·rw [qN hi,KT,eE (by rw [yY];omega),PV l i l[i] (List.getElem?_eq_getElem hi)];rfl
 ·rw [dR hi]
  unfold dK;simp only [e,true_and];rw [eE (by rw [pH];omega),VX l i l[i] (List.getElem?_eq_getElem hi)]
 ·simp at hi
theorem Gv.mono (h:Gv ty S v l) (c:∀i o,S i=some o->GR o=true->S' i=some o):Gv ty S' v l:=by
 rcases h.is with q | q | ⟨i,q1,q2⟩ | q
 ·exact⟨.inl q⟩
 ·exact⟨.inr (.inl q)⟩
 ·exact⟨.inr (.inr (.inl ⟨i,q1,c i _ q2 rfl⟩))⟩
 ·exact⟨.inr (.inr (.inr q))⟩
theorem Gv.flat (h:Gv ty S v l):lL v=true:=by
 rcases h.is with ⟨rfl,rfl⟩ | ⟨O,rfl⟩ | ⟨i,rfl,_⟩ | ⟨j,rfl,rfl⟩<;>rfl
theorem Lv.gv (h:Lv S v l):Gv 49 S v l:=by
 rcases h.is with q | ⟨j,q1,_,q3⟩ | q
 ·exact⟨.inl q⟩
 ·exact⟨.inr (.inr (.inr ⟨j,q1,q3⟩))⟩
 ·exact⟨.inr (.inr (.inl q))⟩
theorem aFq{h z q me:Int} (hx:Deep PP bM gT M (n+1) x) (h1:Do h z q me->K (.bool true) S) (h2:¬Do h z q me->K (.bool false) S):x.call yQ [.int .i64 h,.int .i64 z,.int .i64 q,.int .i64 me] S K:=by
 refine hx.call aB2 fun y hy=>?_;rw [Cy];unfold NO;unfold Do at h1 h2;simp only [dG,bD];by_cases c1:1<=h
 ·simp only [show decide (Int.ofNat 1<=h)=true from decide_eq_true c1,aH,pU,dC]
  by_cases c2:h<=64
  ·simp only [show decide (h<=Int.ofNat 64)=true from decide_eq_true c2,aH,dG,dC]
   by_cases c3:1<=z
   ·simp only [show decide (Int.ofNat 1<=z)=true from decide_eq_true c3,aH,pU,dC]
    by_cases c4:z<=7
    ·simp only [show decide (z<=Int.ofNat 7)=true from decide_eq_true c4,aH,dG,dC]
     by_cases c5:0<=q
     ·simp only [show decide (Int.ofNat 0<=q)=true from decide_eq_true c5,aH,pU,dC]
      by_cases c6:q<=7
      ·simp only [show decide (q<=Int.ofNat 7)=true from decide_eq_true c6,aH,HU,bA,dG,dC]
       have e1:kC .i64 (Int.ofNat 3*q)=3*q:=by rw [wrap_small]<;>simp<;>omega
       have e2:kC .i64 (3*q+Int.ofNat 1)=3*q+1:=by rw [wrap_small]<;>simp<;>omega
       rw [e1,e2];by_cases c7:3*q+1<=z
       ·simp only [decide_eq_true c7,aH,dG,dC]
        by_cases c8:0<=me
        ·simp only [show decide (Int.ofNat 0<=me)=true from decide_eq_true c8,aH,pU,dC]
         by_cases c9:me<=z
         ·rw [decide_eq_true c9];exact aK (h1 (by omega))
         ·rw [decide_eq_false c9];exact aK (h2 (by omega))
        ·rw [show decide (Int.ofNat 0<=me)=false from decide_eq_false c8]
         repeat with_reducible (first | refine fO ?_ | refine gJ ?_ | refine fP ?_)
         exact aK (h2 (by omega))
       ·rw [decide_eq_false c7]
        repeat with_reducible (first | refine fO ?_ | refine gJ ?_ | refine fP ?_)
        exact aK (h2 (by omega))
      ·rw [show decide (q<=Int.ofNat 7)=false from decide_eq_false c6]
       repeat with_reducible (first | refine fO ?_ | refine gJ ?_ | refine fP ?_)
       exact aK (h2 (by omega))
     ·rw [show decide (Int.ofNat 0<=q)=false from decide_eq_false c5]
      repeat with_reducible (first | refine fO ?_ | refine gJ ?_ | refine fP ?_)
      exact aK (h2 (by omega))
    ·rw [show decide (z<=Int.ofNat 7)=false from decide_eq_false c4]
     repeat with_reducible (first | refine fO ?_ | refine gJ ?_ | refine fP ?_)
     exact aK (h2 (by omega))
   ·rw [show decide (Int.ofNat 1<=z)=false from decide_eq_false c3]
    repeat with_reducible (first | refine fO ?_ | refine gJ ?_ | refine fP ?_)
    exact aK (h2 (by omega))
  ·rw [show decide (h<=Int.ofNat 64)=false from decide_eq_false c2]
   repeat with_reducible (first | refine fO ?_ | refine gJ ?_ | refine fP ?_)
   exact aK (h2 (by omega))
 ·rw [show decide (Int.ofNat 1<=h)=false from decide_eq_false c1]
  repeat with_reducible (first | refine fO ?_ | refine gJ ?_ | refine fP ?_)
  exact aK (h2 (by omega))
theorem Hw{tx:List UInt8}{r now:Int} (hx:Deep PP bM gT M (n+1) x) (hk:K (.bool (oN tx r now)) S):x.call rX [.str tx,.int .i64 r,.int .i64 now] S K:=by
 refine hx.call Zn fun y hy=>?_;rw [XK];unfold JY;unfold oN at hk;simp only [yN,pU,bD];by_cases c1:tx.length<=2048
 ·simp only [show decide (Int.ofNat tx.length<=Int.ofNat 2048)=true from decide_eq_true (Int.ofNat_le.2 c1),aH,dG,dC]
  by_cases c2: -1<=r
  ·simp only [show decide (Int.negSucc 0<=r)=true from decide_eq_true c2,aH,pU,dC]
   by_cases c3:r<=now
   ·simp only [decide_eq_true c3,aH,gL,bW,IG Hf,dC]
    rw [decide_eq_true c1,decide_eq_true c2,decide_eq_true c3]at hk;exact aK hk
   ·rw [decide_eq_false c3]at hk ⊢
    repeat with_reducible (first | refine fO ?_ | refine gJ ?_ | refine fP ?_)
    exact aK (by simpa using hk)
  ·rw [show decide (Int.negSucc 0<=r)=false from decide_eq_false c2]
   rw [decide_eq_false c2]at hk
   repeat with_reducible (first | refine fO ?_ | refine gJ ?_ | refine fP ?_)
   exact aK (by simpa using hk)
 ·rw [show decide (Int.ofNat tx.length<=Int.ofNat 2048)=false from decide_eq_false (fun q=>c1 (Int.ofNat_le.1 q))]
  rw [decide_eq_false c1]at hk
  repeat with_reducible (first | refine fO ?_ | refine gJ ?_ | refine fP ?_)
  exact aK (by simpa using hk)
theorem Zo{O:Tag} (hM:100000<M) (hx:Deep PP bM gT M (n+3) x) (hlen:l.length<=100000) (h0b:S0 b=none) (hbad:oA s [] l=none->K (.tuple [.pW,.int .i64 4]) S0) (hok:∀l',oA s [] l=some l'->∀S',dL S0 S'->RB S' b ⟨s,l'⟩->K (.tuple [.ptr b 0,.int .i64 0]) S'):
 ∀(q j:Nat) (S1:Hp) (acc:List Vo),l.length<=j+q->j<=l.length->oA s [] l=oA s acc (l.drop j)->(∀z o,S0 z=some o->S1 z=some o)->RB S1 b ⟨s,acc⟩->cA ⟨s,acc⟩->nM x (q+1) (.ptr b 0) (.list O (uQ l) l.length) (.int .i64 (.ofNat j)) S1 K:=by
 have fin:∀j (S1:Hp) (acc:List Vo),l.length<=j->oA s [] l=oA s acc (l.drop j)->(∀z o,S0 z=some o->S1 z=some o)->RB S1 b ⟨s,acc⟩->aS (.tuple [.ptr b 0,.int .i64 (.ofNat 0)]) S1 K:=fun j S1 acc h1 h2 c k=>by
  rw [List.drop_of_length_le h1]at h2;exact aK (hok acc h2 S1 c k)
 intro q;induction q with
 | zero=>
  intro j S1 acc h1 h2 h3 c k i;rw [uW];unfold pZ;refine aN ?_;rw [iY,aI,nB (by omega),bP];exact fin j S1 acc (by omega) h3 c k
 | succ q ih=>
  intro j S1 acc h1 h2 h3 c k i;rw [uW];unfold pZ;refine aN ?_;rw [iY,aI];by_cases hi:j<l.length
  ·rw [LR hi,cO,qN hi,KT,eE (by rw [yY];omega),PV l j l[j] (List.getElem?_eq_getElem hi)]
   have hT:Tl O (j*5) l[j].dt=l[j].vv:=rfl;rw [hT]
   have e3:oA s acc (l.drop j)=if s.takes acc l[j]then oA s (uP l[j] acc) (l.drop (j+1))else none:=by
    rw [List.drop_eq_getElem_cons hi];rfl
   refine Zj (w:=l[j]) hM hx k i fun S2 c2 k2=>?_;have c3:∀z o,S0 z=some o->S2 z=some o:=fun z o e=>c2 z o (fun e2=>by rw [e2,h0b]at e;cases e) (c z o e);show GU .not (.bool (s.takes acc l[j])) _;rw [fG];cases ht:s.takes acc l[j]with
   | false=>
    rw [Bool.not_false,cO];rw [e3,ht]at h3;exact cI c3 (hbad h3)
   | true=>
    rw [Bool.not_true,bP,bA,fF (by omega)];rw [e3,ht]at h3;have ep:Ba.put ⟨s,acc⟩ l[j]=⟨s,uP l[j] acc⟩:=by unfold Ba.put;rw [if_pos ht]
    rw [ep]at k2;have i2:=i.put l[j];rw [ep]at i2;exact ih (j+1) S2 (uP l[j] acc) (by omega) (by omega) h3 c3 k2 i2
  ·rw [nB hi,bP]
   exact fin j S1 acc (by omega) h3 c k
theorem Ol{O:Tag} (hM:100000<M) (hx:Deep PP bM gT M (n+4) x) (hlen:l.length<=100000) (hbad:¬(KB s/\∃l',oA s [] l=some l')->K (.tuple [.pW,.int .i64 4]) S) (hok:∀l' b S',KB s->oA s [] l=some l'->dL S S'->S b=none->RB S' b ⟨s,l'⟩->K (.tuple [.ptr b 0,.int .i64 0]) S'):x.call tV [.agg (aU s (.list O (uQ l) l.length))] S K:=by
 refine hx.call aB3 fun y hy=>?_;rw [Cw];unfold NN;refine eQ rfl fun b hb=>?_;have le1:dL S (upd S b (.row (aU s (.list O (uQ l) l.length)) 24)):= .aV hb;have r1:upd S b (.row (aU s (.list O (uQ l) l.length)) 24) b=some (.row (aU s (.list O (uQ l) l.length)) 24):=upd_same;have hst:∀{k:Hp->Prop},k (upd S b (.row (aU s .nil) 24))->jK 1 (.ptr b 14) .nil (upd S b (.row (aU s (.list O (uQ l) l.length)) 24)) k:=fun h=>dQ upd_same rfl (by simp [aU]) (by rw [cP];exact h);generalize upd S b (.row (aU s (.list O (uQ l) l.length)) 24)=S1 at le1 r1 hst;obtain⟨m0,m1,m2,m3,m4,m5,m6,m7,m8,m9,m10,m11,m12,m13,m14⟩:=fX r1;have hy1:Deep PP bM gT M (n+2+1) y:=hy;have bad:¬KB s->aS (.tuple [.pW,.int .i64 (.ofNat 4)]) S1 K:=fun h=>cI le1 (hbad fun q=>h q.1);simp only [aO,m0,m1,m2,m3];refine aFq hy1 (fun hok1=>?_) (fun hok1=>?_)
 ·simp only [fG,Bool.not_true,bD,aH,m4,aI,eA]
  by_cases c1:s.rd<0
  ·rw [show decide (s.rd<Int.ofNat 0)=true from decide_eq_true c1]
   repeat with_reducible (first | refine fI ?_ | refine gJ ?_ | refine fJ ?_ | refine pS ?_)
   exact bad fun q=>by have:=q.2.1;omega
  simp only [show decide (s.rd<Int.ofNat 0)=false from decide_eq_false c1,aH,m4,dN,eA];by_cases c2:99<s.rd
  ·rw [show decide (Int.ofNat 99<s.rd)=true from decide_eq_true c2]
   repeat with_reducible (first | refine fI ?_ | refine gJ ?_ | refine fJ ?_ | refine pS ?_)
   exact bad fun q=>by have:=q.2.1;omega
  simp only [show decide (Int.ofNat 99<s.rd)=false from decide_eq_false c2,aH,m5,aI,eA];by_cases c3:s.st<1
  ·rw [show decide (s.st<Int.ofNat 1)=true from decide_eq_true c3]
   repeat with_reducible (first | refine fI ?_ | refine gJ ?_ | refine fJ ?_ | refine pS ?_)
   exact bad fun q=>by have:=q.2.2.1;omega
  simp only [show decide (s.st<Int.ofNat 1)=false from decide_eq_false c3,aH,m5,dN,eA];by_cases c4:3<s.st
  ·rw [show decide (Int.ofNat 3<s.st)=true from decide_eq_true c4]
   repeat with_reducible (first | refine fI ?_ | refine gJ ?_ | refine fJ ?_ | refine pS ?_)
   exact bad fun q=>by have:=q.2.2.1;omega
  simp only [show decide (Int.ofNat 3<s.st)=false from decide_eq_false c4,aH,m6,aI,eA];by_cases c5:s.age<0
  ·rw [show decide (s.age<Int.ofNat 0)=true from decide_eq_true c5]
   repeat with_reducible (first | refine fI ?_ | refine gJ ?_ | refine fJ ?_ | refine pS ?_)
   exact bad fun q=>by have:=q.2.2.2.1;omega
  simp only [show decide (s.age<Int.ofNat 0)=false from decide_eq_false c5,aH,m6,dN,eA];have e40:Int.ofNat 1099511627776=1099511627776:=rfl;rw [e40];by_cases c6:1099511627776<s.age
  ·rw [decide_eq_true c6]
   repeat with_reducible (first | refine fI ?_ | refine gJ ?_ | refine fJ ?_ | refine pS ?_)
   exact bad fun q=>by have:=q.2.2.2.1;omega
  simp only [decide_eq_false c6,aH,m7,m9,m4,eA];refine Hw hy1 ?_;cases c7:oN s.lock s.mW s.rd with
  | false=>
   simp only [fG,Bool.not_false]
   repeat with_reducible (first | refine fI ?_ | refine gJ ?_ | refine fJ ?_ | refine pS ?_)
   exact bad fun q=>by have:=q.2.2.2.2.1;rw [c7]at this;cases this
  | true=>
   simp only [fG,Bool.not_true,aH,m8,m10,m4,eA];refine Hw hy1 ?_;cases c8:oN s.valid s.gA s.rd with
   | false=>
    simp only [fG,Bool.not_false]
    repeat with_reducible (first | refine fI ?_ | refine gJ ?_ | refine fJ ?_ | refine pS ?_)
    exact bad fun q=>by have:=q.2.2.2.2.2.1;rw [c8]at this;cases this
   | true=>
    simp only [fG,Bool.not_true,aH,m13,yN,dN,eA];by_cases c9:2048<s.dec.length
    ·rw [LR c9,cO]
     exact bad fun q=>by have:=q.2.2.2.2.2.2;omega
    ·rw [nB c9,bP]
     simp only [m14];have fits:KB s:=⟨hok1,by omega,by omega,by omega,c7,c8,by omega⟩;refine hst ?_;have hm:y.most=M:=hy.most;obtain⟨p,hp⟩:=Nat.exists_eq_succ_of_ne_zero (show y.most≠0 by omega);rw [hp];refine Zo (S0:=S) hM hy hlen hb (fun e=>hbad fun q=>by obtain⟨_,l',q⟩:=q;rw [e]at q;cases q) (fun l' e S' c k=>hok l' b S' fits e c hb k) p 0 _ [] (by omega) (by omega) rfl (fun z o e=>?_) ⟨.nil,upd_same,⟨.inl ⟨rfl,rfl⟩⟩⟩ fits.inv;rw [aG (fun q=>by rw [q,hb]at e;cases e)];exact e
 ·simp only [fG,Bool.not_false,bD]
  repeat with_reducible (first | refine fI ?_ | refine gJ ?_ | refine fJ ?_ | refine pS ?_)
  exact bad fun q=>hok1 q.1
end
set_option maxRecDepth 4000
section
variable{M n b t m:Nat}{x:VE}{S S' S0:Hp}{K:KV}{a a0:Ba}{v:V}{s:Bs}{l:List Vo}{ty:TypeId}
def st0 (s:Bs):Bs:= .start s.h s.n s.t s.me
theorem Zp{t1:Nat} (hM:100000<M) (hx:Deep PP bM gT M (n+3) x) (hlen:l.length<=100000) (hv:Gv 39 S v l) (hb:S b=none) (ht:S t=none) (hm:S m=none) (hn:S t1=none) (hbad:oA s [] l=none->K (.tuple [.pW,.int .i64 4]) S) (hok:∀l',oA s [] l=some l'->∀S',dL S S'->Bal S' b t m 55 ⟨s,l'⟩->K (.tuple [.ptr b 0,.int .i64 0]) S'):
 ∀(q j:Nat) (S1:Hp) (acc:List Vo),l.length<=j+q->j<=l.length->oA s [] l=oA s acc (l.drop j)->dL S S1->Bal S1 b t m 55 ⟨st0 s,acc⟩->cA ⟨s,acc⟩->S1 t1=some (.row (aU s v) 29)->nK x (q+1) (.ptr t1 0) (.ptr b 0) v (.int .i64 (.ofNat l.length)) (.int .i64 (.ofNat j)) S1 K:=by
 have fin:∀j (S1:Hp) (acc:List Vo),l.length<=j->oA s [] l=oA s acc (l.drop j)->dL S S1->Bal S1 b t m 55 ⟨st0 s,acc⟩->cA ⟨s,acc⟩->S1 t1=some (.row (aU s v) 29)->S t1=none->
  (aD 14 (.ptr t1 0) fun v16=>jK 1 v16 .nil S1 fun S=>dK 15 (.ptr t1 0) S fun v17 S=>aQ PP (.ptr b 0) fun v18=>aD 0 v18 fun v19=>jK 15 v19 v17 S fun S=>aS (.tuple [.ptr b 0,(.int .i64 (.ofNat 0))]) S K):=fun j S1 acc h1 h2 c k i e ht1=>by
  rw [List.drop_of_length_le h1]at h2;have hbt:b≠t1:=fun q=>by have:=k.row;rw [q,e]at this;injection this with this;injection this with this _;simp [aU,kP]at this
  simp only [aO];refine dQ e rfl (by simp [aU]) ?_;have es:splice 14 [.nil] (aU s v)=aU s .nil:=rfl;rw [es];refine fT upd_same (by rfl) ?_;simp only [aP,aO];have r1:upd S1 t1 (.row (aU s .nil) 29) b=some (.row (kP (st0 s) t) 55):=by rw [aG hbt];exact k.row
  have tt1:t≠t1:=fun q=>by obtain⟨_,q1,_⟩:=k.LQ;have:=q1.row;rw [q,e]at this;injection this with this;injection this with this _;simp [aU]at this
  have mt1:m≠t1:=fun q=>by obtain⟨_,q1,_⟩:=k.LQ;have:=q1.map;rw [q,e]at this;cases this
  have k2:Bal (upd S1 t1 (.row (aU s .nil) 29)) b t m 55 ⟨st0 s,acc⟩:=by
   obtain⟨l0,q1,q2⟩:=k.LQ;exact⟨r1,⟨l0,⟨by rw [aG tt1];exact q1.row,by rw [aG mt1];exact q1.map⟩,q2⟩,k.inv,k.bt,k.bm,k.tm⟩
  have st:∀{k:Hp->Prop},k (upd (upd S1 t1 (.row (aU s .nil) 29)) b (.row (kP s t) 55))->jK 15 (.ptr b 0) (.agg (aU s .nil)) (upd S1 t1 (.row (aU s .nil) 29)) k:=fun {k} h=>by
   unfold jK;simp only [r1];exact⟨rfl,rfl,by simp [kP],h⟩
  refine st (aK (hok acc h2 _ (fun z o e2=>?_) (k2.set (s:=s) rfl i)));rw [aG (fun q=>by rw [q,hb]at e2;cases e2),aG (fun q=>by rw [q,ht1]at e2;cases e2)];exact c z o e2
 intro q;induction q with
 | zero=>
  intro j S1 acc h1 h2 h3 c k i e;rw [uT];unfold pY;refine aN ?_;rw [aI,nB (by omega),bP];exact fin j S1 acc (by omega) h3 c k i e hn
 | succ q ih=>
  intro j S1 acc h1 h2 h3 c k i e;rw [uT];unfold pY;refine aN ?_;rw [aI];by_cases hi:j<l.length
  ·have hv1:Gv 39 S1 v l:=hv.mono fun z o e2 _=>c z o e2
   have hlj:l.drop j=l[j]::l.drop (j+1):=List.drop_eq_getElem_cons hi
   have e3:oA s acc (l.drop j)=if s.takes acc l[j]then oA s (uP l[j] acc) (l.drop (j+1))else none:=by
    rw [hlj];rfl
   rw [LR hi,cO,hv1.at hi];refine cG (l:=tG.vv) rfl fun p hp=>?_;refine gE upd_same (by rfl) (by rfl) (by rfl) ?_;rw [cP];have le1:dL S1 (upd S1 p (.row l[j].vv 39)):= .aV hp;have rp:upd S1 p (.row l[j].vv 39) p=some (.row l[j].vv 39):=upd_same;generalize upd S1 p (.row l[j].vv 39)=S2 at le1 rp;have k2:=k.le le1;obtain⟨m0,m1,m2,m3,m4⟩:=rO rp;simp only [aO,m1,dG,bD];by_cases c1:100<=l[j].rd
   ·rw [show decide (Int.ofNat 100<=l[j].rd)=true from decide_eq_true c1]
    repeat with_reducible (first | refine fI ?_ | refine gJ ?_ | refine fJ ?_ | refine pS ?_)
    have et:s.takes acc l[j]=false:=by
     rw [Bool.eq_false_iff];intro z;have:=((rB _ _).1 ((CZ _ _ _).1 z).2.1).1.2.2.2.1;omega
    rw [e3,et]at h3;exact cI (c.trans le1) (hbad h3)
   ·simp only [show decide (Int.ofNat 100<=l[j].rd)=false from decide_eq_false c1,aH]
    refine fT rp (by rfl) ?_;refine Yg (v:=l[j]) (by omega) Nz vP Oa Oc hx k2 (by omega) fun S3 c3 k3=>?_;have et:(st0 s).takes acc l[j]=s.takes acc l[j]:=Hv rfl rfl _ _;show GU .not (.bool ((st0 s).takes acc l[j])) _;rw [et,fG]
    have c4:dL S S3:=fun z o e2=>by
     rw [c3 z (fun q=>by rw [q,hb]at e2;cases e2) (fun q=>by rw [q,hm]at e2;cases e2)];exact le1 _ _ (c z o e2)
    cases ht2:s.takes acc l[j]with
    | false=>
     simp only [Bool.not_false,eA,cO];rw [e3,ht2]at h3;exact cI c4 (hbad h3)
    | true=>
     simp only [Bool.not_true,eA,bP,bA];rw [fF (by omega)];rw [e3,ht2]at h3;have ep:Ba.put ⟨st0 s,acc⟩ l[j]=⟨st0 s,uP l[j] acc⟩:=by unfold Ba.put;rw [if_pos (by rw [et];exact ht2)]
     rw [ep]at k3;have i2:=i.put l[j];have ep2:Ba.put ⟨s,acc⟩ l[j]=⟨s,uP l[j] acc⟩:=by unfold Ba.put;rw [if_pos ht2]
     rw [ep2]at i2;have nb:b≠t1:=fun q=>by have:=k.row;rw [q,e]at this;injection this with this;injection this with this _;simp [aU,kP]at this
     have nm:m≠t1:=fun q=>by obtain⟨_,q1,_⟩:=k.LQ;have:=q1.map;rw [q,e]at this;cases this
     exact ih (j+1) S3 (uP l[j] acc) (by omega) (by omega) h3 c4 k3 i2 (by rw [c3 t1 (Ne.symm nb) (Ne.symm nm)];exact le1 _ _ e)
  ·rw [nB hi,bP]
   exact fin j S1 acc (by omega) h3 c k i e hn
theorem aB5 (hM:100000<M) (hx:Deep PP bM gT M (n+4) x) (hlen:l.length<=100000) (hv:Gv 39 S v l) (hbad:¬(KB s/\∃l',oA s [] l=some l')->K (.tuple [.pW,.int .i64 4]) S) (hok:∀l' b t m S',KB s->oA s [] l=some l'->dL S S'->S b=none->S t=none->S m=none->Bal S' b t m 55 ⟨s,l'⟩->K (.tuple [.ptr b 0,.int .i64 0]) S'):x.call rW [.agg (aU s v)] S K:=by
 refine hx.call aFa fun y hy=>?_;rw [XH];unfold JW;have ho:(aU s v).all lL=true:=by simp [aU,hv.flat];exact⟨rfl,rfl,rfl,rfl,rfl,rfl,rfl,rfl,rfl,rfl,rfl,rfl,rfl,rfl⟩
 refine eQ ho fun t1 ht1=>?_;have le1:dL S (upd S t1 (.row (aU s v) 29)):= .aV ht1;have r1:upd S t1 (.row (aU s v) 29) t1=some (.row (aU s v) 29):=upd_same;generalize upd S t1 (.row (aU s v) 29)=S1 at le1 r1;obtain⟨q0,q1,q2,q3,_⟩:=fX r1;have aGJ:∀{S2:Hp},dL S1 S2->¬KB s->aS (.tuple [.pW,.int .i64 (.ofNat 4)]) S2 K:=fun le h=>cI (le1.trans le) (hbad fun q=>h q.1);simp only [aO,q0,q1,q2,q3];refine aEO aGC aFb hy.less (fun e=>?_) (fun hok1 m t b hm Sw ht hbt hbm hb=>?_)
 ·have d0:(!decide ((1:Int)=Int.ofNat 0))=true:=rfl
  simp only [oZ,pA,cW,d0,bD]
  repeat with_reducible (first | refine fI ?_ | refine gJ ?_ | refine fJ ?_ | refine pS ?_)
  exact aGJ (.refl _) fun q=>e q.1
 ·have fr:∀z,S1 z≠none->upd (upd (upd S1 m (.map [])) t (.row [.int .i64 s.n,.rS m] 96)) b (.row (kP (.start s.h s.n s.t s.me) t) 55) z=S1 z:=fun z hz=>by
   rw [aG (fun q=>hz (by rw [q];exact hb)),aG (fun q=>hz (by rw [q];exact ht)),aG (fun q=>hz (by rw [q];exact hm))]
  have kb:Bal (upd (upd (upd S1 m (.map [])) t (.row [.int .i64 s.n,.rS m] 96)) b (.row (kP (.start s.h s.n s.t s.me) t) 55)) b t m 55 ⟨st0 s,[]⟩:=
   ⟨upd_same,⟨[],⟨by rw [aG (Ne.symm hbt)];exact upd_same,by rw [aG (Ne.symm hbm),aG (Ne.symm Sw)];exact upd_same⟩,.refl _⟩,cA.start hok1,hbt,hbm,Sw⟩
  have r2:upd (upd (upd S1 m (.map [])) t (.row [.int .i64 s.n,.rS m] 96)) b (.row (kP (.start s.h s.n s.t s.me) t) 55) t1=some (.row (aU s v) 29):=by rw [fr t1 (by rw [r1];simp)];exact r1
  generalize upd (upd (upd S1 m (.map [])) t (.row [.int .i64 s.n,.rS m] 96)) b (.row (kP (.start s.h s.n s.t s.me) t) 55)=S2 at fr kb r2;have jX:dL S1 S2:=fun z o e=>by rw [fr z (by rw [e];simp)];exact e
  have bad:=fun h=>aGJ jX h;obtain⟨m0,m1,m2,m3,m4,m5,m6,m7,m8,m9,m10,m11,m12,m13,m14⟩:=fX r2;have hy1:Deep PP bM gT M (n+2+1) y:=hy;have d0:(!decide ((0:Int)=Int.ofNat 0))=false:=rfl;have e40:Int.ofNat 1099511627776=1099511627776:=rfl;simp only [oZ,pA,cW,d0,bD,aH,m4,aI,eA];by_cases c1:s.rd<0
  ·rw [show decide (s.rd<Int.ofNat 0)=true from decide_eq_true c1]
   repeat with_reducible (first | refine fI ?_ | refine gJ ?_ | refine fJ ?_ | refine pS ?_)
   exact bad fun q=>by have:=q.2.1;omega
  simp only [show decide (s.rd<Int.ofNat 0)=false from decide_eq_false c1,aH,m4,dG,eA];by_cases c2:100<=s.rd
  ·rw [show decide (Int.ofNat 100<=s.rd)=true from decide_eq_true c2]
   repeat with_reducible (first | refine fI ?_ | refine gJ ?_ | refine fJ ?_ | refine pS ?_)
   exact bad fun q=>by have:=q.2.1;omega
  simp only [show decide (Int.ofNat 100<=s.rd)=false from decide_eq_false c2,aH,m5,aI,eA];by_cases c3:s.st<1
  ·rw [show decide (s.st<Int.ofNat 1)=true from decide_eq_true c3]
   repeat with_reducible (first | refine fI ?_ | refine gJ ?_ | refine fJ ?_ | refine pS ?_)
   exact bad fun q=>by have:=q.2.2.1;omega
  simp only [show decide (s.st<Int.ofNat 1)=false from decide_eq_false c3,aH,m5,dN,eA];by_cases c4:3<s.st
  ·rw [show decide (Int.ofNat 3<s.st)=true from decide_eq_true c4]
   repeat with_reducible (first | refine fI ?_ | refine gJ ?_ | refine fJ ?_ | refine pS ?_)
   exact bad fun q=>by have:=q.2.2.1;omega
  simp only [show decide (Int.ofNat 3<s.st)=false from decide_eq_false c4,aH,m6,aI,eA];by_cases c5:s.age<0
  ·rw [show decide (s.age<Int.ofNat 0)=true from decide_eq_true c5]
   repeat with_reducible (first | refine fI ?_ | refine gJ ?_ | refine fJ ?_ | refine pS ?_)
   exact bad fun q=>by have:=q.2.2.2.1;omega
  simp only [show decide (s.age<Int.ofNat 0)=false from decide_eq_false c5,aH,m6,dN,eA];rw [e40];by_cases c6:1099511627776<s.age
  ·rw [decide_eq_true c6]
   repeat with_reducible (first | refine fI ?_ | refine gJ ?_ | refine fJ ?_ | refine pS ?_)
   exact bad fun q=>by have:=q.2.2.2.1;omega
  simp only [decide_eq_false c6,aH,m7,m9,m4,eA];refine Nt Og hy1 ?_;cases c7:oN s.lock s.mW s.rd with
  | false=>
   simp only [fG,Bool.not_false]
   repeat with_reducible (first | refine fI ?_ | refine gJ ?_ | refine fJ ?_ | refine pS ?_)
   exact bad fun q=>by have:=q.2.2.2.2.1;rw [c7]at this;cases this
  | true=>
   simp only [fG,Bool.not_true,aH,m8,m10,m4,eA];refine Nt Og hy1 ?_;cases c8:oN s.valid s.gA s.rd with
   | false=>
    simp only [fG,Bool.not_false]
    repeat with_reducible (first | refine fI ?_ | refine gJ ?_ | refine fJ ?_ | refine pS ?_)
    exact bad fun q=>by have:=q.2.2.2.2.2.1;rw [c8]at this;cases this
   | true=>
    simp only [fG,Bool.not_true,aH,m13,yN,dN,eA];by_cases c9:2048<s.dec.length
    ·rw [LR c9,cO]
     exact bad fun q=>by have:=q.2.2.2.2.2.2;omega
    ·rw [nB c9,bP]
     simp only [m14];have fits:KB s:=⟨hok1,by omega,by omega,by omega,c7,c8,by omega⟩;have hmm:y.most=M:=hy.most;obtain⟨p,hp⟩:=Nat.exists_eq_succ_of_ne_zero (show y.most≠0 by omega);rw [hv.len,hp];exact Zp (S:=S) (t1:=t1) hM hy hlen hv (le1.none hb) (le1.none ht) (le1.none hm) ht1 (fun e=>hbad fun q=>by obtain⟨_,l',q⟩:=q;rw [e]at q;cases q) (fun l' e S' c k=>hok l' b t m S' fits e c (le1.none hb) (le1.none ht) (le1.none hm) k) p 0 S2 [] (by omega) (by omega) rfl (le1.trans jX) kb fits.inv r2
end
set_option maxRecDepth 4000
theorem aB6:gT rV=none:=rfl
theorem aFr:gT nJ=none:=rfl
theorem Sj:gT pN=none:=rfl
def Mv (S S':Hp) (v:V) (l:List Vo):Prop:=(v= .nil/\l=[])\/∃i,v= .acc i l.length/\S' i=some (.iD (AT l) 39 l.length)/\S i=none
section
variable{M n b t m:Nat}{x:VE}{S S' S0:Hp}{K:KV}{a a0:Ba}{v:V}{s:Bs}{l l':List Vo}{ty ty1 ty2:TypeId}
theorem Mv.gv (h:Mv S S' v l):Gv 39 S' v l:=by
 rcases h with q | ⟨i,q1,q2,_⟩
 ·exact⟨.inl q⟩
 ·exact⟨.inr (.inr (.inl ⟨i,q1,q2⟩))⟩
theorem pR.aGK{S0 S:Hp}{el size bytes n k:Nat}{t w:V}{vs new:List V}{K:KV} (a:pR S0 S el size t vs n) (hw:∀k':Nat->List V->Prop,k' k new->zY size w S k') (hk0:0<k) (hn:new.length=k*size) (ho:new.all lL=true) (hle:∀i,S i=none->S0 i=none) (hb:(n+k)*(bytes+1)<=1099511627776)
 (hk:∀t2 S2,pR S0 S2 el size t2 (vs++new) (n+k)->(∀q o,S q=some o->(∀vs2 n2,o≠ .iD vs2 el n2)->S2 q=some o)->(∀j,S0 j≠none->S2 j=S j)->K t2 S2):oP el size bytes t w S K:=by
 obtain⟨p,rfl⟩:=Nat.exists_eq_succ_of_ne_zero (Nat.ne_of_gt hk0);unfold oP;refine hw _ ?_;refine⟨ho,?_⟩;have hlen:(vs++new).length=(n+(p+1))*size:=by rw [List.length_append,a.len,hn,Nat.add_mul]
 rcases a.is with ⟨rfl,rfl,rfl⟩ | ⟨i,rfl,h1,h2⟩
 ·refine⟨by simpa using hb,fun i hi=>?_⟩
  have:=hk (.acc i (0+(p+1))) (upd S i (.iD ([]++new) el (0+(p+1)))) ⟨.inr ⟨i,rfl,upd_same,hle i hi⟩,hlen⟩ (fun q o e _=>by
   rw [aG (fun z=>by rw [z,hi]at e;cases e)];exact e) (fun j hj=>aG (fun z=>hj (by rw [z];exact hle i hi)))
  simpa using this
 ·simp only [h1]
  refine⟨trivial,trivial,a.len,hb,?_⟩;refine hk _ _ ⟨.inr ⟨i,rfl,upd_same,h2⟩,hlen⟩ (fun q o e hg=>?_) (fun j hj=>aG (fun z=>hj (by rw [z];exact h2)));rw [aG (fun z=>by rw [z,h1]at e;injection e with e;exact hg _ _ e.symm)];exact e
theorem pR.mv{v:V} (h:pR S S' 39 5 v (AT l) l.length):Mv S S' v l:=by
 rcases h.is with ⟨q1,q2,_⟩ | ⟨i,q1,q2,q3⟩
 ·exact .inl ⟨q2,List.eq_nil_of_length_eq_zero q1⟩
 ·exact .inr ⟨i,q1,q2,q3⟩
theorem pR.flat{el size k:Nat}{v:V}{vs:List V} (h:pR S S' el size v vs k):lL v=true:=by
 rcases h.is with ⟨_,rfl,_⟩ | ⟨i,rfl,_⟩<;>rfl
theorem pR.same{el size k:Nat}{v:V}{vs:List V}{p:Prop} (h:pR S S' el size v vs k):aY v v p=p:=by
 rcases h.is with ⟨_,rfl,_⟩ | ⟨i,rfl,_⟩<;>exact rT rfl
theorem Zq{t1 t2 t3:Nat}{O:Tag} (hx:Deep PP bM gT M (n+1) x) (hlen:l.length<=100000) (h12:t1≠t2) (h13:t1≠t3) (h23:t2≠t3) (ht1:S t1=none) (ht2:S t2=none) (ht3:S t3=none) (hk:∀v S',dL S S'->Mv S S' v l->K (.agg (aU s v)) S'):
 ∀(q j:Nat) (v:V) (S1:Hp),l.length<=j+q->j<=l.length->dL S S1->S1 t1=some (.row (aU s (.list O (uQ l) l.length)) 24)->S1 t2=some (.row (aU KA .nil) 29)->S1 t3=some (.row (aU s v) 29)->pR S S1 39 5 v (AT (l.take j)) j->
  oG x (q+1) (.ptr t1 0) (.ptr t2 0) (.ptr t3 0) (.int .i64 (.ofNat j)) S1 K:=by
 have fin:∀(j:Nat) (v:V) (S1:Hp),l.length<=j->j<=l.length->dL S S1->S1 t2=some (.row (aU KA .nil) 29)->S1 t3=some (.row (aU s v) 29)->pR S S1 39 5 v (AT (l.take j)) j->(dK 15 (.ptr t3 0) S1 fun v19 S=>jK 15 (.ptr t2 0) v19 S fun S=>dK 15 (.ptr t2 0) S fun v20 _=>aS v20 S K):=fun j v S1 h1 h2 c e2 e3 ac=>by
  obtain rfl:j=l.length:=by omega
  rw [List.take_length]at ac;refine fT e3 (by rfl) ?_;have ho:(aU s v).all lL=true:=by simp [aU,ac.flat];exact⟨rfl,rfl,rfl,rfl,rfl,rfl,rfl,rfl,rfl,rfl,rfl,rfl,rfl,rfl⟩
  refine gE e2 ho (by rfl) (by rfl) ?_;refine fT upd_same (by rfl) (aK ?_)
  have c2:dL S (upd S1 t2 (.row (aU s v) 29)):=fun z o e=>by
   rw [aG (fun q=>by rw [q,ht2]at e;cases e)];exact c z o e
  refine hk v _ c2 (pR.mv (ac.keep fun i hi=>aG (fun q=>by rw [q,e2]at hi;cases hi)))
 intro q;induction q with
 | zero=>
  intro j v S1 h1 h2 c e1 e2 e3 ac;rw [wM];unfold qP;refine aN ?_;have LS:∀{K:KV},aE (.ptr t1 14) S1 K=K (.list O (uQ l) l.length) S1:=aJ e1;simp only [aO,LS,iY,aI,nB (show ¬j<l.length by omega),bP];exact fin j v S1 (by omega) h2 c e2 e3 ac
 | succ q ih=>
  intro j v S1 h1 h2 c e1 e2 e3 ac;rw [wM];unfold qP;refine aN ?_;have LS:∀{K:KV},aE (.ptr t1 14) S1 K=K (.list O (uQ l) l.length) S1:=aJ e1;have l3:∀{K:KV},aE (.ptr t3 14) S1 K=K v S1:=aJ e3;by_cases hi:j<l.length
  ·have he:∀{K:KV},dK 5 (.tS O (uQ l) (j*5)) S1 K=K (.agg l[j].vv) S1:=fun {K}=>by
    rw [KT,eE (by rw [yY];omega),PV l j l[j] (List.getElem?_eq_getElem hi)];rfl
   have sa:∀{p:Prop},aY (.agg l[j].vv) (.agg l[j].vv) p=p:=fun {p}=>rT rfl;simp only [aO,LS,l3,iY,aI,LR hi,cO,qN hi,he,sa,SJ,ac.same];refine⟨oQ rfl rfl rfl rfl fun _ _=>trivial,oQ rfl rfl rfl rfl fun p hp=>?_⟩;have le1:dL S1 (upd S1 p (.row l[j].vv 39)):= .aV hp;have rp:upd S1 p (.row l[j].vv 39) p=some (.row l[j].vv 39):=upd_same;generalize upd S1 p (.row l[j].vv 39)=S2 at le1 rp;have c2:=c.trans le1;refine(ac.keep fun i hi=>by rw [hi];exact le1 _ _ hi).aGK (k:=1) (fun k' h=>zZ rp rfl h) (by omega) rfl rfl (fun i hi=>c2.none hi) (by omega) ?_;intro t5 S3 ac3 f1 f2;have nr:∀{vs:List V} {ty:TypeId},∀vs2 n2,Ob.row vs ty≠ .iD vs2 39 n2:=fun _ _ e=>by cases e
   have g1:=f1 _ _ (le1 _ _ e1) nr;have g2:=f1 _ _ (le1 _ _ e2) nr;have g3:=f1 _ _ (le1 _ _ e3) nr;have c3:dL S S3:=fun z o e=>by rw [f2 z (by rw [e];simp)];exact c2 z o e
   have aHz:∀{K:KV},aE (.ptr t1 14) S3 K=K (.list O (uQ l) l.length) S3:=aJ g1;simp only [aHz,SJ];refine dQ g3 ac3.flat (by simp [aU]) ?_;have es:splice 14 [t5] (aU s v)=aU s t5:=rfl;rw [es,bA,fF (by omega)];refine ih (j+1) t5 _ (by omega) (by omega) (fun z o e=>?_) ?_ ?_ upd_same ?_
   ·rw [aG (fun q=>by rw [q,ht3]at e;cases e)];exact c3 z o e
   ·rw [aG h13];exact g1
   ·rw [aG h23];exact g2
   ·rw [VT l j hi]
    exact ac3.keep fun i hi=>aG (fun q=>by rw [q,g3]at hi;cases hi)
  ·simp only [aO,LS,iY,aI,nB hi,bP]
   exact fin j v S1 (by omega) h2 c e2 e3 ac
theorem aB7{O:Tag} (hM:100000<M) (hx:Deep PP bM gT M (n+2) x) (hlen:l.length<=100000) (hk:∀v S',dL S S'->Mv S S' v l->K (.agg (aU s v)) S'):x.call rV [.agg (aU s (.list O (uQ l) l.length))] S K:=by
 refine hx.call aB6 fun y hy=>?_;rw [XF];unfold JU;refine eQ rfl fun t1 ht1=>?_;have le1:dL S (upd S t1 (.row (aU s (.list O (uQ l) l.length)) 24)):= .aV ht1;have r1:upd S t1 (.row (aU s (.list O (uQ l) l.length)) 24) t1=some (.row (aU s (.list O (uQ l) l.length)) 24):=upd_same;generalize upd S t1 (.row (aU s (.list O (uQ l) l.length)) 24)=S1 at le1 r1;refine cG (l:=aU KA .nil) rfl fun t2 ht2=>?_;have jX:dL S1 (upd S1 t2 (.row (aU KA .nil) 29)):= .aV ht2;have r2:upd S1 t2 (.row (aU KA .nil) 29) t2=some (.row (aU KA .nil) 29):=upd_same;generalize upd S1 t2 (.row (aU KA .nil) 29)=S2 at jX r2;have r12:=jX _ _ r1;obtain⟨m0,m1,m2,m3,m4,m5,m6,m7,m8,m9,m10,m11,m12,m13,m14⟩:=fX r12;simp only [aO,m0,m1,m2,m3,m4,m5,m6,m7,m8,m9,m10,m11,m12,m13]
 have bld:∀{k:V->Prop},k (.agg (aU s .nil))->gP zSt (WC 0 [V.int .i64 s.h,.int .i64 s.n,.int .i64 s.t,.int .i64 s.me,.int .i64 s.rd,.int .i64 s.st,.int .i64 s.age,.str s.lock,.str s.valid,.int .i64 s.mW,.int .i64 s.gA,.bool s.prop,.bool s.seen,.str s.dec]) k:=fun {k} h=>by
  refine lW (z:=aU KA .nil) rfl ?_;exact bC rfl (by simp [aU]) (bC rfl (by simp [aU]) (bC rfl (by simp [aU]) (bC rfl (by simp [aU]) (bC rfl (by simp [aU]) (bC rfl (by simp [aU]) (bC rfl (by simp [aU]) (bC rfl (by simp [aU]) (bC rfl (by simp [aU]) (bC rfl (by simp [aU]) (bC rfl (by simp [aU]) (bC rfl (by simp [aU]) (bC rfl (by simp [aU]) (bC rfl (by simp [aU]) (oO h))))))))))))))
 refine bld ?_;refine cG (l:=aU KA .nil) rfl fun t3 ht3=>?_;refine gE upd_same (by rfl) (by rfl) (by rfl) ?_;rw [cP];have DC:dL S2 (upd S2 t3 (.row (aU s .nil) 29)):= .aV ht3;have r3:upd S2 t3 (.row (aU s .nil) 29) t3=some (.row (aU s .nil) 29):=upd_same;generalize upd S2 t3 (.row (aU s .nil) 29)=S3 at DC r3;have hmm:y.most=M:=hy.most;obtain⟨p,hp⟩:=Nat.exists_eq_succ_of_ne_zero (show y.most≠0 by omega);rw [hp];have h12:t1≠t2:=fun q=>by rw [q,ht2]at r1;cases r1
 have h13:t1≠t3:=fun q=>by rw [q,ht3]at r12;cases r12
 have h23:t2≠t3:=fun q=>by rw [q,ht3]at r2;cases r2
 exact Zq hy hlen h12 h13 h23 ht1 (le1.none ht2) ((le1.trans jX).none ht3) hk p 0 .nil S3 (by omega) (by omega) ((le1.trans jX).trans DC) (DC _ _ r12) (DC _ _ r2) r3 .nil
theorem aB8 (hx:Deep PP bM gT M (n+2) x) (k:Bal S b t m ty a) (hk:∀v S',dL S S'->Mv S S' v a.l->K (.agg (aU a.s v)) S'):x.call gX [.ptr b 0] S K:=by
 refine hx.call Of fun y hy=>?_;rw [uS];unfold pX;refine cG (l:=aU KA .nil) rfl fun i hi=>?_;have le1:dL S (upd S i (.row (aU KA .nil) 29)):= .aV hi;have ri:upd S i (.row (aU KA .nil) 29) i=some (.row (aU KA .nil) 29):=upd_same;generalize upd S i (.row (aU KA .nil) 29)=S1 at le1 ri;have k1:=k.le le1;refine yO kind25 ?_;rw [aT,if_neg (by simp)];simp only [aP,aO];rw [BV k1.row,eE (by simp [kP])];show fE zSt 29 S1 fun v7 S=>jK 15 v7 (.agg (aU a.s .nil)) S _;refine cG (l:=aU KA .nil) rfl fun j hj=>?_;refine gE upd_same (by rfl) (by rfl) (by rfl) ?_;rw [cP];have hij:i≠j:=fun e=>by rw [e,hj]at ri;cases ri
 have jX:dL S1 (upd S1 j (.row (aU a.s .nil) 29)):= .aV hj;have rj:upd S1 j (.row (aU a.s .nil) 29) j=some (.row (aU a.s .nil) 29):=upd_same;have Lc:=jX _ _ ri;generalize upd S1 j (.row (aU a.s .nil) 29)=S2 at jX rj Lc;have k2:=k1.le jX;have le:=le1.trans jX;have l15:∀{K:KV},aE (.ptr b 15) S2 K=K (.ptr t 0) S2:=aJ k2.row;simp only [l15];obtain⟨l0,h1,h2,h3⟩:=k2.okl;have hs:=IF k.inv.HI h3
 have fin:∀(v:V) (S3:Hp),S3 i=some (.row (aU KA .nil) 29)->S3 j=some (.row (aU a.s .nil) 29)->dL S S3->Mv S S3 v a.l->
  jK 1 (.ptr j 14) v S3 fun S=>dK 15 (.ptr j 0) S fun v13 S=>jK 15 (.ptr i 0) v13 S fun S=>dK 15 (.ptr i 0) S fun v14 _=>aS v14 S K:=by
  intro v S3 e1 e2 e4 e5;have e3:lL v=true:=by rcases e5 with ⟨rfl,_⟩ | ⟨z,rfl,_⟩<;>rfl
  refine dQ e2 e3 (by simp [aU]) ?_;refine fT upd_same (by rfl) ?_;refine gE (by rw [aG hij];exact e1) (by simp [splice,aU,e3];exact⟨rfl,rfl,rfl,rfl,rfl,rfl,rfl,rfl,rfl,rfl,rfl,rfl,rfl,rfl⟩) (by rfl) (by rfl) ?_;refine fT upd_same (by rfl) (aK ?_);have hi4:S i=none:=hi;have hj4:S j=none:=le1.none hj;refine hk v _ (pI (pI e4 hj4) hi4) ?_;rcases e5 with q | ⟨z,q1,q2,q3⟩
  ·exact .inl q
  ·refine .inr ⟨z,q1,?_,q3⟩
   rw [aG (fun q4=>by rw [q4,e1]at q2;cases q2),aG (fun q4=>by rw [q4,e2]at q2;cases q2)];exact q2
 refine hy.EG (f:=dJ) (g:=LJ) rfl ⟨t,m,a.s.n.toNat,l0,rfl,h1,h2,by rw [hs];exact k.inv.HI,fun e=>?_,fun e q hq=>?_⟩
 ·rw [hs]at e
  exact fin .nil S2 Lc rj le (.inl ⟨rfl,e⟩)
 ·rw [hs]
  refine fin (.acc q a.l.length) _ (by rw [aG (fun e=>by rw [<-e,Lc]at hq;cases hq)];exact Lc) (by rw [aG (fun e=>by rw [<-e,rj]at hq;cases hq)];exact rj) (pI le (le.none hq)) (.inr ⟨q,rfl,upd_same,le.none hq⟩)
theorem aFs (hx:Deep PP bM gT M (n+1) x) (k:Bal S b t m ty a) (hk:K (.tuple [.str a.s.dec,.bool (!decide (a.s.dec=[]))]) S):x.call nJ [.ptr b 0] S K:=by
 refine hx.call aFr fun y hy=>?_;rw [GX];unfold wO;refine yO kind25 ?_;have XN:∀{K:KV},aE (.ptr b 13) S K=K (.str a.s.dec) S:=aJ k.row;simp only [bP,aP,aO,XN,kT];exact aK hk
theorem Lm{v1 v2:V}{l:List (List UInt8)} (h1:Sv S v1 l) (h2:Sv S v2 l) (hl:l.length<=1000000) (hk:K (.bool true) S):∀(q i:Nat),l.length<=i+q->i<=l.length->mS x (q+1) v1 v2 (.int .i64 (.ofNat i)) S K:=by
 intro q;induction q with
 | zero=>
  intro i g1 g2;rw [uG];unfold pG;refine aN ?_;rw [h1.len,aI,nB (by omega),bP];exact aK hk
 | succ q ih=>
  intro i g1 g2;rw [uG];unfold pG;refine aN ?_;rw [h1.len,aI];by_cases hi:i<l.length
  ·rw [LR hi,cO,h1.at hi,h2.at hi]
   simp only [kT,decide_true,Bool.not_true,bP,bA];rw [fF (by omega)];exact ih (i+1) (by omega) (by omega)
  ·rw [nB hi,bP]
   exact aK hk
theorem Sk{v1 v2:V}{l:List (List UInt8)} (hM:100000<M) (hx:Deep PP bM gT M (n+1) x) (h1:Sv S v1 l) (h2:Sv S v2 l) (hl:l.length<=100000) (hk:K (.bool true) S):x.call pN [v1,v2] S K:=by
 refine hx.call Sj fun y hy=>?_;rw [RU];unfold FE;have hmm:y.most=M:=hy.most;obtain⟨p,hp⟩:=Nat.exists_eq_succ_of_ne_zero (show y.most≠0 by omega);rw [h1.len,h2.len,cW,hp];simp only [decide_true,Bool.not_true,bP];exact Lm h1 h2 (by omega) hk p 0 (by omega) (by omega)
theorem Ln{v1 v2:V} (g1:Gv ty1 S v1 l) (g2:Gv ty2 S v2 l) (hl:l.length<=1000000) (hk:K (.bool true) S):∀(q i:Nat),l.length<=i+q->i<=l.length->pE x (q+1) v1 v2 (.int .i64 (.ofNat i)) S K:=by
 intro q;induction q with
 | zero=>
  intro i h1 h2;rw [xX];unfold rM;refine aN ?_;rw [g1.len,aI,nB (by omega),bP];exact aK hk
 | succ q ih=>
  intro i h1 h2;rw [xX];unfold rM;refine aN ?_;rw [g1.len,aI];by_cases hi:i<l.length
  ·rw [LR hi,cO,g1.at hi,g2.at hi]
   refine Xy (a:=l[i].vv) (b:=l[i].vv) aEN ⟨rfl,rfl,rfl,rfl,trivial,trivial⟩ ⟨rfl,rfl,rfl,rfl,trivial,trivial⟩ (fun e=>?_) (fun e=>absurd rfl e);rw [bP,bA,fF (by omega)];exact ih (i+1) (by omega) (by omega)
  ·rw [nB hi,bP]
   exact aK hk
theorem Sl{v1 v2:V} (hM:100000<M) (hx:Deep PP bM gT M (n+1) x) (g1:Gv ty1 S v1 l) (g2:Gv ty2 S v2 l) (hl:l.length<=100000) (hk:K (.bool true) S):x.call tY [v1,v2] S K:=by
 refine hx.call Yt fun y hy=>?_;rw [Cu];unfold NJ;have hmm:y.most=M:=hy.most;obtain⟨p,hp⟩:=Nat.exists_eq_succ_of_ne_zero (show y.most≠0 by omega);rw [g1.len,g2.len,cW,hp];simp only [decide_true,Bool.not_true,bP];exact Ln g1 g2 (by omega) hk p 0 (by omega) (by omega)
theorem Sm{v1 v2:V} (hM:100000<M) (hx:Deep PP bM gT M (n+2) x) (g1:Gv ty1 S v1 l) (g2:Gv ty2 S v2 l) (hl:l.length<=10000) (hk:K (.bool true) S):x.call yR [.agg (aU s v1),.agg (aU s v2)] S K:=by
 refine hx.call Ys fun y hy=>?_;rw [Cr];unfold NG;have ho:∀{v:V},lL v=true->(aU s v).all lL=true:=fun h=>by simp [aU,h];exact⟨rfl,rfl,rfl,rfl,rfl,rfl,rfl,rfl,rfl,rfl,rfl,rfl,rfl,rfl⟩
 refine eQ (ho g1.flat) fun pi hpi=>?_;have le1:dL S (upd S pi (.row (aU s v1) 24)):= .aV hpi;have r1:upd S pi (.row (aU s v1) 24) pi=some (.row (aU s v1) 24):=upd_same;generalize upd S pi (.row (aU s v1) 24)=S1 at le1 r1;refine eQ (ho g2.flat) fun qi hqi=>?_;have jX:dL S1 (upd S1 qi (.row (aU s v2) 24)):= .aV hqi;have r3:upd S1 qi (.row (aU s v2) 24) qi=some (.row (aU s v2) 24):=upd_same;have r2:=jX _ _ r1;generalize upd S1 qi (.row (aU s v2) 24)=S2 at jX r3 r2;obtain⟨p0,p1,p2,p3,p4,p5,p6,p7,p8,p9,p10,p11,p12,p13,p14⟩:=fX r2;obtain⟨q0,q1,q2,q3,q4,q5,q6,q7,q8,q9,q10,q11,q12,q13,q14⟩:=fX r3;simp only [bD,aH,aR,aO,if_true,p0,p1,p2,p3,p4,p5,p6,p7,p8,p9,p10,p11,p12,p13,q0,q1,q2,q3,q4,q5,q6,q7,q8,q9,q10,q11,q12,q13,p14,q14,bW,gL,IG Hf,decide_true];have le:=le1.trans jX;refine Sl (ty1:=ty1) (ty2:=ty2) hM hy (g1.mono fun z o e _=>le z o e) (g2.mono fun z o e _=>le z o e) (by omega) ?_
 first
  | exact cI le hk
  | (simp only [aR,if_true];exact cI le hk)
theorem Lv.src (h:Lv S v l){k:Nat->List V->Prop} (hk:k l.length (AT l)):zY 5 v S k:=by
 rcases h.is with ⟨rfl,rfl⟩ | ⟨j,rfl,e,rfl⟩ | ⟨i,rfl,e⟩
 ·exact hk
 ·unfold zY
  simp only [e];rw [eE (by simp)];exact hk
 ·unfold zY
  simp only [e];exact⟨trivial,pH l,hk⟩
theorem aB9 (hx:Deep PP bM gT M (n+1) x) (k:RB S b a) (i:cA a) (hk:∀b2 S',dL S S'->S b2=none->RB S' b2 a->K (.ptr b2 0) S'):x.call mC [.ptr b 0] S K:=by
 refine hx.call aB4 fun y hy=>?_;rw [LD];unfold AI;obtain⟨v,hb,hl⟩:=k.row;have hlen:=i.len;simp only [aP];refine fT hb (by rfl) ?_;have ho:∀{v:V},lL v=true->(aU a.s v).all lL=true:=fun h=>by simp [aU,h];exact⟨rfl,rfl,rfl,rfl,rfl,rfl,rfl,rfl,rfl,rfl,rfl,rfl,rfl,rfl⟩
 refine cG (l:=aU KA .nil) rfl fun b2 hb2=>?_;refine gE upd_same (ho hl.flat) (by rfl) (by rfl) ?_;rw [cP];have le1:dL S (upd S b2 (.row (aU a.s v) 24)):= .aV hb2;have r1:upd S b2 (.row (aU a.s v) 24) b2=some (.row (aU a.s v) 24):=upd_same;generalize upd S b2 (.row (aU a.s v) 24)=S1 at le1 r1;have bS:∀{K:KV},(∀j,S1 j=none->K (.own j 0 0 0) (upd S1 j (.row [] 49)))->dP 49 0 [(.int .i64 (.ofNat 0)),(.int .i64 (.ofNat 0)),(.int .u8 (.ofNat 0)),(.int .i64 (.ofNat 0)),(.string ⟨⟨[]⟩⟩)] [] S1 K:=fun h=>h;refine bS fun j hj=>?_;have jX:dL S1 (upd S1 j (.row [] 49)):= .aV hj;have r2:upd S1 j (.row [] 49) j=some (.row [] 49):=upd_same;generalize upd S1 j (.row [] 49)=S2 at jX r2;have le:=le1.trans jX;have hb3:=le _ _ hb;have hl3:=hl.hle le;have LS:∀{K:KV},aE (.ptr b 14) S2 K=K v S2:=aJ hb3;simp only [aO,LS]
 have fin:∀(w:V) (S3:Hp),dL S2 S3->lL w=true->Lv S3 w a.l->jK 1 (.ptr b2 14) w S3 fun S=>aS (.ptr b2 0) S K:=fun w S3 c h1 h2=>by
  have g:=c _ _ (jX _ _ r1);refine dQ g h1 (by simp [aU]) (aK ?_);have es:splice 14 [w] (aU a.s v)=aU a.s w:=rfl;rw [es];refine hk b2 _ (fun z o e=>?_) hb2 ⟨w,upd_same,?_⟩
  ·rw [aG (fun q=>by rw [q,hb2]at e;cases e)];exact c _ _ (le z o e)
  ·rcases h2.is with q | ⟨z,q1,q2,q3⟩ | ⟨z,q1,q2⟩
   ·exact⟨.inl q⟩
   ·exact⟨.inr (.inl ⟨z,q1,by rw [aG (SO g q2 (by simp))];exact q2,q3⟩)⟩
   ·exact⟨.inr (.inr ⟨z,q1,by rw [aG (fun e=>by rw [e,g]at q2;cases q2)];exact q2⟩)⟩
 unfold oP;refine hl3.src ?_;cases hal:a.l with
 | nil=>
  refine⟨Nat.le_refl _,fin _ S2 (.refl _) rfl ⟨.inr (.inl ⟨j,rfl,r2,hal⟩)⟩⟩
 | cons w l'=>
  refine⟨?_,?_⟩
  ·exact Oj _
  ·simp only [r2]
   rw [hal]at hlen;simp only [List.length_cons]at hlen;refine⟨by omega,by simp,fun h=>absurd h (by omega),fun _ z hz=>?_⟩;refine fin _ _ (.aV hz) rfl ⟨.inr (.inr ⟨z,by rw [hal];simp,?_⟩)⟩;rw [upd_same,hal];simp
end
set_option maxRecDepth 4000
def DD (l:List (List UInt8)):List V:=l.map (V.str)
theorem sJ (l:List (List UInt8)):(DD l).length=l.length:=by simp [DD]
theorem zE{l:List (List UInt8)}{p:Nat} (h:p<l.length):l.getD p []=l[p]:=by rw [List.getD_eq_getElem?_getD,List.getElem?_eq_getElem h];rfl
theorem IM{l:List (List UInt8)}{p:Nat} (h:p<l.length):(DD l)[p]? =some (.str (l.getD p [])):=by
 unfold DD;rw [List.getElem?_map,List.getElem?_eq_getElem h,zE h];rfl
theorem aCa (l:List (List UInt8)) (p:Nat) (z:List UInt8):(DD l).set p (.str z)=DD (l.set p z):=by
 unfold DD;rw [List.map_set]
def kpS (zs:List (List UInt8)) (j:Nat):Bool:=decide (j=0) || !decide (zs.getD j []=zs.getD (j-1) [])
def HM (zs:List (List UInt8)):Nat->List (List UInt8)
 | 0=>[]
 | j+1=>if kpS zs j then HM zs j++[zs.getD j []]else HM zs j
def Lo (zs:List (List UInt8)):List (List UInt8):=HM zs zs.length
theorem Hx{zs:List (List UInt8)}{j:Nat} (h0:0<j) (h:zs.getD j []=zs.getD (j-1) []):HM zs (j+1)=HM zs j:=by
 conv=>lhs;unfold HM
 rw [show kpS zs j=false by unfold kpS;rw [decide_eq_false (by omega),decide_eq_true h];rfl];rfl
theorem Om{zs:List (List UInt8)}{j:Nat} (h:¬zs.getD j []=zs.getD (j-1) []):HM zs (j+1)=HM zs j++[zs.getD j []]:=by
 conv=>lhs;unfold HM
 rw [show kpS zs j=true by unfold kpS;rw [decide_eq_false h];simp];rfl
theorem aCb (zs:List (List UInt8)):∀j,(HM zs j).length<=j:=by
 intro j;induction j with
 | zero=>exact Nat.le_refl _
 | succ j ih=>
  unfold HM;split
  ·rw [List.length_append];simp;exact ih
  ·omega
section
variable{x:VE}{K:KV}{zs:List (List UInt8)}{i n:Nat}{S':Hp}
theorem aFt (hn:zs.length=n) (hM:n<x.most) (hb:n<1000000000) (hs:S' i=none) (hk:∀O,K (.list O (dV (Lo zs)) (Lo zs).length) S') (m0:Nat){k:Nat} (k1:1<=k):
 ∀(m k2 kk:Nat) (S:Hp) (cur:List (List UInt8)),dL S' S->S i=some (.iD (DD cur) 9 n)->cur.length=n->1<=k2->k+k2<=n->n<=k+k2+m->kk=(HM zs (k+k2)).length->kk<k+k2->cur.take kk=HM zs (k+k2)->cur.drop (k+k2-1)=zs.drop (k+k2-1)->
  bY x (m+1) m0 (.acc i n) (.int .i64 (.ofNat kk)) (.FN i n (k*1) (n-k) (n-k)) (.int .i64 (.ofNat k2)) S K:=by
 have fin:∀(k2 kk:Nat) (S:Hp) (cur:List (List UInt8)),dL S' S->S i=some (.iD (DD cur) 9 n)->cur.length=n->k+k2=n->kk=(HM zs (k+k2)).length->kk<k+k2->cur.take kk=HM zs (k+k2)->
  (uO 9 1 (.acc i n) (some (.int .i64 (.ofNat kk))) none none S fun v12=>ED [(.string ⟨⟨[]⟩⟩)] v12 S fun S=>uO 9 1 (.acc i n) none (some (.int .i64 (.ofNat kk))) none S fun v13=>aS v13 S K):=by
  intro k2 kk S cur hle hi hc hk2 e1 e2 e3;refine HY hi (by omega) ?_;refine UI hi rfl (by omega) (by simp [sJ];omega) ?_;refine Bk upd_same (by omega) (by omega) ?_;have e4:HM zs (k+k2)=Lo zs:=by rw [hk2,<-hn];rfl
  rw [e4]at e1 e3;have e5:(Lo zs).length=kk:=e1.symm;refine⟨S',fun O=> .list (O 0) (dV (Lo zs)) kk,pI hle hs,fun O=> .one (.dat (.FN (cs:=dV (Lo zs)) upd_same hs (by omega) ?_ ?_)),fun O=>by rw [<-e5];exact hk _⟩
  ·rw [rC,e5];unfold splice;simp [sJ];omega
  ·intro j v d h1 h2
   have hj:j<kk:=by have:=(List.getElem?_eq_some_iff.1 h2).1;rw [rC]at this;omega
   have h3:(DD cur)[j]? =some v:=by
    unfold splice at h1;rw [Nat.zero_add,List.append_assoc,List.getElem?_append_left (by rw [List.length_take,sJ];omega),List.getElem?_take,if_pos (by omega)]at h1;exact h1
   rw [IM (by omega)]at h3;injection h3 with h3;subst h3;unfold dV at h2;rw [List.getElem?_map,<-e3,List.getElem?_take,if_pos hj,List.getElem?_eq_getElem (by omega)]at h2;injection h2 with h2;subst h2;rw [zE (by omega)];exact .str
 intro m;induction m with
 | zero=>
  intro k2 kk S cur hle hi hc h2 hle2 hm e1 e2 e3 e4;rw [fW];unfold cQ;refine aN ?_;rw [HV,aI,aT,if_neg (by simp;omega)];exact fin k2 kk S cur hle hi hc (by omega) e1 e2 e3
 | succ m ih=>
  intro k2 kk S cur hle hi hc h2 hle2 hm e1 e2 e3 e4;rw [fW];unfold cQ;refine aN ?_;rw [HV,aI,aT];by_cases hlt:k2<n-k
  ·have cell:∀p,k+k2-1<=p->p<n->cur.getD p []=zs.getD p []:=by
    intro p h1 h3;have:=congrArg (fun l:List (List UInt8)=>l.getD (p-(k+k2-1)) []) e4;simp only [List.getD_eq_getElem?_getD,List.getElem?_drop]at this;rw [show k+k2-1+(p-(k+k2-1))=p by omega]at this;simpa [List.getD_eq_getElem?_getD]using this
   rw [if_pos (by simp;omega),CL hlt];refine JQ hi (IM (by omega)) ?_;rw [lV,PW (by omega) (by omega),CL (by omega)];refine JQ hi (IM (by omega)) ?_;rw [kT,aT];have c1:cur.getD (k*1+k2*1) []=zs.getD (k+k2) []:=by rw [show k*1+k2*1=k+k2 by omega];exact cell _ (by omega) (by omega)
   have c2:cur.getD (k*1+(k2-1)*1) []=zs.getD (k+k2-1) []:=by rw [show k*1+(k2-1)*1=k+k2-1 by omega];exact cell _ (by omega) (by omega)
   rw [c1,c2]
   have next:∀(S2:Hp) (PX:List (List UInt8)) (Rk:Nat),dL S' S2->S2 i=some (.iD (DD PX) 9 n)->PX.length=n->Rk=(HM zs (k+(k2+1))).length->Rk<k+(k2+1)->PX.take Rk=HM zs (k+(k2+1))->PX.drop (k+k2)=zs.drop (k+k2)->bU x m0 (m+1) (.acc i n) (.int .i64 (.ofNat Rk)) (.FN i n (k*1) (n-k) (n-k)) (.int .i64 (.ofNat k2)) S2 K:=by
    intro S2 PX Rk q1 q2 q3 q4 q5 q6 q7;rw [kQ x (by omega)];unfold cL;refine aN ?_;rw [bA,fF (by omega)];exact ih (k2+1) Rk S2 PX q1 q2 q3 (by omega) (by omega) (by omega) q4 q5 q6 (by rw [show k+(k2+1)-1=k+k2 by omega];exact q7)
   have hd1:cur.drop (k+k2)=zs.drop (k+k2):=by
    have:=congrArg (List.drop 1) e4
    rwa [List.drop_drop,List.drop_drop,show k+k2-1+1=k+k2 by omega]at this
   have hz:¬k+k2=0:=by omega
   by_cases hd:zs.getD (k+k2) []=zs.getD (k+k2-1) []
   ·rw [if_neg (by simp only [hd];simp)]
    have e5:HM zs (k+(k2+1))=HM zs (k+k2):=Hx (show 0<k+k2 by omega) hd;exact next S cur kk hle hi hc (by rw [e5];exact e1) (by omega) (by rw [e5];exact e3) hd1
   ·rw [if_pos (by rw [decide_eq_false hd];rfl),CL hlt]
    refine JQ hi (IM (by omega)) ?_;rw [c1,dR (by omega),Nat.mul_one];refine Ng hi rfl (by rw [sJ];omega) ?_;rw [EI (by rw [sJ];omega),aCa,bA,fF (show kk<4611686018427387904 by have:=aCb zs (k+k2);omega)];have e5:HM zs (k+(k2+1))=HM zs (k+k2)++[zs.getD (k+k2) []]:=Om hd;refine next _ _ (kk+1) (pI hle hs) upd_same (by simp;omega) (by rw [e5,List.length_append,<-e1];rfl) (by omega) ?_ ?_
    ·rw [e5,<-e3]
     apply List.ext_getElem?;intro p;rw [List.getElem?_take];by_cases h1:p<kk
     ·rw [if_pos (by omega),List.getElem?_set_ne (by omega),List.getElem?_append_left (by rw [List.length_take];omega),List.getElem?_take,if_pos h1]
     ·by_cases h3:p=kk
      ·subst h3
       rw [if_pos (by omega),List.getElem?_set_self (by omega),List.getElem?_append_right (by rw [List.length_take];omega),List.length_take];rw [show p-min p cur.length=0 by omega];rfl
      ·rw [if_neg (by omega),List.getElem?_eq_none (by simp;omega)]
    ·rw [List.drop_set_of_lt (by omega)];exact hd1
  ·rw [if_neg (by simp;omega)]
   exact fin k2 kk S cur hle hi hc (by omega) e1 e2 e3
theorem aFu (hn:zs.length=n) (hM:n<x.most) (hb:n<1000000000) (hs:S' i=none) (hk:∀O,K (.list O (dV (Lo zs)) (Lo zs).length) S'){S:Hp} (hle:dL S' S) (hi:S i=some (.iD (DD zs) 9 n)):
 ∀(m k:Nat),1<=k->k<=n->n<=k+m->HM zs k=zs.take k->dA x (m+1) (.acc i n) (.int .i64 (.ofNat k)) S K:=by
 have fin:∀k,n=k->HM zs k=zs.take k->aS (.acc i n) S K:=by
  intro k h1 h2;subst h1;have e4:Lo zs=zs:=by unfold Lo;rw [hn,h2,<-hn,List.take_length]
  refine⟨S',fun O=> .list (O 0) (dV zs) n,hle,fun O=> .one (.dat (.acc hi hs (by rw [sJ,rC]) ?_)),fun O=>by have:=hk (O 0);rwa [e4,hn]at this⟩;intro j v d h3 h4;unfold DD at h3;unfold dV at h4;rw [List.getElem?_map]at h3 h4;cases hq:zs[j]? with
  | none=>rw [hq]at h3;cases h3
  | some z=>rw [hq]at h3 h4;injection h3 with h3;injection h4 with h4;subst h3 h4;exact .str
 intro m;induction m with
 | zero=>
  intro k h1 h2 h3 h4;rw [jE];unfold fA;refine aN ?_;rw [jW,aI,aT,if_neg (by simp;omega)];exact fin k (by omega) h4
 | succ m ih=>
  intro k h1 h2 h3 h4;rw [jE];unfold fA;refine aN ?_;rw [jW,aI,aT];by_cases hlt:k<n
  ·rw [if_pos (by simp;omega),dR hlt]
   refine JQ hi (IM (by omega)) ?_;rw [lV,PW (by omega) (by omega),dR (by omega)];refine JQ hi (IM (by omega)) ?_;rw [gL,aT,Nat.mul_one,Nat.mul_one];have hz:¬k=0:=by omega
   by_cases hd:zs.getD k []=zs.getD (k-1) []
   ·rw [if_pos (by simp only [hd];simp)]
    refine HY hi hlt ?_;obtain⟨p,hp⟩:=Nat.exists_eq_succ_of_ne_zero (show x.most≠0 by omega);rw [hp];have e5:HM zs (k+1)=zs.take k:=(Hx (by omega) hd).trans h4;have e6:(HM zs (k+1)).length=k:=by rw [e5,List.length_take];omega
    exact aFt hn hM hb hs hk (m+1) h1 p 1 k S zs hle hi hn (Nat.le_refl _) (by omega) (by omega) e6.symm (by omega) e5.symm rfl
   ·rw [if_neg (by rw [decide_eq_false hd];simp),bA,fF (by omega)]
    refine ih (k+1) (by omega) (by omega) (by omega) ?_;rw [Om hd,List.take_add_one,List.getElem?_eq_getElem (by omega),h4,zE (by omega)];rfl
  ·rw [if_neg (by simp;omega)]
   exact fin k (by omega) h4
end
section
variable{ov:XE}{M d i n:Nat}{x:VE}{S S':Hp}{K:KV}{zs:List (List UInt8)}
theorem Lp (hf:ov bE=none) (hx:Deep PP bM ov M (d+1) x) (hn:zs.length=n) (hM:n<M) (hb:n<1000000000) (hs:S' i=none) (hle:dL S' S) (h1:1<=n) (hi:S i=some (.iD (DD zs) 9 n)) (hk:∀O,K (.list O (dV (Lo zs)) (Lo zs).length) S'):x.call bE [.acc i n] S K:=by
 refine hx.call hf fun y hy=>?_;rw [iC];unfold eL;have hm:y.most=M:=hy.most;rw [jW,aI,aT]
 have one:HM zs 1=zs.take 1:=by
  cases zs with
  | nil=>simp at hn;omega
  | cons a l=>rfl
 by_cases h2:n<2
 ·rw [if_pos (by simp;omega)]
  have e:n=1:=by omega
  subst e;have e4:Lo zs=zs:=by unfold Lo;rw [hn,one,<-hn,List.take_length]
  refine⟨S',fun O=> .list (O 0) (dV zs) 1,hle,fun O=> .one (.dat (.acc hi hs (by rw [sJ,rC]) ?_)),fun O=>by have:=hk (O 0);rwa [e4,hn]at this⟩;intro j v d h3 h4;unfold DD at h3;unfold dV at h4;rw [List.getElem?_map]at h3 h4;cases hq:zs[j]? with
  | none=>rw [hq]at h3;cases h3
  | some z=>rw [hq]at h3 h4;injection h3 with h3;injection h4 with h4;subst h3 h4;exact .str
 ·rw [if_neg (by simp;omega)]
  obtain⟨p,hp⟩:=Nat.exists_eq_succ_of_ne_zero (show y.most≠0 by omega);rw [hp];exact aFu hn (by omega) hb hs hk hle hi p 1 (Nat.le_refl _) h1 (by omega) one
end
set_option maxRecDepth 4000
def BZ (a b:List UInt8):Bool:=Op.bytesLess a b
theorem aFv (a b:List UInt8):BZ a b=decide (a<b):=Go.Proofs.bytesLess_eq a b
theorem OA:∀(a:List UInt8),BZ a a=false
 | []=>rfl
 | x::a=>by
  have h:=OA a;unfold BZ at h ⊢;rw [Op.bytesLess,h];simp
theorem zG:∀{a b c:List UInt8},BZ a b=true->BZ b c=true->BZ a c=true
 | [],_,[],_,h=>by cases ‹List UInt8›<;>cases h
 | [],_,_::_,_,_=>rfl
 | x::a,[],_,h,_=>by cases h
 | x::a,y::b,[],_,h=>by cases h
 | x::a,y::b,z::c,h1,h2=>by
  unfold BZ at h1 h2 ⊢;rw [Op.bytesLess]at h1 h2 ⊢;simp only [Bool.or_eq_true,decide_eq_true_eq,Bool.and_eq_true,beq_iff_eq,UInt8.lt_iff_toNat_lt]at h1 h2 ⊢;rcases h1 with h1 | ⟨rfl,h1⟩
  ·rcases h2 with h2 | ⟨rfl,h2⟩
   ·left;omega
   ·left;exact h1
  ·rcases h2 with h2 | ⟨rfl,h2⟩
   ·left;exact h2
   ·exact .inr ⟨rfl,zG (a:=a) (b:=b) (c:=c) h1 h2⟩
theorem OB:∀{a b:List UInt8},BZ a b=false->BZ b a=false->a=b
 | [],[],_,_=>rfl
 | [],_::_,h,_=>by cases h
 | _::_,[],_,h=>by cases h
 | x::a,y::b,h1,h2=>by
  unfold BZ at h1 h2;rw [Op.bytesLess]at h1 h2;simp only [Bool.or_eq_false_iff,decide_eq_false_iff_not,UInt8.lt_iff_toNat_lt]at h1 h2;have e:x=y:=UInt8.toNat_inj.1 (by omega);subst e;have h3:BZ a b=false:=by have:=h1.2;simpa [BZ]using this
  have h4:BZ b a=false:=by have:=h2.2;simpa [BZ]using this
  rw [OB h3 h4]
theorem aCc:∀{l l':List (List UInt8)},l.Pairwise (fun u w=>BZ u w=true)->l'.Pairwise (fun u w=>BZ u w=true)->(∀x,x∈l↔x∈l')->l=l':=by
 intro l;induction l with
 | nil=>
  intro l' _ _ h;cases l' with
  | nil=>rfl
  | cons b l'=>exact absurd ((h b).2 (.head _)) (by simp)
 | cons a l ih=>
  intro l' h1 h2 h;cases l' with
  | nil=>exact absurd ((h a).1 (.head _)) (by simp)
  | cons b l'=>
   rw [List.pairwise_cons]at h1 h2
   have e:a=b:=by
    rcases List.mem_cons.1 ((h a).1 (.head _))with q | q
    ·exact q
    ·rcases List.mem_cons.1 ((h b).2 (.head _))with q2 | q2
     ·exact q2.symm
     ·have:=zG (h2.1 a q) (h1.1 b q2)
      rw [OA]at this;cases this
   subst e;rw [ih h1.2 h2.2 fun x=>?_];constructor
   ·intro hx
    rcases List.mem_cons.1 ((h x).1 (.tail _ hx))with q | q
    ·subst q;have:=h1.1 x hx;rw [OA]at this;cases this
    ·exact q
   ·intro hx
    rcases List.mem_cons.1 ((h x).2 (.tail _ hx))with q | q
    ·subst q;have:=h2.1 x hx;rw [OA]at this;cases this
    ·exact q
def FM (tx:List UInt8):List (List UInt8)->List (List UInt8)
 | []=>[tx]
 | u::l=>if BZ u tx then u::FM tx l else tx::u::l
theorem Hy (tx x:List UInt8):∀(l:List (List UInt8)),x∈FM tx l↔x=tx\/x∈l:=by
 intro l;induction l with
 | nil=>simp [FM]
 | cons u l ih=>
  unfold FM;split
  ·rw [List.mem_cons,ih,List.mem_cons]
   constructor
   ·rintro(h | h | h)
    ·exact .inr (.inl h)
    ·exact .inl h
    ·exact .inr (.inr h)
   ·rintro(h | h | h)
    ·exact .inr (.inl h)
    ·exact .inl h
    ·exact .inr (.inr h)
  ·rw [List.mem_cons]
theorem Zr{tx:List UInt8}:∀{l:List (List UInt8)},l.Pairwise (fun u w=>BZ u w=true)->tx∉l->(FM tx l).Pairwise fun u w=>BZ u w=true:=by
 intro l;induction l with
 | nil=>intro _ _;exact List.pairwise_singleton _ _
 | cons u l ih=>
  intro h hn;rw [List.pairwise_cons]at h;unfold FM;split
  ·rename_i hlt
   rw [List.pairwise_cons];refine⟨fun w hw=>?_,ih h.2 fun q=>hn (.tail _ q)⟩;rcases(Hy _ _ _).1 hw with rfl | hw
   ·exact hlt
   ·exact h.1 w hw
  ·rename_i hlt
   have hut:BZ tx u=true:=by
    cases q:BZ tx u with
    | true=>rfl
    | false=>
     have:=OB q (by simpa using hlt);subst this;exact absurd (List.mem_cons_self ..) hn
   rw [List.pairwise_cons];refine⟨fun w hw=>?_,List.pairwise_cons.2 h⟩;rcases List.mem_cons.1 hw with rfl | hw
   ·exact hut
   ·exact zG hut (h.1 w hw)
theorem aCd (tx:List UInt8):∀(l:List (List UInt8)) (i:Nat),i<=l.length->(∀j u,j<i->l[j]? =some u->BZ u tx=true)->(∀u,l[i]? =some u->BZ u tx=false)->FM tx l=l.take i++tx::l.drop i:=by
 intro l;induction l with
 | nil=>intro i _ _ _;simp [FM]
 | cons u l ih=>
  intro i hi h1 h2;cases i with
  | zero=>
   have:=h2 u rfl;simp [FM,this]
  | succ i=>
   have:=h1 0 u (by omega) rfl;unfold FM;rw [if_pos this,ih i (by simpa using hi) (fun j w a b=>h1 (j+1) w (by omega) (by simpa using b)) (fun w b=>h2 w (by simpa using b))];simp
def stepT (out:List (List UInt8)) (v:Vo):List (List UInt8):=if v.kd=2/\out.contains v.tx=false then FM v.tx out else out
def iU (l:List Vo):List (List UInt8):=l.foldl stepT []
theorem RC{l:List Vo}{i:Nat} (h:i<l.length):iU (l.take (i+1))=stepT (iU (l.take i)) l[i]:=by
 unfold iU;rw [List.take_add_one,List.getElem?_eq_getElem h,List.foldl_append];rfl
theorem Sn:∀(l:List Vo) (out:List (List UInt8)),out.Pairwise (fun u w=>BZ u w=true)->(l.foldl stepT out).Pairwise (fun u w=>BZ u w=true)/\∀x,x∈l.foldl stepT out↔x∈out\/∃v∈l,v.kd=2/\v.tx=x:=by
 intro l;induction l with
 | nil=>intro out h;exact⟨h,fun x=>⟨.inl,fun q=>by rcases q with q | ⟨v,q,_⟩;exact q;cases q⟩⟩
 | cons v l ih=>
  intro out h
  have hs:(stepT out v).Pairwise (fun u w=>BZ u w=true)/\∀x,x∈stepT out v↔x∈out\/(v.kd=2/\v.tx=x):=by
   unfold stepT;split
   ·rename_i c
    have hn:v.tx∉out:=fun q=>by have:=List.contains_iff_mem.2 q;rw [c.2]at this;cases this
    refine⟨Zr h hn,fun x=>?_⟩;rw [Hy];constructor
    ·rintro(q | q)
     ·exact .inr ⟨c.1,q.symm⟩
     ·exact .inl q
    ·rintro(q | ⟨_,q⟩)
     ·exact .inr q
     ·exact .inl q.symm
   ·rename_i c
    refine⟨h,fun x=>⟨.inl,fun q=>?_⟩⟩;rcases q with q | ⟨q1,q2⟩
    ·exact q
    ·cases e:out.contains v.tx with
     | true=>rw [<-q2];exact List.contains_iff_mem.1 e
     | false=>exact absurd ⟨q1,e⟩ c
  obtain⟨g1,g2⟩:=ih (stepT out v) hs.1;refine⟨g1,fun x=>?_⟩;show x∈l.foldl stepT (stepT out v)↔_;rw [g2,hs.2];constructor
  ·rintro((q | q) | ⟨w,q1,q2⟩)
   ·exact .inl q
   ·exact .inr ⟨v,.head _,q⟩
   ·exact .inr ⟨w,.tail _ q1,q2⟩
  ·rintro(q | ⟨w,q1,q2⟩)
   ·exact .inl (.inl q)
   ·rcases List.mem_cons.1 q1 with rfl | q1
    ·exact .inl (.inr q2)
    ·exact .inr ⟨w,q1,q2⟩
theorem So (out:List (List UInt8)) (v:Vo):(stepT out v).length<=out.length+1:=by
 unfold stepT;split
 ·have:∀(tx:List UInt8) (l:List (List UInt8)),(FM tx l).length=l.length+1:=by
   intro tx l;induction l with
   | nil=>rfl
   | cons u l ih=>unfold FM;split<;>simp [ih]
  rw [this];exact Nat.le_refl _
 ·omega
theorem WG (l:List Vo):(iU l).length<=l.length:=by
 have:∀(l:List Vo) (out:List (List UInt8)),(l.foldl stepT out).length<=out.length+l.length:=by
  intro l;induction l with
  | nil=>intro out;exact Nat.le_refl _
  | cons v l ih=>
   intro out;have h1:=ih (stepT out v);have h2:=So out v;simp only [List.foldl_cons,List.length_cons];omega
 have h:=this l [];simpa [iU]using h
def oU (l:List Vo):List (List UInt8):=(l.filter fun v=>decide (v.kd=2)).map (·.tx)
noncomputable def WH (l:List Vo):List (List UInt8):=Lo (zW (oU l))
theorem Zs (ls:List (List UInt8)):(zW ls).Pairwise fun u w=>BZ w u=false:=by
 have hle:∀x y:List UInt8,decide (x<=y)= !BZ y x:=fun x y=>by
  rw [aFv];show decide (¬y<x)=_;rw [decide_not]
 have:=List.pairwise_mergeSort (le:=fun x y:List UInt8=>decide (x<=y)) (fun a b c h1 h2=>by
  rw [hle]at h1 h2 ⊢;rw [Bool.not_eq_true']at h1 h2 ⊢;cases q:BZ c a with
  | false=>rfl
  | true=>
   cases q2:BZ a b with
   | true=>rw [zG q q2]at h2;cases h2
   | false=>have:=OB q2 h1;subst this;rw [q]at h2;cases h2) (fun a b=>by
  rw [hle,hle];cases q:BZ b a with
  | false=>rfl
  | true=>
   cases q2:BZ a b with
   | false=>rfl
   | true=>have:=zG q q2;rw [OA]at this;cases this) ls
 exact this.imp fun {u w} h=>by rw [hle,Bool.not_eq_true']at h;exact h
theorem Zt{zs:List (List UInt8)} (hs:zs.Pairwise fun u w=>BZ w u=false):∀j,j<=zs.length->(HM zs j).Pairwise (fun u w=>BZ u w=true)/\∀z,z∈HM zs j↔∃i,i<j/\zs[i]? =some z:=by
 intro j;induction j with
 | zero=>intro _;exact⟨.nil,fun z=>⟨fun h=>(List.not_mem_nil h).elim,fun⟨i,h,_⟩=>absurd h (by omega)⟩⟩
 | succ j ih=>
  intro hj;obtain⟨h1,h2⟩:=ih (by omega);have hjl:j<zs.length:=by omega
  have ej:zs.getD j []=zs[j]:=zE hjl;by_cases hk:kpS zs j=true
  ·have e:HM zs (j+1)=HM zs j++[zs[j]]:=by rw [<-ej];conv=>lhs;unfold HM
                                           rw [if_pos hk]
   rw [e];refine⟨List.pairwise_append.2 ⟨h1,List.pairwise_singleton _ _,fun u hu w hw=>?_⟩,fun z=>?_⟩
   ·simp at hw;subst hw
    obtain⟨i,hi,hz⟩:=(h2 u).1 hu;have hil:=(List.getElem?_eq_some_iff.1 hz).1;have hz2:=(List.getElem?_eq_some_iff.1 hz).2;have hp:j-1<zs.length:=by omega
    have hne:zs[j]≠zs[j-1]:=fun q=>by
     unfold kpS at hk;rw [ej,zE hp,decide_eq_true q,decide_eq_false (by omega)]at hk;cases hk
    have a1:BZ zs[j] zs[j-1]=false:=List.pairwise_iff_getElem.1 hs (j-1) j hp hjl (by omega)
    have a3:BZ zs[j-1] zs[j]=true:=by
     cases q:BZ zs[j-1] zs[j]with
     | true=>rfl
     | false=>exact absurd (OB a1 q) hne
    by_cases e2:i=j-1
    ·subst e2;rw [<-hz2];exact a3
    ·have a2:BZ zs[j-1] u=false:=by rw [<-hz2];exact List.pairwise_iff_getElem.1 hs i (j-1) hil hp (by omega)
     cases q:BZ u zs[j-1]with
     | true=>exact zG q a3
     | false=>rw [OB q a2];exact a3
   ·rw [List.mem_append,h2]
    constructor
    ·rintro(⟨i,hi,hz⟩ | hz)
     ·exact⟨i,by omega,hz⟩
     ·simp at hz;exact⟨j,by omega,by rw [hz];exact List.getElem?_eq_getElem hjl⟩
    ·rintro⟨i,hi,hz⟩
     by_cases e2:i=j
     ·subst e2;rw [List.getElem?_eq_getElem hjl]at hz;injection hz with hz;right;simp [hz]
     ·exact .inl ⟨i,by omega,hz⟩
  ·have e:HM zs (j+1)=HM zs j:=by
    conv=>lhs;unfold HM
    rw [if_neg hk]
   rw [e];refine⟨h1,fun z=>?_⟩;rw [h2];constructor
   ·rintro⟨i,hi,hz⟩;exact⟨i,by omega,hz⟩
   ·rintro⟨i,hi,hz⟩
    by_cases e2:i=j
    ·subst e2
     unfold kpS at hk;have h0:i≠0:=fun q=>hk (by rw [decide_eq_true q];rfl);have hp:i-1<zs.length:=by omega
     rw [ej,zE hp,decide_eq_false h0]at hk
     have:zs[i]=zs[i-1]:=by
      by_cases q:zs[i]=zs[i-1]
      ·exact q
      ·exact absurd (by rw [decide_eq_false q];rfl) hk
     refine⟨i-1,by omega,?_⟩;rw [List.getElem?_eq_getElem hp,<-this,<-hz];exact(List.getElem?_eq_getElem hjl).symm
    ·exact⟨i,by omega,hz⟩
theorem texts_eq (l:List Vo):WH l=iU l:=by
 obtain⟨h1,h2⟩:=Zt (Zs (oU l)) _ (Nat.le_refl _);obtain⟨g1,g2⟩:=Sn l [] .nil;refine aCc h1 g1 fun x=>?_;rw [show iU l=l.foldl stepT []from rfl,g2];refine(h2 x).trans ?_;constructor
 ·rintro⟨i,_,hz⟩
  have hm:=List.mem_of_getElem? hz;have hm:x∈oU l:=(List.mem_mergeSort).1 hm;obtain⟨v,hv,rfl⟩:=List.mem_map.1 hm;have:=List.mem_filter.1 hv;exact .inr ⟨v,this.1,by simpa using this.2,rfl⟩
 ·rintro(q | ⟨v,hv,hk,rfl⟩)
  ·cases q
  ·have hm:v.tx∈zW (oU l):=(List.mem_mergeSort).2 (List.mem_map.2 ⟨v,List.mem_filter.2 ⟨hv,by simpa using hk⟩,rfl⟩)
   obtain⟨i,hi⟩:=List.getElem?_of_mem hm;exact⟨i,(List.getElem?_eq_some_iff.1 hi).1,hi⟩
set_option maxRecDepth 100000
noncomputable def aEH (P:Program) (tb:FuncId->oC) (f:FuncId) (E:VE) (p:List Dir) (m:Nat) (ms:List Nat) (vs:List V) (S:Hp) (K:KV):Prop:=
 match P.funcs[f]? with
 | some fn=>match fn.body with
  | some c=>oJ P (tb f) none E p uR c ms (We P fn K) fun D c K=>match D,c with
   | D+1,.loop a=>Nh (β:=List V->Nat->Hp->Prop) (fun _ _ _=>False) (fun _ ih vs n S=>dX S fun S=>EE (rI (tb f) a) vs n P.globals.size fun A=>(oD P (tb f) none (IS P (tb f) none D) a).f E A S (Br (tb f) a ih (Qw P (tb f) a K))) m vs fn.ntmps S
   | _,_=>False
  | none=>False
 | none=>False
noncomputable def gO (x:VE) (m:Nat) (t0 t3 t4:V) (S:Hp) (K:KV):Prop:=kH PP bM eB x [.r,.r,.l,.r,.d] m [] [t0,t3,t4] S K
noncomputable def cJ (x:VE) (m:Nat) (m0:Nat) (t0 t3 t4 t5:V) (S:Hp) (K:KV):Prop:=kH PP bM eB x [.r,.r,.l,.r,.d,.d,.r,.l,.d,.r,.r,.l,.d] m [m0] [t0,t3,t4,t5] S K
noncomputable def cD (x:VE) (m0:Nat) (t0 t3 t4:V) (S:Hp) (K:KV):Prop:=xO PP bM eB x [.r,.r,.l,.r,.d,.d,.r,.r] [m0] [t0,t3,t4] S K
noncomputable def yE (x:VE) (a0:V) (S:Hp) (K:KV):Prop:=
 gO x x.most a0 .nil (.int .i64 (.ofNat 0)) S K
theorem JD (x:VE) (a0:V) (S:Hp) (K:KV):nP PP bM eB x [a0] S K=yE x a0 S K:=by kernel_rfl
noncomputable def iH (x:VE) (m:Nat) (m0:Nat) (t0 t3 t4 t5:V) (S:Hp) (K:KV):Prop:=aEH PP bM eB x [.r,.r,.l,.r,.d,.d,.r,.l,.d,.r,.r,.l,.d] m [m0] [t0,t3,t4,t5] S K
theorem sE (x:VE) (m:Nat) (m0:Nat) (t0 t3 t4 t5:V) (S:Hp) (K:KV):cJ x m m0 t0 t3 t4 t5 S K=iH x m m0 t0 t3 t4 t5 S K:=by kernel_rfl
noncomputable def mM (x:VE) (m0:Nat) (t0 t3 t4:V) (S:Hp) (K:KV):Prop:=
 dX S fun S=>
 aQ PP t0 fun v0=>
 aD 14 v0 fun v1=>
 aE v1 S fun v2 S=>
 cY v2 fun v3=>
 aF PP .lss 3 t4 v3 fun v4=>
 fC v4 (aQ PP t0 fun v5=>
 aD 14 v5 fun v6=>
 aE v6 S fun v7 S=>
 fQ 5 v7 t4 fun v8=>
 aD 2 v8 fun v9=>
 aE v9 S fun v10 S=>
 aF PP .neq 5 v10 (.int .u8 (.ofNat 2)) fun v11=>
 aC x.most (aB false v11 (fun k=>k t3 S) S fun v12 S=>
 aC x.most (aB false v11 (fun k=>k t0 S) S fun v13 S=>
 aC x.most (aB false v11 (fun k=>aQ PP v13 fun v14=>
 k v14 S) S fun v15 S=>
 aC x.most (aB false v11 (fun k=>aD 14 v15 fun v16=>
 k v16 S) S fun v17 S=>
 aC x.most (aB false v11 (fun k=>aE v17 S fun v18 S=>
 k v18 S) S fun v19 S=>
 aC x.most (aB false v11 (fun k=>k t4 S) S fun v20 S=>
 aC x.most (aB false v11 (fun k=>fQ 5 v19 v20 fun v21=>
 k v21 S) S fun v22 S=>
 aC x.most (aB false v11 (fun k=>aD 4 v22 fun v23=>
 k v23 S) S fun v24 S=>
 aC x.most (aB false v11 (fun k=>aE v24 S fun v25 S=>
 k v25 S) S fun v26 S=>
 aC x.most (aB false v11 (fun k=>x.call jI [v12,v26] S fun v27 S=>
 k v27 S) S fun v28 S=>
 aC x.most (aL v11 (.bool true) v28 fun v29=>
 fC v29 (cD x m0 t0 t3 t4 S K) (cJ x x.most m0 t0 t3 t4 (.int .i64 (.ofNat 0)) S K))))))))))))) (aS t3 S K)
noncomputable def yX (lp:VE->Nat->Nat->V->V->V->V->Hp->KV->Prop) (x:VE) (m0:Nat) (t0 t3 t4:V) (S:Hp) (K:KV):Prop:=
 dX S fun S=>
 aQ PP t0 fun v0=>
 aD 14 v0 fun v1=>
 aE v1 S fun v2 S=>
 cY v2 fun v3=>
 aF PP .lss 3 t4 v3 fun v4=>
 fC v4 (aQ PP t0 fun v5=>
 aD 14 v5 fun v6=>
 aE v6 S fun v7 S=>
 fQ 5 v7 t4 fun v8=>
 aD 2 v8 fun v9=>
 aE v9 S fun v10 S=>
 aF PP .neq 5 v10 (.int .u8 (.ofNat 2)) fun v11=>
 aC x.most (aB false v11 (fun k=>k t3 S) S fun v12 S=>
 aC x.most (aB false v11 (fun k=>k t0 S) S fun v13 S=>
 aC x.most (aB false v11 (fun k=>aQ PP v13 fun v14=>
 k v14 S) S fun v15 S=>
 aC x.most (aB false v11 (fun k=>aD 14 v15 fun v16=>
 k v16 S) S fun v17 S=>
 aC x.most (aB false v11 (fun k=>aE v17 S fun v18 S=>
 k v18 S) S fun v19 S=>
 aC x.most (aB false v11 (fun k=>k t4 S) S fun v20 S=>
 aC x.most (aB false v11 (fun k=>fQ 5 v19 v20 fun v21=>
 k v21 S) S fun v22 S=>
 aC x.most (aB false v11 (fun k=>aD 4 v22 fun v23=>
 k v23 S) S fun v24 S=>
 aC x.most (aB false v11 (fun k=>aE v24 S fun v25 S=>
 k v25 S) S fun v26 S=>
 aC x.most (aB false v11 (fun k=>x.call jI [v12,v26] S fun v27 S=>
 k v27 S) S fun v28 S=>
 aC x.most (aL v11 (.bool true) v28 fun v29=>
 fC v29 (cD x m0 t0 t3 t4 S K) (lp x x.most m0 t0 t3 t4 (.int .i64 (.ofNat 0)) S K))))))))))))) (aS t3 S K)
theorem qT (x:VE) (m0:Nat) (t0 t3 t4:V) (S:Hp) (K:KV):gO x (m0+1) t0 t3 t4 S K=mM x m0 t0 t3 t4 S K:=by
 have h1:gO x (m0+1) t0 t3 t4 S K=yX iH x m0 t0 t3 t4 S K:=by kernel_rfl
 have h2:cJ=iH:=by funext x m m0 t0 t3 t4 t5 S K;exact sE ..
 rw [h1,<-h2];rfl
noncomputable def iI (x:VE) (m1:Nat) (m0:Nat) (t0 t3 t4 t5:V) (S:Hp) (K:KV):Prop:=
 dX S fun S=>
 cY t3 fun v0=>
 aF PP .lss 3 t5 v0 fun v1=>
 aC x.most (aB true v1 (fun k=>k t3 S) S fun v2 S=>
 aC x.most (aB true v1 (fun k=>k t5 S) S fun v3 S=>
 aC x.most (aB true v1 (fun k=>fQ 1 v2 v3 fun v4=>
 k v4 S) S fun v5 S=>
 aC x.most (aB true v1 (fun k=>aE v5 S fun v6 S=>
 k v6 S) S fun v7 S=>
 aC x.most (aB true v1 (fun k=>k t0 S) S fun v8 S=>
 aC x.most (aB true v1 (fun k=>aQ PP v8 fun v9=>
 k v9 S) S fun v10 S=>
 aC x.most (aB true v1 (fun k=>aD 14 v10 fun v11=>
 k v11 S) S fun v12 S=>
 aC x.most (aB true v1 (fun k=>aE v12 S fun v13 S=>
 k v13 S) S fun v14 S=>
 aC x.most (aB true v1 (fun k=>k t4 S) S fun v15 S=>
 aC x.most (aB true v1 (fun k=>fQ 5 v14 v15 fun v16=>
 k v16 S) S fun v17 S=>
 aC x.most (aB true v1 (fun k=>aD 4 v17 fun v18=>
 k v18 S) S fun v19 S=>
 aC x.most (aB true v1 (fun k=>aE v19 S fun v20 S=>
 k v20 S) S fun v21 S=>
 aC x.most (aB true v1 (fun k=>aF PP .lss 9 v7 v21 fun v22=>
 k v22 S) S fun v23 S=>
 aC x.most (aL v1 v23 (.bool false) fun v24=>
 fC v24 (aF PP .add 3 t5 (.int .i64 (.ofNat 1)) fun v25=>
 cJ x m1 m0 t0 t3 t4 v25 S K) (dP 9 0 [(.string ⟨⟨[]⟩⟩)] [] S fun v26 S=>
 uO 9 1 t3 none (some t5) none S fun v27=>
 oP 9 1 16 v26 v27 S fun v28 S=>
 aQ PP t0 fun v29=>
 aD 14 v29 fun v30=>
 aE v30 S fun v31 S=>
 fQ 5 v31 t4 fun v32=>
 aD 4 v32 fun v33=>
 aE v33 S fun v34 S=>
 dP 9 1 [(.string ⟨⟨[]⟩⟩)] [(0,1,v34)] S fun v35 S=>
 oP 9 1 16 v28 v35 S fun v36 S=>
 uO 9 1 t3 (some t5) none none S fun v37=>
 oP 9 1 16 v36 v37 S fun v38 S=>
 cD x m0 t0 v38 t4 S K)))))))))))))))
theorem mN (x:VE) (m1:Nat) (m0:Nat) (t0 t3 t4 t5:V) (S:Hp) (K:KV):cJ x (m1+1) m0 t0 t3 t4 t5 S K=iI x m1 m0 t0 t3 t4 t5 S K:=by kernel_rfl
noncomputable def kO (x:VE) (m0:Nat) (t0 t3 t4:V) (S:Hp) (K:KV):Prop:=
 dX S fun S=>
 aF PP .add 3 t4 (.int .i64 (.ofNat 1)) fun v0=>
 gO x m0 t0 t3 v0 S K
theorem vO (x:VE) (m0:Nat) (t0 t3 t4:V) (S:Hp) (K:KV):xP PP bM eB x [.r,.r,.l,.r,.d,.d,.r,.r] [m0] [t0,t3,t4] S K=kO x m0 t0 t3 t4 S K:=by kernel_rfl
theorem xA (x:VE) (hm:x.most≠0) (m0:Nat) (t0 t3 t4:V) (S:Hp) (K:KV):cD x m0 t0 t3 t4 S K=kO x m0 t0 t3 t4 S K:=(nI (hm:=hm) ..).trans (vO x m0 t0 t3 t4 S K)
set_option maxRecDepth 4000
theorem Zu:gT eB=none:=rfl
def Sx (S:Hp) (t:V) (out:List (List UInt8)):Prop:=(t= .nil/\out=[])\/∃i,t= .acc i out.length/\S i=some (.iD (DD out) 9 out.length)
def Part (t:V) (out:List (List UInt8)) (w:V) (new:List (List UInt8)):Prop:=∀(S':Hp) (k:Nat->List V->Prop),Sx S' t out->k new.length (DD new)->zY 1 w S' k
section
variable{M n b:Nat}{x:VE}{S S' S0:Hp}{K:KV}{a:Ba}{v:V}
theorem Sx.sv{t:V}{out:List (List UInt8)} (h:Sx S t out):Sv S t out:=by
 rcases h with q | ⟨i,q1,q2⟩
 ·exact⟨.inl q⟩
 ·exact⟨.inr (.inr ⟨i,q1,q2⟩)⟩
theorem Sx.obj{i:Nat}{out:List (List UInt8)} (h:Sx S (.acc i out.length) out):S i=some (.iD (DD out) 9 out.length):=by
 rcases h with ⟨q,_⟩ | ⟨j,q1,q2⟩
 ·cases q
 ·injection q1 with q1;subst q1;exact q2
theorem Zv (out:List (List UInt8)) (n:Nat):(DD out).take n=DD (out.take n):=by unfold DD;rw [List.map_take]
theorem Zw (out:List (List UInt8)) (n:Nat):(DD out).drop n=DD (out.drop n):=by unfold DD;rw [List.map_drop]
theorem Zx{t:V}{out:List (List UInt8)}{i:Nat} (h:Sx S t out) (hi:i<=out.length){k:V->Prop} (hk:∀w,Part t out w (out.take i)->k w):uO 9 1 t none (some (.int .i64 (.ofNat i))) none S k:=by
 rcases h with ⟨rfl,rfl⟩ | ⟨j,rfl,e⟩
 ·have hz:i=0:=by simpa using hi
  subst hz;exact⟨Nat.le_refl _,Nat.le_refl _,Nat.le_refl _,hk _ fun S' k q hk=>hk⟩
 ·by_cases h0:0<out.length
  ·refine Bk e h0 hi (hk _ fun S' k q hk=>?_)
   unfold zY;simp only [q.obj];refine⟨trivial,?_⟩;rw [eE (by rw [sJ];omega),List.drop_zero,Nat.mul_one,Zv];have:(out.take i).length=i:=by rw [List.length_take];omega
   rw [this]at hk;exact hk
  ·have hz:out=[]:=List.eq_nil_of_length_eq_zero (by omega)
   subst hz;have hz:i=0:=by simpa using hi
   subst hz;unfold uO;simp only [e];refine⟨trivial,trivial,Nat.le_refl _,Nat.le_refl _,Nat.le_refl _,fun q=>absurd q (Nat.lt_irrefl _),fun _=>hk _ fun S' k q hk=>hk⟩
theorem Zy{t:V}{out:List (List UInt8)}{i:Nat} (h:Sx S t out) (hi:i<=out.length){k:V->Prop} (hk:∀w,Part t out w (out.drop i)->k w):uO 9 1 t (some (.int .i64 (.ofNat i))) none none S k:=by
 rcases h with ⟨rfl,rfl⟩ | ⟨j,rfl,e⟩
 ·have hz:i=0:=by simpa using hi
  subst hz;exact⟨Nat.le_refl _,Nat.le_refl _,Nat.le_refl _,hk _ fun S' k q hk=>hk⟩
 ·by_cases hn:i=out.length
  ·subst hn
   refine Fy e (hk _ fun S' k q hk=>?_);rw [List.drop_length]at hk;exact hk
  ·refine HY e (by omega) (hk _ fun S' k q hk=>?_)
   unfold zY;simp only [q.obj];refine⟨trivial,?_⟩;rw [eE (by rw [sJ];omega),Nat.mul_one,Nat.mul_one,Zw,List.take_of_length_le (by rw [sJ,List.length_drop];omega)];simpa using hk
structure Ap (S0 S:Hp) (t:V) (vs:List (List UInt8)):Prop where
 is:(vs=[]/\∃j,t= .own j 0 0 0/\S j=some (.row [] 9))\/∃i,t= .acc i vs.length/\S i=some (.iD (DD vs) 9 vs.length)/\S0 i=none
theorem aCe (l:List (List UInt8)):(DD l).all lL=true:=by
 induction l with
 | nil=>rfl
 | cons u l ih=>exact ih
theorem Oo (a b:List (List UInt8)):DD (a++b)=DD a++DD b:=by unfold DD;rw [List.map_append]
theorem Ap.app{t w:V}{vs new:List (List UInt8)} (h:Ap S0 S t vs) (hw:∀k:Nat->List V->Prop,k new.length (DD new)->zY 1 w S k) (hle:∀i,S i=none->S0 i=none) (hb:(vs.length+new.length)*17<=1099511627776)
 (hk:∀t2 S2,Ap S0 S2 t2 (vs++new)->(∀q o,S q=some o->(∀m,t≠ .acc q m)->S2 q=some o)->K t2 S2):oP 9 1 16 t w S K:=by
 unfold oP;refine hw _ ?_;cases new with
 | nil=>
  have h2:=hk t S (by rw [List.append_nil];exact h) (fun q o e _=>e);rcases h.is with ⟨_,j,rfl,_⟩ | ⟨i,rfl,_⟩
  ·exact⟨Nat.le_refl _,h2⟩
  ·exact h2
 | cons u new=>
  refine⟨aCe _,?_⟩;rcases h.is with ⟨rfl,j,rfl,e⟩ | ⟨i,rfl,e1,e2⟩
  ·simp only [e]
   refine⟨by simp only [List.length_nil,List.length_cons]at hb;omega,by simp,fun q=>absurd q (by omega),fun _ i hi=>?_⟩
   have:=hk (.acc i (0+(new.length+1))) (upd S i (.iD (DD (u::new)) 9 (0+(new.length+1)))) ⟨.inr ⟨i,by simp,by rw [upd_same];simp,hle i hi⟩⟩ (fun q o e3 _=>by
    rw [aG (fun z=>by rw [z,hi]at e3;cases e3)];exact e3)
   simpa using this
  ·simp only [e1]
   refine⟨trivial,trivial,by rw [sJ];omega,by simp only [List.length_cons]at hb;omega,?_⟩;refine hk _ _ ⟨.inr ⟨i,by simp,by rw [upd_same,Oo];simp,e2⟩⟩ (fun q o e3 h3=>?_);rw [aG (fun z=>h3 _ (by rw [z]))];exact e3
theorem aFw{t:V}{out:List (List UInt8)}{i:Nat} (hm:x.most≠0) (k:RB S b a) (hi:i<a.l.length) (ho:Sx S t out) (hol:out.length<=100000) (m0:Nat)
 (hk:∀t2 S2,(∀z o,S z=some o->S2 z=some o)->(∃z,t2= .acc z (FM a.l[i].tx out).length/\S2 z=some (.iD (DD (FM a.l[i].tx out)) 9 (FM a.l[i].tx out).length)/\S z=none)->cD x m0 (.ptr b 0) t2 (.int .i64 (.ofNat i)) S2 K):
 ∀(q at_:Nat),out.length<=at_+q->at_<=out.length->(∀j u,j<at_->out[j]? =some u->BZ u a.l[i].tx=true)->cJ x (q+1) m0 (.ptr b 0) t (.int .i64 (.ofNat i)) (.int .i64 (.ofNat at_)) S K:=by
 obtain⟨v,hb,hl⟩:=k.row;have m14:∀{K:KV},aE (.ptr b 14) S K=K v S:=aJ hb;obtain⟨lb,rfl,e⟩:=hl.get hi;obtain⟨e0,e1,e2,e3,e4,e5⟩:=BR e hi;have fin:∀at_,at_<=out.length->(∀j u,j<at_->out[j]? =some u->BZ u a.l[i].tx=true)->(∀u,out[at_]? =some u->BZ u a.l[i].tx=false)->(dP 9 0 [(.string ⟨⟨[]⟩⟩)] [] S fun v26 S=>
 uO 9 1 t none (some (.int .i64 (.ofNat at_))) none S fun v27=>
 oP 9 1 16 v26 v27 S fun v28 S=>
 aQ PP (.ptr b 0) fun v29=>
 aD 14 v29 fun v30=>
 aE v30 S fun v31 S=>
 fQ 5 v31 (.int .i64 (.ofNat i)) fun v32=>
 aD 4 v32 fun v33=>
 aE v33 S fun v34 S=>
 dP 9 1 [(.string ⟨⟨[]⟩⟩)] [(0,1,v34)] S fun v35 S=>
 oP 9 1 16 v28 v35 S fun v36 S=>
 uO 9 1 t (some (.int .i64 (.ofNat at_))) none none S fun v37=>
 oP 9 1 16 v36 v37 S fun v38 S=>
 cD x m0 (.ptr b 0) v38 (.int .i64 (.ofNat i)) S K):=fun at_ ha h1 h2=>by
  have bS:∀{K:KV},(∀j,S j=none->K (.own j 0 0 0) (upd S j (.row [] 9)))->dP 9 0 [(.string ⟨⟨[]⟩⟩)] [] S K:=fun h=>h;refine bS fun p hp=>?_;have le1:dL S (upd S p (.row [] 9)):= .aV hp;have rp:upd S p (.row [] 9) p=some (.row [] 9):=upd_same;generalize upd S p (.row [] 9)=S1 at le1 rp
  have sx:∀{S2:Hp},(∀z o,S z=some o->S2 z=some o)->Sx S2 t out:=fun c=>by
   rcases ho with q | ⟨z,q1,q2⟩
   ·exact .inl q
   ·exact .inr ⟨z,q1,c _ _ q2⟩
  refine Zx (sx le1) ha fun w hw=>?_;have ap0:Ap S S1 (.own p 0 0 0) []:=⟨.inl ⟨rfl,p,rfl,rp⟩⟩;refine ap0.app (new:=out.take at_) (fun k h=>hw S1 k (sx le1) h) (fun z hz=>le1.none hz) (by simp only [List.length_nil,List.length_take];omega) fun t2 S2 ap2 f2=>?_;rw [List.nil_append]at ap2;have jX:∀z o,S z=some o->S2 z=some o:=fun z o q=>f2 z o (le1 z o q) (fun m h=>by cases h);have hle2:dL S S2:=jX;have n14:∀{K:KV},aE (.ptr b 14) S2 K=K (.acc lb a.l.length) S2:=aJ (jX _ _ hb);obtain⟨_,_,_,_,g4,_⟩:=BR (jX _ _ e) hi;simp only [aP,aO,n14,dR hi,qV,g4];have bT:∀{K:KV},(∀j,S2 j=none->K (.own j 0 1 1) (upd S2 j (.row [.str a.l[i].tx] 9)))->dP 9 1 [(.string ⟨⟨[]⟩⟩)] [(0,1,.str a.l[i].tx)] S2 K:=fun h=>⟨rfl,by simp,h⟩;refine bT fun r hr=>?_;have DC:dL S2 (upd S2 r (.row [.str a.l[i].tx] 9)):= .aV hr;have rr:upd S2 r (.row [.str a.l[i].tx] 9) r=some (.row [.str a.l[i].tx] 9):=upd_same;generalize upd S2 r (.row [.str a.l[i].tx] 9)=S3 at DC rr
  have ap3:Ap S S3 t2 (out.take at_):=by
   rcases ap2.is with ⟨q1,z,q2,q3⟩ | ⟨z,q1,q2,q3⟩
   ·exact⟨.inl ⟨q1,z,q2,DC _ _ q3⟩⟩
   ·exact⟨.inr ⟨z,q1,DC _ _ q2,q3⟩⟩
  refine ap3.app (new:=[a.l[i].tx]) (fun k h=>zZ rr rfl h) (fun z hz=>hle2.none (DC.none hz)) (by simp only [List.length_cons,List.length_nil,List.length_take];omega) fun t4 S4 ap4 f4=>?_
  have c4:∀z o,S z=some o->S4 z=some o:=fun z o q=>f4 z o (DC _ _ (jX z o q)) (fun m h=>by
   rcases ap3.is with ⟨_,z2,q2,_⟩ | ⟨z2,q1,_,q3⟩
   ·rw [q2]at h;cases h
   ·rw [q1]at h;injection h with h;subst h;rw [q3]at q;cases q)
  refine Zy (sx c4) ha fun w2 hw2=>?_;refine ap4.app (new:=out.drop at_) (fun k h=>hw2 S4 k (sx c4) h) (fun z hz=>dL.none (show dL S S4 from c4) hz) (by simp only [List.length_append,List.length_cons,List.length_nil,List.length_take,List.length_drop];omega) fun t5 S5 ap5 f5=>?_
  have c5:∀z o,S z=some o->S5 z=some o:=fun z o q=>f5 z o (c4 z o q) (fun m h=>by
   rcases ap4.is with ⟨q1,_⟩ | ⟨z2,q1,_,q3⟩
   ·simp at q1
   ·rw [q1]at h;injection h with h;subst h;rw [q3]at q;cases q)
  have ei:FM a.l[i].tx out=out.take at_++[a.l[i].tx]++out.drop at_:=by
   rw [aCd _ out at_ ha h1 h2];simp
  refine hk t5 S5 c5 ?_;rw [ei];rcases ap5.is with ⟨q1,_⟩ | q
  ·simp at q1
  ·exact q
 intro q;induction q with
 | zero=>
  intro at_ h1 h2 h3;rw [mN];unfold iI;refine aN ?_;simp only [ho.sv.len,aI,nB (show ¬at_<out.length by omega),bD]
  repeat with_reducible (first | refine fO ?_ | refine gJ ?_ | refine fP ?_ | refine lS ?_)
  exact fin at_ h2 h3 fun u hu=>by rw [List.getElem?_eq_none (by omega)]at hu;cases hu
 | succ q ih=>
  intro at_ h1 h2 h3;rw [mN];unfold iI;refine aN ?_;by_cases hlt:at_<out.length
  ·have hat:=fun {K:KV}=>ho.sv.at hlt (K:=K)
   rcases ho with ⟨_,rfl⟩ | ⟨z,rfl,ez⟩
   ·simp at hlt
   ·have ld:∀{K:KV},aE (.nV z out.length at_) S K=K (.str out[at_]) S:=fun {K}=>by
     unfold aE;simp only [ez,true_and];rw [jF (a:= .str out[at_]) (by unfold DD;rw [List.getElem?_map,List.getElem?_eq_getElem hlt];rfl)]
    have hix:∀{k:V->Prop},fQ 1 (.acc z out.length) (.int .i64 (.ofNat at_)) k=k (.nV z out.length at_):=fun {k}=>by rw [dR hlt,Nat.mul_one]
    simp only [jW,aI,LR hlt,bD,aH,hix,ld,aP,aO,m14,dR hi,qV,e4,Qo,dC];cases c:BZ out[at_] a.l[i].tx with
    | true=>
     rw [show Op.bytesLess out[at_] a.l[i].tx=true from c,cO,bA,fF (by omega)];refine ih (at_+1) (by omega) (by omega) fun j u hj hu=>?_;by_cases ej:j=at_
     ·subst ej;rw [List.getElem?_eq_getElem hlt]at hu;injection hu with hu;rw [<-hu];exact c
     ·exact h3 j u (by omega) hu
    | false=>
     rw [show Op.bytesLess out[at_] a.l[i].tx=false from c,bP];exact fin at_ h2 h3 fun u hu=>by rw [List.getElem?_eq_getElem hlt]at hu;injection hu with hu;rw [<-hu];exact c
  ·simp only [ho.sv.len,aI,nB hlt,bD]
   repeat with_reducible (first | refine fO ?_ | refine gJ ?_ | refine fP ?_ | refine lS ?_)
   exact fin at_ h2 h3 fun u hu=>by rw [List.getElem?_eq_none (by omega)]at hu;cases hu
theorem aFx (hM:100000<M) (hx:Deep PP bM gT M (n+1) x) (k0:RB S0 b a) (i0:cA a) (hk:∀v,Sv S0 v (iU a.l)->K v S0):
 ∀(q i:Nat) (t:V) (S:Hp),a.l.length<=i+q->i<=a.l.length->(∀z o,S0 z=some o->S z=some o)->((t= .nil/\iU (a.l.take i)=[])\/∃z,t= .acc z (iU (a.l.take i)).length/\S z=some (.iD (DD (iU (a.l.take i))) 9 (iU (a.l.take i)).length)/\S0 z=none)->gO x (q+1) (.ptr b 0) t (.int .i64 (.ofNat i)) S K:=by
 have hm:x.most≠0:=by rw [hx.most];omega
 obtain⟨v,hb0,hl0⟩:=k0.row;have hlen:=i0.len
 have fin:∀(i:Nat) (t:V) (S:Hp),a.l.length<=i->(∀z o,S0 z=some o->S z=some o)->((t= .nil/\iU (a.l.take i)=[])\/∃z,t= .acc z (iU (a.l.take i)).length/\S z=some (.iD (DD (iU (a.l.take i))) 9 (iU (a.l.take i)).length)/\S0 z=none)->aS t S K:=fun i t S h1 c h=>by
  rw [List.take_of_length_le h1]at h;rcases h with ⟨rfl,h⟩ | ⟨z,rfl,h2,h3⟩
  ·exact cI c (hk .nil ⟨.inl ⟨rfl,h⟩⟩)
  ·refine rU (S':=S0) (cs:=dV (iU a.l)) c (.acc h2 h3 (by rw [sJ,rC]) fun j v d e1 e2=>?_) fun O=>hk _ ⟨.inr (.inl ⟨O,rfl⟩)⟩
   unfold DD at e1;unfold dV at e2;rw [List.getElem?_map]at e1 e2;cases hq:(iU a.l)[j]? with
   | none=>rw [hq]at e1;cases e1
   | some z=>rw [hq]at e1 e2;injection e1 with e1;injection e2 with e2;subst e1 e2;exact .str
 intro q;induction q with
 | zero=>
  intro i t S h1 h2 c h;rw [qT];unfold mM;refine aN ?_;have m14:∀{K:KV},aE (.ptr b 14) S K=K v S:=aJ (c _ _ hb0);simp only [aP,aO,m14,hl0.len,aI,nB (show ¬i<a.l.length by omega),bP];exact fin i t S (by omega) c h
 | succ q ih=>
  intro i t S h1 h2 c h;rw [qT];unfold mM;refine aN ?_;have hb:=c _ _ hb0;have m14:∀{K:KV},aE (.ptr b 14) S K=K v S:=aJ hb;by_cases hi:i<a.l.length
  ·have k:RB S b a:=⟨v,hb,hl0.hle c⟩
   obtain⟨lb,rfl,e⟩:=(hl0.hle c).get hi;obtain⟨e0,e1,e2,e3,e4,e5⟩:=BR e hi
   have hol:(iU (a.l.take i)).length<=100000:=by
    have:=WG (a.l.take i);rw [List.length_take]at this;omega
   have sx:Sx S t (iU (a.l.take i)):=by
    rcases h with h | ⟨z,q1,q2,_⟩
    ·exact .inl h
    ·exact .inr ⟨z,q1,q2⟩
   have jn:∀(t2:V) (S2:Hp),(∀z o,S0 z=some o->S2 z=some o)->((t2= .nil/\iU (a.l.take (i+1))=[])\/∃z,t2= .acc z (iU (a.l.take (i+1))).length/\S2 z=some (.iD (DD (iU (a.l.take (i+1)))) 9 (iU (a.l.take (i+1))).length)/\S0 z=none)->cD x (q+1) (.ptr b 0) t2 (.int .i64 (.ofNat i)) S2 K:=fun t2 S2 c2 h2=>by
    rw [xA x hm];unfold kO;refine aN ?_;rw [bA,fF (by omega)];exact ih (i+1) t2 S2 (by omega) (by omega) c2 h2
   have same:stepT (iU (a.l.take i)) a.l[i]=iU (a.l.take i)->cD x (q+1) (.ptr b 0) t (.int .i64 (.ofNat i)) S K:=fun e=>jn t S c (by rw [RC hi,e];exact h)
   have Lq:∀{t:TypeId} {p q:Nat} {K:V->Prop},aF PP .neq t (.int .u8 (.ofNat p)) (.int .u8 (.ofNat q)) K=K (.bool (!decide (p=q))):=fun {t p q K}=>by
    rw [cW]
    congr 3
    rw [Bool.eq_iff_iff];simp only [decide_eq_true_eq];exact⟨Int.ofNat.inj,fun e=>by rw [e]⟩
   simp only [aP,aO,m14,jW,aI,LR hi,cO,dR hi,qV,e2,Lq,bD];by_cases c1:a.l[i].kd=2
   ·simp only [decide_eq_true c1,Bool.not_true,aH,aP,aO,m14,dR hi,qV,e4]
    refine ZB hM hx sx.sv hol ?_;simp only [eA];cases c2:(iU (a.l.take i)).contains a.l[i].tx with
    | true=>
     rw [cO];exact same (by unfold stepT;rw [if_neg (by rw [c2];simp)])
    | false=>
     rw [bP];obtain⟨p,hp⟩:=Nat.exists_eq_succ_of_ne_zero hm;have hmm:x.most=M:=hx.most;rw [hp];refine aFw hm k hi sx hol (q+1) (fun t2 S2 c2' h'=>?_) p 0 (by omega) (by omega) (fun j u hj=>absurd hj (by omega));refine jn t2 S2 (fun z o e=>c2' z o (c z o e)) (.inr ?_);rw [RC hi];have es:stepT (iU (a.l.take i)) a.l[i]=FM a.l[i].tx (iU (a.l.take i)):=by unfold stepT;rw [if_pos ⟨c1,c2⟩]
     rw [es];obtain⟨z,g1,g2,g3⟩:=h';exact⟨z,g1,g2,dL.none (show dL S0 S from c) g3⟩
   ·rw [decide_eq_false c1,Bool.not_false]
    repeat with_reducible (first | refine fI ?_ | refine gJ ?_ | refine fJ ?_ | refine pS ?_)
    exact same (by unfold stepT;rw [if_neg (fun z=>c1 z.1)])
  ·simp only [aP,aO,m14,hl0.len,aI,nB hi,bP]
   exact fin i t S (by omega) c h
theorem aAa (hM:100000<M) (hx:Deep PP bM gT M (n+2) x) (k:RB S b a) (i:cA a) (hk:∀v,Sv S v (iU a.l)->K v S):x.call eB [.ptr b 0] S K:=by
 refine hx.call Zu fun y hy=>?_;rw [JD];unfold yE;have hmm:y.most=M:=hy.most;obtain⟨p,hp⟩:=Nat.exists_eq_succ_of_ne_zero (show y.most≠0 by omega);have hlen:=i.len;rw [hp];exact aFx hM hy k i hk p 0 .nil S (by omega) (by omega) (fun _ _ e=>e) (.inl ⟨rfl,rfl⟩)
end
set_option maxRecDepth 4000
theorem aCf:gT jR=none:=rfl
theorem LO:gT bE=none:=rfl
theorem Lr{l:List Vo}{i:Nat} (h:i<l.length):oU (l.take (i+1))=oU (l.take i)++(if l[i].kd=2 then [l[i].tx]else []):=by
 unfold oU;rw [List.take_add_one,List.getElem?_eq_getElem h,List.filter_append,List.map_append]
 congr 1
 by_cases c:l[i].kd=2
 ·simp [c]
 ·simp [c]
theorem ZD (l:List Vo):(oU l).length<=l.length:=by
 unfold oU;rw [List.length_map];exact List.length_filter_le _ _
section
variable{M n b t m:Nat}{x:VE}{S S' S0:Hp}{K:KV}{a:Ba}{v:V}{ty:TypeId}{l:List Vo}
theorem aAb (hM:100000<M) (hx:Deep PP bM gT M (n+1) x) (hlen:l.length<=10000) (hk:∀v,Sv S0 v (WH l)->K v S0):
 ∀(q i:Nat) (t3:V) (S:Hp),l.length<=i+q->i<=l.length->dL S0 S->Gv 39 S v l->pR S0 S 9 1 t3 (DD (oU (l.take i))) (oU (l.take i)).length->fH x (q+1) t3 v (.int .i64 (.ofNat l.length)) (.int .i64 (.ofNat i)) S K:=by
 have hmm:x.most=M:=hx.most;have fin:∀(i:Nat) (t3:V) (S:Hp),l.length<=i->dL S0 S->pR S0 S 9 1 t3 (DD (oU (l.take i))) (oU (l.take i)).length->(x.call bZ [t3] S fun v13 S=>
 x.call bE [t3] S fun v14 S=>
 aS v14 S K):=fun i t3 S h1 c ac=>by
  rw [List.take_of_length_le h1]at ac;have hpl:=ZD l;rcases ac.is with ⟨q1,rfl,q3⟩ | ⟨z,rfl,h2,h3⟩
  ·have e0:oU l=[]:=List.eq_nil_of_length_eq_zero q1
   refine hx.EG (f:=bZ) (g:=Hh) rfl (.inl ⟨rfl,?_⟩);refine hx.call LO fun y hy=>?_;rw [iC];unfold eL;rw [HW,aI,LR (by omega),cO];refine aK (cI c (hk .nil ⟨.inl ⟨rfl,?_⟩⟩));unfold WH;rw [e0];unfold zW;rw [List.mergeSort_nil];rfl
  ·refine hx.EG (f:=bZ) (g:=Hh) rfl (.inr ⟨z,oU l,rfl,h2,by omega,?_⟩)
   have c2:dL S0 (upd S z (.iD ((zW (oU l)).map V.str) 9 (oU l).length)):=pI c h3;by_cases hn:(oU l).length=0
   ·have e0:oU l=[]:=List.eq_nil_of_length_eq_zero hn
    refine hx.call LO fun y hy=>?_;rw [iC];unfold eL;rw [jW,aI,LR (by omega),cO];have es:zW (oU l)=[]:=by rw [e0];unfold zW;rw [List.mergeSort_nil]
    refine aK (rU (S':=S0) (cs:=[]) (n:=(oU l).length) c2 (.acc upd_same h3 (by rw [es];rfl) fun j v d e1 e2=>by cases e2) fun O=>hk _ ⟨.inr (.inl ⟨O,?_⟩)⟩);unfold WH;rw [es,hn];rfl
   ·refine Lp (S':=S0) (zs:=zW (oU l)) LO hx (GN _) (by omega) (by omega) h3 c2 (by omega) upd_same fun O=>aK (hk _ ⟨.inr (.inl ⟨O,rfl⟩)⟩)
 intro q;induction q with
 | zero=>
  intro i t3 S h1 h2 c g ac;rw [oT];unfold kM;refine aN ?_;rw [aI,nB (by omega),bP];exact fin i t3 S (by omega) c ac
 | succ q ih=>
  intro i t3 S h1 h2 c g ac;rw [oT];unfold kM;refine aN ?_;rw [aI];by_cases hi:i<l.length
  ·have hpl:=ZD (l.take i)
   rw [List.length_take]at hpl;rw [LR hi,cO,g.at hi];refine cG (l:=tG.vv) rfl fun p hp=>?_;refine gE upd_same (by rfl) (by rfl) (by rfl) ?_;rw [cP];have le1:dL S (upd S p (.row l[i].vv 39)):= .aV hp;have rp:upd S p (.row l[i].vv 39) p=some (.row l[i].vv 39):=upd_same;generalize upd S p (.row l[i].vv 39)=S1 at le1 rp;obtain⟨m0,m1,m2,m3,m4⟩:=rO rp;have ac1:pR S0 S1 9 1 t3 (DD (oU (l.take i))) (oU (l.take i)).length:=ac.keep fun z hz=>by rw [hz];exact le1 _ _ hz
   have g1:Gv 39 S1 v l:=g.mono fun z o e _=>le1 z o e;have c1:=c.trans le1;have et:=Lr hi;simp only [aO,m2,qU];by_cases ck:l[i].kd=2
   ·rw [decide_eq_true ck,cO,m4]
    rw [if_pos ck]at et;have bT:∀{K:KV},(∀j,S1 j=none->K (.own j 0 1 1) (upd S1 j (.row [.str l[i].tx] 9)))->dP 9 1 [(.string ⟨⟨[]⟩⟩)] [(0,1,.str l[i].tx)] S1 K:=fun h=>⟨rfl,by simp,h⟩;refine bT fun r hr=>?_;have DC:dL S1 (upd S1 r (.row [.str l[i].tx] 9)):= .aV hr;have rr:upd S1 r (.row [.str l[i].tx] 9) r=some (.row [.str l[i].tx] 9):=upd_same;generalize upd S1 r (.row [.str l[i].tx] 9)=S3 at DC rr;have c3:=c1.trans DC;refine(ac1.keep fun z hz=>by rw [hz];exact DC _ _ hz).aGK (k:=1) (fun k' h=>zZ rr rfl h) (by omega) rfl rfl (fun z hz=>c3.none hz) (by omega) ?_;intro t5 S4 ac4 f1 f2;rw [bA,fF (by omega)];refine ih (i+1) t5 S4 (by omega) (by omega) (fun z o e=>by rw [f2 z (by rw [e];simp)];exact c3 z o e) ?_ ?_
    ·rcases g1.is with q | q | ⟨z,q1,q2⟩ | q
     ·exact⟨.inl q⟩
     ·exact⟨.inr (.inl q)⟩
     ·exact⟨.inr (.inr (.inl ⟨z,q1,f1 _ _ (DC _ _ q2) (fun _ _ e=>by cases e)⟩))⟩
     ·exact⟨.inr (.inr (.inr q))⟩
    ·rw [et,Oo]
     have:(oU (l.take i)++[l[i].tx]).length=(oU (l.take i)).length+1:=by simp
     rw [this];exact ac4
   ·rw [decide_eq_false ck,bP,bA,fF (by omega)]
    rw [if_neg ck,List.append_nil]at et;refine ih (i+1) t3 S1 (by omega) (by omega) c1 g1 ?_;rw [et];exact ac1
  ·rw [nB hi,bP]
   exact fin i t3 S (by omega) c ac
theorem aCg (hM:100000<M) (hx:Deep PP bM gT M (n+2) x) (k:Bal S b t m ty a) (hk:∀v,Sv S v (WH a.l)->K v S):x.call jR [.ptr b 0] S K:=by
 refine hx.call aCf fun y hy=>?_;rw [FL];unfold uY;refine yO kind25 ?_;have l15:∀{K:KV},aE (.ptr b 15) S K=K (.ptr t 0) S:=aJ k.row;simp only [bP,aP,aO,l15];obtain⟨l0,h1,h2,h3⟩:=k.okl;have hs:=IF k.inv.HI h3;have hlen:=k.inv.len;have hmm:y.most=M:=hy.most;obtain⟨p,hp⟩:=Nat.exists_eq_succ_of_ne_zero (show y.most≠0 by omega);refine hy.EG (f:=dJ) (g:=LJ) rfl ⟨t,m,a.s.n.toNat,l0,rfl,h1,h2,by rw [hs];exact k.inv.HI,fun e=>?_,fun e q hq=>?_⟩
 ·rw [hs]at e
  show cY .nil _;rw [HW,hp];have:=aAb (l:=a.l) (v:= .nil) hM hy (by omega) hk p 0 .nil S (by omega) (by omega) (.refl S) ⟨.inl ⟨rfl,e⟩⟩ .nil;rw [e]at this;exact this
 ·rw [hs]
  show cY (.acc q a.l.length) _;rw [jW,hp];refine aAb (l:=a.l) hM hy (by omega) hk p 0 .nil _ (by omega) (by omega) (.aV hq) ⟨.inr (.inr (.inl ⟨q,rfl,upd_same⟩))⟩ .nil
end
set_option maxRecDepth 4000
theorem aEU:gT qY=none:=rfl
def SL (l:List Sp):List Dt:=l.flatMap Sp.dt
theorem De (l:List Sp):(SL l).length=l.length*15:=by
 induction l with
 | nil=>rfl
 | cons v l ih=>simp [SL,Sp.dt,Mi.dt]at ih ⊢;omega
theorem Yi (l:List Sp) (i:Nat) (g:Sp) (h:l[i]? =some g):((SL l).drop (i*15)).take 15=g.dt:=by
 induction l generalizing i with
 | nil=>simp at h
 | cons a l ih=>
  cases i with
  | zero=>simp at h;subst h;simp [SL,Sp.dt,Mi.dt]
  | succ i=>
   have:=ih i (by simpa using h);rw [<-this];simp only [SL,List.flatMap_cons];rw [show(i+1)*15=a.dt.length+i*15 by simp [Sp.dt,Mi.dt];omega,<-List.drop_drop];simp
theorem IJ (l:List Sp) (i c:Nat) (g:Sp) (h:l[i]? =some g) (hc:c<15):(SL l)[i*15+c]? =g.dt[c]? :=by
 have h2:(((SL l).drop (i*15)).take 15)[c]? =g.dt[c]? :=by rw [Yi l i g h]
 rw [List.getElem?_take,if_pos hc,List.getElem?_drop]at h2;exact h2
theorem Sp.aGp (s:Sp):s.dt[11]? =some (.str s.g.tx):=rfl
theorem Sp.aGq (s:Sp):s.dt[13]? =some (.str s.want):=rfl
theorem Sp.Yj (s:Sp):s.dt[14]? =some (.list (dV s.may) s.may.length):=rfl
structure Small (l:List Sp):Prop where
 len:l.length<=140737488355328
 tx:∀s∈l,s.g.tx.length<=140737488355328/\s.want.length<=140737488355328/\s.may.length<=140737488355328/\∀u∈s.may,u.length<=140737488355328
def Few (l:List Sp):Prop:=l.length<=150/\∀s∈l,s.may.length<=6000
section
variable{M n:Nat}{x:VE}{S:Hp}{K:KV}{l:List Sp}{O:Tag}
theorem Hj{a b:Nat} (h:a+b<4611686018427387904):kC .i64 (Int.ofNat a+Int.ofNat b)=Int.ofNat (a+b):=by
 rw [wrap_small]<;>simp<;>omega
theorem aBj (sm:Small l) (hx:x.most=M) (hM:100000<M) (hk:∀bb,(bb=false->Few l)->K (.bool bb) S):
 ∀(q i c:Nat) (S1:Hp),151<=i+q->40*i<=c->c<=1125899906842624->i<=l.length->(c<6000->∀(j:Nat) (s:Sp),j<i->l[j]? =some s->s.may.length<=6000)->dL S S1->
  mE x (q+1) (.list O (SL l) l.length) (.int .i64 (.ofNat c)) (.int .i64 (.ofNat i)) S1 K:=by
 have fin:∀(i c:Nat),(¬i<l.length\/¬c<6000)->40*i<=c->i<=l.length->(c<6000->∀(j:Nat) (s:Sp),j<i->l[j]? =some s->s.may.length<=6000)->aF PP .geq 3 (.int .i64 (.ofNat c)) (.int .i64 (.ofNat 6000)) fun v18=>aS v18 S K:=by
  intro i c h1 h2 h3 h4;rw [dG];refine aK (hk _ fun e=>?_)
  have hc:c<6000:=by
   have h7:¬(Int.ofNat 6000<=Int.ofNat c):=of_decide_eq_false e;exact Nat.lt_of_not_le fun q=>h7 (Int.ofNat_le.2 q)
  have hi:i=l.length:=by omega
  refine⟨by omega,fun s hs=>?_⟩;obtain⟨j,hj⟩:=List.getElem?_of_mem hs;exact h4 hc j s (by rw [hi];exact(List.getElem?_eq_some_iff.1 hj).1) hj
 intro q;induction q with
 | zero=>
  intro i c S1 h1 h2 h3 h4 h5 hle;rw [xR];unfold rJ;refine lE S hle ?_;have hc:¬c<6000:=by omega
  have e1:decide (Int.ofNat c<Int.ofNat 6000)=false:=nB hc;simp only [iY,aI,bD];by_cases hi:i<l.length
  ·simp only [LR hi,aH,aI,e1,aR,if_true,aT,Bool.false_eq_true,if_false]
   exact fin i c (.inr hc) h2 h4 h5
  ·simp only [nB hi,dF,aR,aT,Bool.false_eq_true,if_false]
   exact fin i c (.inr hc) h2 h4 h5
 | succ q ih=>
  intro i c S1 h1 h2 h3 h4 h5 hle;rw [xR];unfold rJ;refine lE S hle ?_;simp only [iY,aI,bD];by_cases hi:i<l.length
  ·by_cases hc:c<6000
   ·simp only [LR hi,aH,aI,LR hc,aR,if_true,aT]
    have hgi:l[i]? =some l[i]:=List.getElem?_eq_getElem hi;obtain⟨b1,b2,b3,b4⟩:=sm.tx l[i] (List.getElem_mem hi);rw [bA,Hj (by omega),qN hi,PH,PH,JP,jF (a:= .str l[i].g.tx) (by rw [show i*15+2+9=i*15+11 by omega,IJ l i 11 l[i] hgi (by omega),Sp.aGp])];show xN (.str l[i].g.tx) _;rw [yN,bA,Hj (by omega),qN hi,PH,JP,jF (a:= .str l[i].want) (by rw [IJ l i 13 l[i] hgi (by omega),Sp.aGq])];show xN (.str l[i].want) _;rw [yN,bA,Hj (by omega)]
    have inner:∀(p k c:Nat),6001<=k+p->40*(i+1)<=c->k<=c->c<=1125899906842624->k<=l[i].may.length->(c<6000->∀(j:Nat) (s:Sp),j<i->l[j]? =some s->s.may.length<=6000)->∀S1,dL S S1->
     jL x (p+1) (q+1) (.list O (SL l) l.length) (.int .i64 (.ofNat c)) (.int .i64 (.ofNat i)) (.int .i64 (.ofNat k)) S1 K:=by
     have out:∀(k c:Nat),(¬k<l[i].may.length\/¬c<6000)->40*(i+1)<=c->k<=c->c<=1125899906842624->(c<6000->∀(j:Nat) (s:Sp),j<i->l[j]? =some s->s.may.length<=6000)->aF PP .add 3 (.int .i64 (.ofNat i)) (.int .i64 (.ofNat 1)) fun v18=>mE x (q+1) (.list O (SL l) l.length) (.int .i64 (.ofNat c)) v18 S K:=by
      intro k c g1 g2 g3 g4 g5;have:=sm.len;rw [bA,fF (by omega)];refine ih (i+1) c S (by omega) g2 g4 (by omega) (fun g6 j s g7 g8=>?_) (.refl S);by_cases e:j=i
      ·subst e
       rw [hgi]at g8;injection g8 with g8;subst g8;omega
      ·exact g5 g6 j s (by omega) g8
     intro p;induction p with
     | zero=>
      intro k c g1 g2 g3 g4 g5 g6 S1 hle;rw [qO];unfold mF;refine lE S hle ?_;rw [qN hi,PH,JP,jF (a:= .list (dV l[i].may) l[i].may.length) (by rw [IJ l i 14 l[i] hgi (by omega),Sp.Yj])];show cY (.list (.sub O (i*15+14)) (dV l[i].may) l[i].may.length) _;have hc:¬c<6000:=by omega
      have e1:decide (Int.ofNat c<Int.ofNat 6000)=false:=nB hc;simp only [iY,aI,bD];by_cases hk2:k<l[i].may.length
      ·simp only [LR hk2,aH,aI,e1,aR,if_true,aT,Bool.false_eq_true,if_false]
       exact out k c (.inr hc) g2 g3 g4 g6
      ·simp only [nB hk2,dF,aR,aT,Bool.false_eq_true,if_false]
       exact out k c (.inl hk2) g2 g3 g4 g6
     | succ p ihp=>
      intro k c g1 g2 g3 g4 g5 g6 S1 hle;rw [qO];unfold mF;refine lE S hle ?_;rw [qN hi,PH,JP,jF (a:= .list (dV l[i].may) l[i].may.length) (by rw [IJ l i 14 l[i] hgi (by omega),Sp.Yj])];show cY (.list (.sub O (i*15+14)) (dV l[i].may) l[i].may.length) _;simp only [iY,aI,bD];by_cases hk2:k<l[i].may.length
      ·by_cases hc:c<6000
       ·simp only [LR hk2,aH,aI,LR hc,aR,if_true,aT]
        have hu:=b4 l[i].may[k] (List.getElem_mem hk2);rw [bA,Hj (by omega),qN hi,PH,JP,jF (a:= .list (dV l[i].may) l[i].may.length) (by rw [IJ l i 14 l[i] hgi (by omega),Sp.Yj])];show fQ 1 (.list (.sub O (i*15+14)) (dV l[i].may) l[i].may.length) _ _;rw [qN hk2,JP,Nat.mul_one,jF (a:= .str l[i].may[k]) (by unfold dV;rw [List.getElem?_map,List.getElem?_eq_getElem hk2];rfl)];show xN (.str l[i].may[k]) _;rw [yN,bA,Hj (by omega),bA,fF (by omega)];exact ihp (k+1) _ (by omega) (by omega) (by omega) (by omega) (by omega) (fun g7=>g6 (by omega)) S (.refl S)
       ·have e1:decide (Int.ofNat c<Int.ofNat 6000)=false:=nB hc
        simp only [LR hk2,aH,aI,e1,aR,if_true,aT,Bool.false_eq_true,if_false];exact out k c (.inr hc) g2 g3 g4 g6
      ·simp only [nB hk2,dF,aR,aT,Bool.false_eq_true,if_false]
       exact out k c (.inl hk2) g2 g3 g4 g6
    obtain⟨p,hp⟩:=Nat.exists_eq_succ_of_ne_zero (show x.most≠0 by omega);rw [hp];exact inner p 0 _ (by omega) (by omega) (by omega) (by omega) (by omega) (fun g7=>h5 (by omega)) S (.refl S)
   ·have e1:decide (Int.ofNat c<Int.ofNat 6000)=false:=nB hc
    simp only [LR hi,aH,aI,e1,aR,if_true,aT,Bool.false_eq_true,if_false];exact fin i c (.inr hc) h2 h4 h5
  ·simp only [nB hi,dF,aR,aT,Bool.false_eq_true,if_false]
   exact fin i c (.inl hi) h2 h4 h5
theorem aEV (sm:Small l) (hM:100000<M) (hx:Deep PP bM gT M (n+1) x) (hk:∀bb,(bb=false->Few l)->K (.bool bb) S):x.call qY [.list O (SL l) l.length] S K:=by
 refine hx.call aEU fun y hy=>?_;rw [Cc];unfold NE;have hm:y.most=M:=hy.most;obtain⟨p,hp⟩:=Nat.exists_eq_succ_of_ne_zero (show y.most≠0 by omega);rw [hp];exact aBj sm hm hM hk p 0 0 S (by omega) (by omega) (by omega) (by omega) (fun _ j s h=>by omega) (.refl S)
end
set_option maxRecDepth 4000
theorem aCh:gT gZ=none:=rfl
def Ba.st (a:Ba) (l:List Sp) (j:Nat):Ba:=(l.take j).foldl (fun a s=>(a.step s).1) a
theorem Ba.st_succ (a:Ba) (l:List Sp) (j:Nat) (h:j<l.length):a.st l (j+1)=((a.st l j).step l[j]).1:=by
 unfold Ba.st;rw [List.take_add_one,List.getElem?_eq_getElem h,List.foldl_append];rfl
section
variable{ov:XE}{M n b t m b2:Nat}{x:VE}{S S' S0:Hp}{K:KV}{a a0:Ba}{v:V}{ty:TypeId}{l:List Vo}
theorem Deep.aCG{f:FuncId}{a1 a2 w:V}{cs:List Dt}{q:Nat} (hx:Deep PP bM ov M (n+1) x) (hf:ov f=none) (hle:dL S' S) (hz:RQ S' S w (.list cs q)) (h:∀O y,Deep PP bM ov M n y->nP PP bM f y [a1,a2,.list O cs q] S' K):x.call f [a1,a2,w] S K:=by
 obtain⟨h1,h2,y,h3,h4,_⟩:=hx;refine⟨S',fun O=>[a1,a2,T (O 2) (.list cs q)],hle,fun O=>⟨rfl,fun j v u e1 e2=>?_⟩,fun O=>by rw [h4 f hf];exact h _ y h3⟩
 match j with
 | 0=>simp at e1 e2;subst e1 e2;exact .keep _
 | 1=>simp at e1 e2;subst e1 e2;exact .keep _
 | 2=>simp at e1 e2;subst e1 e2;exact .dat hz
 | j+3=>simp at e1
theorem RB.ch (h:RB S b2 a) (k:Bal S b t m ty a0) (h1:b2≠b) (h2:b2≠m) (c:Ch S S' b m):RB S' b2 a:=by
 obtain⟨v,q1,q2⟩:=h.row;have hm:∃es,S m=some (.map es):=by obtain⟨l0,g,_⟩:=k.LQ;exact⟨_,g.map⟩
 obtain⟨es,hm⟩:=hm;refine⟨v,by rw [c b2 h1 h2];exact q1,?_⟩;rcases q2.is with q | ⟨j,e1,e2,e3⟩ | ⟨i,e1,e2⟩
 ·exact⟨.inl q⟩
 ·refine⟨.inr (.inl ⟨j,e1,?_,e3⟩)⟩
  rw [c j (fun q=>by rw [q,k.row]at e2;injection e2 with e2;injection e2 with e2 _;simp [kP]at e2) (fun q=>by rw [q,hm]at e2;cases e2)];exact e2
 ·refine⟨.inr (.inr ⟨i,e1,?_⟩)⟩
  rw [c i (fun q=>by rw [q,k.row]at e2;cases e2) (fun q=>by rw [q,hm]at e2;cases e2)];exact e2
theorem Bal.but (k:Bal S b t m ty a) (h1:b2≠b) (h2:b2≠t) (h3:b2≠m) (c:But S S' b2):Bal S' b t m ty a:=by
 obtain⟨l0,q1,q2⟩:=k.LQ;exact⟨c _ _ (Ne.symm h1) k.row,⟨l0,⟨c _ _ (Ne.symm h2) q1.row,c _ _ (Ne.symm h3) q1.map⟩,q2⟩,k.inv,k.bt,k.bm,k.tm⟩
theorem aAc{s:Sp}{p4:Nat}{O1 O2:Tag} (h4:S p4=some (.row (s.vv O1 O2) 48)) (hl:s.may.length<=6000) (hk:∀w S3,dL S S3->RQ S S3 w (.list (dV s.may) s.may.length)->K w S3):dP 9 0 [(.string ⟨⟨[]⟩⟩)] [] S fun v5 S=>aD 14 (.ptr p4 0) fun v6=>aE v6 S fun v7 S=>oP 9 1 16 v5 v7 S K:=by
 have bS:∀{K:KV},(∀j,S j=none->K (.own j 0 0 0) (upd S j (.row [] 9)))->dP 9 0 [(.string ⟨⟨[]⟩⟩)] [] S K:=fun h=>h;refine bS fun p hp=>?_;have le1:dL S (upd S p (.row [] 9)):= .aV hp;have rp:upd S p (.row [] 9) p=some (.row [] 9):=upd_same;generalize upd S p (.row [] 9)=S1 at le1 rp;have m14:∀{K:KV},aE (.ptr p4 14) S1 K=K (.list O2 (dV s.may) s.may.length) S1:=aJ (le1 _ _ h4);simp only [aO,m14];unfold oP zY;refine⟨by rw [rC];omega,?_⟩;rw [List.take_of_length_le (by rw [rC];omega)];have hlen:(Tl O2 0 (dV s.may)).length=s.may.length:=by rw [EM,rC]
 cases hm:s.may.length with
 | zero=>
  have e0:s.may=[]:=List.eq_nil_of_length_eq_zero hm;refine⟨Nat.le_refl _,hk _ _ le1 ?_⟩;rw [e0];exact .own rp hp (Nat.le_refl _) (by simp [dV]) fun j v d e1 e2=>by simp [dV]at e2
 | succ q=>
  refine⟨?_,?_⟩
  ·rw [List.all_eq_true]
   intro v hv;obtain⟨j,hj⟩:=List.getElem?_of_mem hv;rw [GV]at hj;unfold dV at hj;rw [List.getElem?_map]at hj;cases hq:s.may[j]? with
   | none=>rw [hq]at hj;cases hj
   | some d=>rw [hq]at hj;injection hj with hj;subst hj;rfl
  ·simp only [rp]
   refine⟨by omega,by simp,fun h=>absurd h (by omega),fun _ z hz=>?_⟩;have el:[]++Tl O2 0 (dV s.may)=Tl O2 0 (dV s.may):=rfl;have e2:(List.take (0*1) (List.drop 0 ([]:List V)))++Tl O2 0 (dV s.may)=Tl O2 0 (dV s.may):=by simp
   rw [e2];have e3:0+(q+1)=s.may.length:=by omega
   rw [e3];refine hk _ _ (le1.trans (.aV hz)) (.acc upd_same (le1.none hz) (by rw [hlen,rC]) fun j v d g1 g2=>?_);rw [GV,g2]at g1;injection g1 with g1;subst g1;exact .T
theorem aAd{p z nn:Nat}{w0 t0 t1 t2 t7:V}{s:Bs}{m0:Nat} (hlen:l.length<=100000) (hp0:S0 p=none) (hp:∀{j:Nat},S0 j≠none->j≠p) (hw:(v= .nil/\l=[])\/∃z,v= .acc z l.length/\S0 z=none/\z≠p) (hk:∀S',dL S0 S'->jS x m0 t0 t1 t2 t7 S' K):
 ∀(q j:Nat) (S1:Hp),l.length<=j+q->j<=l.length->dL S0 S1->S1 p=some (.row (aU s v) 29)->(∀z,v= .acc z l.length->∃vs,S1 z=some (.iD vs 39 l.length)/\vs.length=l.length*5)->fL x (q+1) m0 t0 t1 t2 t7 (.ptr p 0) (.int .i64 (.ofNat j)) S1 K:=by
 have Ls:∀{k:V->Prop},cY v k=k (.int .i64 (.ofNat l.length)):=fun {k}=>by
  rcases hw with ⟨rfl,rfl⟩ | ⟨z,rfl,_⟩<;>rfl
 intro q;induction q with
 | zero=>
  intro j S1 h1 h2 c e g;rw [mH];unfold iG;refine aN ?_;have LS:∀{K:KV},aE (.ptr p 14) S1 K=K v S1:=aJ e;simp only [aO,LS,Ls,aI,nB (show ¬j<l.length by omega),bP];exact hk S1 c
 | succ q ih=>
  intro j S1 h1 h2 c e g;rw [mH];unfold iG;refine aN ?_;have LS:∀{K:KV},aE (.ptr p 14) S1 K=K v S1:=aJ e;by_cases hi:j<l.length
  ·rcases hw with ⟨_,rfl⟩ | ⟨z,rfl,hz0,hzp⟩
   ·simp at hi
   ·obtain⟨vs,hz,hvl⟩:=g z rfl
    simp only [aO,LS,Ls,aI,LR hi,cO,dR hi,qV];refine Ng hz rfl (by omega) ?_;rw [bA,fF (by omega)];refine ih (j+1) _ (by omega) (by omega) (fun q o e2=>?_) ?_ fun z2 hz2=>?_
    ·rw [aG (fun h=>by rw [h,hz0]at e2;cases e2)];exact c q o e2
    ·rw [aG (Ne.symm hzp)];exact e
    ·injection hz2 with hz2
     subst hz2;exact⟨_,upd_same,by rw [EI (by omega),List.length_set];exact hvl⟩
  ·simp only [aO,LS,Ls,aI,nB hi,bP]
   exact hk S1 c
theorem aCi{m0 i:Nat}{O:Tag}{sp:List Sp} (hM:100000<M) (hx:Deep PP bM gT M (n+3) x) (k:Bal S b t m 55 a) (r:RB S b2 a) (hbb:b2≠b) (hbt:b2≠t) (hbm:b2≠m) (hi:i<1000000)
 (hk:∀S',Bal S' b t m 55 a->RB S' b2 a->mG x m0 (.ptr b 0) (.ptr b2 0) (.list O (SL sp) sp.length) (.int .i64 (.ofNat (i+1))) S' K):eG x m0 (.ptr b 0) (.ptr b2 0) (.list O (SL sp) sp.length) (.int .i64 (.ofNat i)) (.bool true) S K:=by
 have hm:x.most≠0:=by rw [hx.most];omega
 have hmm:x.most=M:=hx.most;have hx2:Deep PP bM gT M (n+1+2) x:=hx;have hx1:Deep PP bM gT M (n+2+1) x:=hx;have hlen:=k.inv.len;rw [yT x hm];unfold lM;refine aN ?_;obtain⟨v,hb2,hl2⟩:=r.row;have m13:∀{K:KV},aE (.ptr b2 13) S K=K (.str a.s.dec) S:=aJ hb2;have mall:∀{K:KV},dK 15 (.ptr b2 0) S K=K (.agg (aU a.s v)) S:=fun {K}=>by rw [BV hb2,eE (by simp [aU])];rfl
 have same:∀{p:Prop},aY (.agg (aU a.s v)) (.agg (aU a.s v)) p=p:=fun {p}=>by
  rcases hl2.is with ⟨rfl,_⟩ | ⟨j,rfl,_⟩ | ⟨z,rfl,_⟩<;>exact rT rfl
 have Sq:∀{x y:Bool} {K:V->Prop},aF PP .neq 4 (.bool x) (.bool y) K=K (.bool (!decide (x=y))):=fun {x y K}=>by simp [aF,Vr,Hf]
 refine aFs hx1 k ?_;simp only [oZ,pA,fG,Bool.not_true,bD,aH,aP,aO,m13,kT,decide_true,eA,Sq];refine aCg hM hx2 k fun w1 hw1=>?_;simp only [gB,m13,tU];refine aAa hM hx2 r k.inv fun w2 hw2=>?_;simp only [m13,tU];rw [texts_eq]at hw1;have htl:=WG a.l;refine Sk hM hx1 hw1 hw2 (by omega) ?_;simp only [gB,m13,tU,aH,fG,Bool.not_true,eA,aP,mall];refine aBv hx2 k fun O1=>?_;simp only [m13,tU,mall,same];refine aFd hM hx2 (by omega) fun O2=>?_;simp only [m13,tU,mall,same];refine Sm (ty1:=49) (ty2:=49) hM hx2 ⟨.inr (.inl ⟨O2,rfl⟩)⟩ hl2.gv (by omega) ?_;simp only [m13,tU,fG,Bool.not_true,bP]
 have j2:∀S',dL S S'->jS x m0 (.ptr b 0) (.ptr b2 0) (.list O (SL sp) sp.length) (.int .i64 (.ofNat i)) S' K:=fun S' c=>by
  rw [EQ x hm];unfold pC;refine aN ?_;rw [bA,fF (by omega)];exact hk S' (k.le c) (r.hle c)
 have aC2:aF PP .rem 3 (.int .i64 (.ofNat i)) (.int .i64 (.ofNat 4))=fun K=>K (.int .i64 (.ofNat (i%4))):=by
  funext K
  rw [PI (by simp)]
  congr 2
 rw [aC2];simp only [LM];by_cases c3:i%4=3
 ·rw [decide_eq_true c3,cO]
  refine aB8 hx2 k fun w S1 c1 mv=>?_;have hof:lL w=true:=by rcases mv with ⟨rfl,_⟩ | ⟨z,rfl,_⟩<;>rfl
  have ho:(aU a.s w).all lL=true:=by simp [aU,hof];exact⟨rfl,rfl,rfl,rfl,rfl,rfl,rfl,rfl,rfl,rfl,rfl,rfl,rfl,rfl⟩
  refine cG (l:=aU KA .nil) rfl fun p hp=>?_;refine gE upd_same ho (by rfl) (by rfl) ?_;rw [cP];have c2:dL S1 (upd S1 p (.row (aU a.s w) 29)):= .aV hp;obtain⟨q,hq⟩:=Nat.exists_eq_succ_of_ne_zero hm;rw [hq];have hp0:S p=none:=c1.none hp;refine aAd (S0:=S) (z:=0) (nn:=0) (w0:= .nil) (l:=a.l) (by omega) hp0 (fun hj e=>hj (by rw [e];exact hp0)) ?_ j2 q 0 _ (by omega) (by omega) (c1.trans c2) upd_same fun z hz=>?_
  ·rcases mv with q | ⟨z,q1,q2,q3⟩
   ·exact .inl q
   ·exact .inr ⟨z,q1,q3,fun e=>by rw [e,hp]at q2;cases q2⟩
  ·rcases mv with ⟨q,_⟩ | ⟨z',q1,q2,q3⟩
   ·rw [q]at hz;cases hz
   ·rw [q1]at hz
    injection hz with hz;subst hz;exact⟨_,c2 _ _ q2,pH _⟩
 ·rw [decide_eq_false c3,bP]
  exact j2 S (.refl S)
end
set_option maxRecDepth 4000
theorem aGL (s:Sp) (O:Tag) (o:Nat):Tl O o s.dt=s.vv (.sub O (o+12)) (.sub O (o+14)):=rfl
theorem aAe (a:Ba):a.late.2.length<=1:=by
 unfold Ba.late;split
 ·exact Nat.le_refl 1
 ·split
  ·split
   ·exact Nat.le_refl 1
   ·exact Nat.zero_le 1
  ·split<;>exact Nat.zero_le 1
theorem aAf (a:Ba) (want:List UInt8) (may:List (List UInt8)):(a.tick want may).2.length<=1001:=by
 show((a.sF want).2++((a.sF want).1.NW want may).2).length<=1001;rw [List.length_append];have h1:=Di (a:=(a.sF want).1) want may
 have h2:(a.sF want).2.length<=1:=by
  unfold Ba.sF;split
  ·split
   ·exact aAe _
   ·exact Nat.zero_le 1
  ·exact Nat.zero_le 1
 omega
section
variable{M n b t m b2:Nat}{x:VE}{S S' S0:Hp}{K:KV}{a a0:Ba}{v:V}{ty:TypeId}{l:List Vo}
theorem aAg{sp:List Sp}{O:Tag} (hM:100000<M) (hM2:M<=125000) (hx:Deep PP bM gT M (n+9) x) (few:Few sp) (hbb:b2≠b) (hbt:b2≠t) (hbm:b2≠m) (hk:∀S',K (.bool true) S'):
 ∀(q i:Nat) (S:Hp),sp.length<=i+q->i<=sp.length->Bal S b t m 55 (a.st sp i)->RB S b2 (a.st sp i)->mG x (q+1) (.ptr b 0) (.ptr b2 0) (.list O (SL sp) sp.length) (.int .i64 (.ofNat i)) S K:=by
 have hx4:Deep PP bM gT M (n+5+4) x:=hx;have hx3:Deep PP bM gT M (n+6+3) x:=hx;have hx2:Deep PP bM gT M (n+7+2) x:=hx;have hx8:Deep PP bM gT M (n+7+1+1) x:=hx;have fl:=few.1;intro q;induction q with
 | zero=>
  intro i S h1 h2 k r;rw [xS];unfold rK;refine aN ?_;rw [iY,aI,nB (by omega),bP];exact aK (hk S)
 | succ q ih=>
  intro i S h1 h2 k r;rw [xS];unfold rK;refine aN ?_;rw [iY,aI];by_cases hi:i<sp.length
  ·have hmay:=few.2 sp[i] (List.getElem_mem hi)
   have hst:=Ba.st_succ a sp i hi
   have next:∀S',Bal S' b t m 55 ((a.st sp i).step sp[i]).1->RB S' b2 ((a.st sp i).step sp[i]).1->eG x (q+1) (.ptr b 0) (.ptr b2 0) (.list O (SL sp) sp.length) (.int .i64 (.ofNat i)) (.bool true) S' K:=fun S' k' r'=>
    aCi hM hx3 k' r' hbb hbt hbm (by omega) fun S'' k'' r''=>ih (i+1) S'' (by omega) (by omega) (by rw [hst];exact k'') (by rw [hst];exact r'')
   rw [LR hi,cO,qN hi,KT,eE (by rw [De];omega),Yi sp i sp[i] (List.getElem?_eq_getElem hi),aGL];generalize sp[i]=s at hmay next;generalize a.st sp i=a1 at k r next;generalize (Tag.sub O (i*15+12))=O1;generalize (Tag.sub O (i*15+14))=O2;refine cG rfl fun p4 hp4=>?_;refine gE upd_same (by rfl) (by rfl) (by rfl) ?_;rw [cP];have le1:dL S (upd S p4 (.row (s.vv O1 O2) 48)):= .aV hp4;have r4:upd S p4 (.row (s.vv O1 O2) 48) p4=some (.row (s.vv O1 O2) 48):=upd_same;generalize upd S p4 (.row (s.vv O1 O2) 48)=S1 at le1 r4;have k1:=k.le le1;have r1:=r.hle le1;have n1:p4≠b:=fun e=>by rw [e,k.row]at hp4;cases hp4
   have n2:p4≠m:=fun e=>by obtain⟨l0,g,_⟩:=k.LQ;rw [e,g.map]at hp4;cases hp4
   have n3:p4≠b2:=fun e=>by rw [e]at hp4;exact r.ne hp4
   refine aAc r4 hmay fun w S3 DC fz=>?_;have r43:=DC _ _ r4;have m0:∀{K:KV},aE (.ptr p4 0) S3 K=K (.int .u8 (.ofNat s.what)) S3:=aJ r43;simp only [aO,m0,qU];by_cases c0:s.what=0
   ·rw [decide_eq_true c0,cO]
    have e0:a1.step s=(a1.give s.fr s.g.kd s.g.h s.g.r s.g.vl s.g.tx,[]):=by unfold Ba.step;rw [if_pos c0]
    rw [e0]at next;have m1:∀{K:KV},aE (.ptr p4 1) S3 K=K (.int .i64 s.fr) S3:=aJ r43
    have m2:∀{K:KV},dK 11 (.ptr p4 2) S3 K=K (.agg (s.g.vv O1)) S3:=fun {K}=>by
     rw [BV r43,eE (by simp [Sp.vv,Mi.vv])];rfl
    simp only [m1,m2];refine aGB (by omega) hx4 (k1.le DC) fun S4 c4 k4=>?_;have r44:S4 p4=some (.row (s.vv O1 O2) 48):=by rw [c4 p4 n1 n2];exact r43
    have g1:∀{K:KV},aE (.ptr p4 1) S4 K=K (.int .i64 s.fr) S4:=aJ r44
    have g2:∀{K:KV},dK 11 (.ptr p4 2) S4 K=K (.agg (s.g.vv O1)) S4:=fun {K}=>by
     rw [BV r44,eE (by simp [Sp.vv,Mi.vv])];rfl
    have sg:∀{p:Prop},aY (.agg (s.g.vv O1)) (.agg (s.g.vv O1)) p=p:=fun {p}=>rT rfl;simp only [g1,g2,sg,cZ];have r5:=(r1.hle DC).ch (k1.le DC) hbb hbm c4;refine aFm hM hx4 r5 k.inv fun S5 c5 k5=>?_;simp only [IG Hf,decide_true];exact next S5 (k4.but hbb hbt hbm c5) k5
   ·rw [decide_eq_false c0,bP]
    by_cases c1:s.what=1
    ·rw [decide_eq_true c1,cO]
     have e0:a1.step s=a1.NW s.want s.may:=by unfold Ba.step;rw [if_neg c0,if_pos c1]
     rw [e0]at next;have m13:∀{K:KV},aE (.ptr p4 13) S3 K=K (.str s.want) S3:=aJ r43;have m14:∀{K:KV},aE (.ptr p4 14) S3 K=K (.list O2 (dV s.may) s.may.length) S3:=aJ r43;simp only [m13,m14];refine hx8.aCG (S':=S1) aGv DC fz fun O3 y hy=>?_;refine aGy hM hM2 (n:=n+1) hy k1 (by omega) fun S4 c4 k4 O4=>?_;have r44:S4 p4=some (.row (s.vv O1 O2) 48):=by rw [c4 p4 n1 n2];exact r4
     have g13:∀{K:KV},aE (.ptr p4 13) S4 K=K (.str s.want) S4:=aJ r44;have g14:∀{K:KV},aE (.ptr p4 14) S4 K=K (.list O2 (dV s.may) s.may.length) S4:=aJ r44;simp only [g13,g14,tU,SJ];have r5:=r1.ch k1 hbb hbm c4;refine Zm (n:=n+3) hM hM2 hx r5 k.inv (by omega) fun S5 c5 k5 O5=>?_;have hl:=Di (a:=a1) s.want s.may;refine Yx hx2 (by omega) hM ?_;exact next S5 (k4.but hbb hbt hbm c5) k5
    ·rw [decide_eq_false c1,bP]
     have e0:a1.step s=a1.tick s.want s.may:=by unfold Ba.step;rw [if_neg c0,if_neg c1]
     rw [e0]at next;have m13:∀{K:KV},aE (.ptr p4 13) S3 K=K (.str s.want) S3:=aJ r43;have m14:∀{K:KV},aE (.ptr p4 14) S3 K=K (.list O2 (dV s.may) s.may.length) S3:=aJ r43;simp only [m13,m14];refine hx8.aCG (S':=S1) aE5 DC fz fun O3 y hy=>?_;refine aE8 hM hM2 (n:=n) hy k1 (by omega) fun S4 c4 k4 O4=>?_;have r44:S4 p4=some (.row (s.vv O1 O2) 48):=by rw [c4 p4 n1 n2];exact r4
     have g13:∀{K:KV},aE (.ptr p4 13) S4 K=K (.str s.want) S4:=aJ r44;have g14:∀{K:KV},aE (.ptr p4 14) S4 K=K (.list O2 (dV s.may) s.may.length) S4:=aJ r44;simp only [g13,g14,tU,SJ];have r5:=r1.ch k1 hbb hbm c4;refine aB1 (n:=n+2) hM hM2 hx r5 k.inv (by omega) fun S5 c5 k5 O5=>?_;have hl:=aAf a1 s.want s.may;refine Yx hx2 (by omega) hM ?_;exact next S5 (k4.but hbb hbt hbm c5) k5
  ·rw [nB hi,bP]
   exact aK (hk S)
theorem aCj{sp:List Sp}{O:Tag} (hM:100000<M) (hM2:M<=125000) (hx:Deep PP bM gT M (n+10) x) (few:Few sp) (k:Bal S b t m 55 a) (r:RB S b2 a) (hbb:b2≠b) (hbt:b2≠t) (hbm:b2≠m) (hk:∀S',K (.bool true) S'):x.call gZ [.ptr b 0,.ptr b2 0,.list O (SL sp) sp.length] S K:=by
 refine hx.call aCh fun y hy=>?_;rw [XG];unfold JV;have hmm:y.most=M:=hy.most;obtain⟨p,hp⟩:=Nat.exists_eq_succ_of_ne_zero (show y.most≠0 by omega);rw [hp];have fl:=few.1;exact aAg hM hM2 hy few hbb hbt hbm hk p 0 S (by omega) (by omega) k r
theorem Sr{p:Nat}{w0 t1 t6 t8:V}{s:Bs} (hlen:l.length<=100000) (hp0:S0 p=none) (hw:(v= .nil/\l=[])\/∃z,v= .acc z l.length/\S0 z=none/\z≠p) (hk:∀S',dL S0 S'->(x.call mC [t8] S' fun v9 S=>x.call gZ [t6,v9,t1] S fun v10 S=>aS v10 S K)):
 ∀(q j:Nat) (S1:Hp),l.length<=j+q->j<=l.length->dL S0 S1->S1 p=some (.row (aU s v) 29)->(∀z,v= .acc z l.length->∃vs,S1 z=some (.iD vs 39 l.length)/\vs.length=l.length*5)->gW x (q+1) t1 (.ptr p 0) t6 t8 (.int .i64 (.ofNat j)) S1 K:=by
 have Ls:∀{k:V->Prop},cY v k=k (.int .i64 (.ofNat l.length)):=fun {k}=>by
  rcases hw with ⟨rfl,rfl⟩ | ⟨z,rfl,_⟩<;>rfl
 intro q;induction q with
 | zero=>
  intro j S1 h1 h2 c e g;rw [oL];unfold kB;refine aN ?_;have LS:∀{K:KV},aE (.ptr p 14) S1 K=K v S1:=aJ e;simp only [aO,LS,Ls,aI,nB (show ¬j<l.length by omega),bP];exact hk S1 c
 | succ q ih=>
  intro j S1 h1 h2 c e g;rw [oL];unfold kB;refine aN ?_;have LS:∀{K:KV},aE (.ptr p 14) S1 K=K v S1:=aJ e;by_cases hi:j<l.length
  ·rcases hw with ⟨_,rfl⟩ | ⟨z,rfl,hz0,hzp⟩
   ·simp at hi
   ·obtain⟨vs,hz,hvl⟩:=g z rfl
    simp only [aO,LS,Ls,aI,LR hi,cO,dR hi,qV];refine Ng hz rfl (by omega) ?_;rw [bA,fF (by omega)];refine ih (j+1) _ (by omega) (by omega) (fun q o e2=>?_) ?_ fun z2 hz2=>?_
    ·rw [aG (fun h=>by rw [h,hz0]at e2;cases e2)];exact c q o e2
    ·rw [aG (Ne.symm hzp)];exact e
    ·injection hz2 with hz2
     subst hz2;exact⟨_,upd_same,by rw [EI (by omega),List.length_set];exact hvl⟩
  ·simp only [aO,LS,Ls,aI,nB hi,bP]
   exact hk S1 c
theorem XP{s:Bs}{sp:List Sp}{O0 O:Tag} (hM:100000<M) (hM2:M<=125000) (hx:Deep PP bM gT M (n+11) x) (sm:Small sp) (hk:∀S',K (.bool true) S'):nP PP bM gQ x [.agg (aU s (.list O0 (uQ l) l.length)),.list O (SL sp) sp.length] (fun _=>none) K:=by
 rw [IT];unfold xQ;have hx1:Deep PP bM gT M (n+10+1) x:=hx;have hx2:Deep PP bM gT M (n+9+2) x:=hx;have hx4:Deep PP bM gT M (n+7+4) x:=hx;have aHA:Deep PP bM gT M (n+1+10) x:=hx;have hmm:x.most=M:=hx.most;refine eQ rfl fun p0 hp0=>?_;have rp:upd (fun _=>none) p0 (.row (aU s (.list O0 (uQ l) l.length)) 24) p0=some (.row (aU s (.list O0 (uQ l) l.length)) 24):=upd_same;generalize upd (fun _=>none) p0 (.row (aU s (.list O0 (uQ l) l.length)) 24)=S at rp;refine aEV sm hM hx1 fun bb hbb=>?_;have LS:∀{K:KV},aE (.ptr p0 14) S K=K (.list O0 (uQ l) l.length) S:=aJ rp
 have aFy:∀{S':Hp} {K:KV},dL S S'->dK 15 (.ptr p0 0) S' K=K (.agg (aU s (.list O0 (uQ l) l.length))) S':=fun {S' K} c=>by
  rw [BV (c _ _ rp),eE (by simp [aU])];rfl
 simp only [bD];cases bb with
 | true=>
  repeat with_reducible (first | refine fI ?_ | refine gJ ?_ | refine fJ ?_ | refine pS ?_)
  exact aK (hk _)
 | false=>
  have few:=hbb rfl;simp only [aH,aO,LS,iY,dN,eA];by_cases c1:200<l.length
  ·rw [LR c1,cO]
   exact aK (hk _)
  ·rw [nB c1,bP,aFy (.refl S)]
   refine aB7 hM hx2 (by omega) fun v S1 le1 mv=>?_;have hof:lL v=true:=by rcases mv with ⟨rfl,_⟩ | ⟨z,rfl,_⟩<;>rfl
   have ho:(aU s v).all lL=true:=by simp [aU,hof];exact⟨rfl,rfl,rfl,rfl,rfl,rfl,rfl,rfl,rfl,rfl,rfl,rfl,rfl,rfl⟩
   refine cG (l:=aU KA .nil) rfl fun p hp=>?_;refine gE upd_same ho (by rfl) (by rfl) ?_;rw [cP];have jX:dL S1 (upd S1 p (.row (aU s v) 29)):= .aV hp;have r2:upd S1 p (.row (aU s v) 29) p=some (.row (aU s v) 29):=upd_same;generalize upd S1 p (.row (aU s v) 29)=S2 at jX r2;refine fT r2 (by rfl) ?_;have g2:Gv 39 S2 v l:=mv.gv.mono fun z o e _=>jX z o e;have le:=le1.trans jX;have aHB:∀{K:V->Prop},K (.bool true)->aF PP .eql 31 .pW .pW K:=fun h=>⟨rfl,kind25,.inl rfl,(fun _ _ e=>by cases e),h⟩;refine aB5 hM hx4 (by omega) g2 (fun hb=>?_) (fun l' b t m S3 fits hp1 c3 hb ht hm k=>?_)
   ·simp only [oZ,pA,aFy le]
    refine Ol hM hx4 (by omega) (fun _=>?_) (fun l' b S' f1 f2 _ _ _=>absurd ⟨f1,l',f2⟩ hb);have d0:(!decide ((4:Int)=4))=false:=rfl;have d1:(!decide ((4:Int)=Int.ofNat 0))=true:=rfl;simp only [oZ,pA,cW,aH,d1,eA,cO,bW,decide_true,Bool.not_true];refine aHB ?_;rw [dC];exact aK (hk _)
   ·simp only [oZ,pA,aFy (le.trans c3)]
    have inv:cA ⟨s,l'⟩:=k.inv;refine Ol hM hx4 (by omega) (fun hb2=>absurd ⟨fits,l',hp1⟩ hb2) (fun l2 b2 S4 f1 f2 c4 hb2 r=>?_);rw [hp1]at f2;injection f2 with f2;subst f2;have d0:(!decide ((0:Int)=0))=false:=rfl;have d1:(!decide ((0:Int)=Int.ofNat 0))=false:=rfl;simp only [oZ,pA,cW,aH,d1,eA,bP,decide_true,Bool.not_true];obtain⟨q,hq⟩:=Nat.exists_eq_succ_of_ne_zero (show x.most≠0 by omega);rw [hq];have c24:=c3.trans c4
    have hz:(v= .nil/\l=[])\/∃z,v= .acc z l.length/\S2 z=some (.iD (AT l) 39 l.length):=by
     rcases mv with q | ⟨z,q1,q2,_⟩
     ·exact .inl q
     ·exact .inr ⟨z,q1,jX _ _ q2⟩
    have k4:=k.le c4;have pb:∀{j:Nat},S2 j=none->j≠p:=fun e q=>by rw [q,r2]at e;cases e
    classical
    let Sb:Hp:=fun j=>if j=p\/v= .acc j l.length then none else S4 j
    have hbp:Sb p=none:=if_pos (.inl rfl)
    have hle:dL Sb S4:=fun j o e=>by
     have e:(if j=p\/v= .acc j l.length then none else S4 j)=some o:=e;split at e
     ·cases e
     ·exact e
    have keep:∀{j:Nat} {o:Ob},S4 j=some o->j≠p->v≠ .acc j l.length->Sb j=some o:=fun {j o} e h1 h2=>by
     show(if j=p\/v= .acc j l.length then none else S4 j)=some o;rw [if_neg (by rintro(h | h);exact h1 h;exact h2 h)];exact e
    have nz:∀{j:Nat},S2 j=none->v≠ .acc j l.length:=fun {j} e h=>by
     rcases hz with ⟨q,_⟩ | ⟨z,q1,q2⟩
     ·rw [q]at h;cases h
     ·rw [q1]at h;injection h with h;subst h;rw [q2]at e;cases e
    have kb:Bal Sb b t m 55 ⟨s,l'⟩:=by
     obtain⟨l0,q1,q2⟩:=k4.LQ;exact⟨keep k4.row (pb hb) (nz hb),⟨l0,⟨keep q1.row (pb ht) (nz ht),keep q1.map (pb hm) (nz hm)⟩,q2⟩,k4.inv,k4.bt,k4.bm,k4.tm⟩
    have aGM:S2 b2=none:=c3.none hb2
    have rb:RB Sb b2 ⟨s,l'⟩:=by
     obtain⟨w,w1,w2⟩:=r.row;refine⟨w,keep w1 (pb aGM) (nz aGM),?_⟩;rcases w2.is with g | ⟨j,g1,g2,g3⟩ | ⟨j,g1,g2⟩
     ·exact⟨.inl g⟩
     ·refine⟨.inr (.inl ⟨j,g1,keep g2 (fun e=>?_) (fun e=>?_),g3⟩)⟩
      ·have:=c24 _ _ r2;rw [<-e,g2]at this;injection this with this;injection this with this _;simp [aU]at this
      ·rcases hz with ⟨q,_⟩ | ⟨z,q1,q2⟩
       ·rw [q]at e;cases e
       ·rw [q1]at e;injection e with e;subst e;have:=c24 _ _ q2;rw [g2]at this;cases this
     ·refine⟨.inr (.inr ⟨j,g1,keep g2 (fun e=>?_) (fun e=>?_)⟩)⟩
      ·have:=c24 _ _ r2;rw [<-e,g2]at this;cases this
      ·rcases hz with ⟨q,_⟩ | ⟨z,q1,q2⟩
       ·rw [q]at e;cases e
       ·rw [q1]at e;injection e with e;subst e;have:=c24 _ _ q2;rw [g2]at this;injection this with this;injection this with _ this _;cases this
    have n1:b2≠b:=fun e=>by rw [e]at hb2;have:=k.row;rw [hb2]at this;cases this
    have n2:b2≠t:=fun e=>by rw [e]at hb2;obtain⟨l0,g,_⟩:=k.LQ;have:=g.row;rw [hb2]at this;cases this
    have n3:b2≠m:=fun e=>by rw [e]at hb2;obtain⟨l0,g,_⟩:=k.LQ;have:=g.map;rw [hb2]at this;cases this
    refine Sr (S0:=Sb) (l:=l) (w0:= .nil) (by omega) hbp ?_ (fun S5 c5=>?_) q 0 S4 (by omega) (by omega) hle (c24 _ _ r2) fun z hv=>?_
    ·rcases hz with q | ⟨z,q1,q2⟩
     ·exact .inl q
     ·refine .inr ⟨z,q1,if_pos (.inr q1),fun e=>?_⟩
      rw [e,r2]at q2;cases q2
    ·have k5:=kb.le c5
     have r5:=rb.hle c5;refine aB9 hx1 r5 inv fun b3 S6 c6 hb3 r6=>?_;have k6:=k5.le c6;refine aCj hM hM2 aHA few k6 r6 (fun e=>?_) (fun e=>?_) (fun e=>?_) fun S'=>aK (hk S')
     ·rw [e]at hb3;have:=k5.row;rw [hb3]at this;cases this
     ·rw [e]at hb3;obtain⟨l0,g,_⟩:=k5.LQ;have:=g.row;rw [hb3]at this;cases this
     ·rw [e]at hb3;obtain⟨l0,g,_⟩:=k5.LQ;have:=g.map;rw [hb3]at this;cases this
    ·rcases hz with ⟨q,_⟩ | ⟨z',q1,q2⟩
     ·rw [q]at hv;cases hv
     ·rw [q1]at hv
      injection hv with hv;subst hv;exact⟨_,c24 _ _ q2,pH _⟩
end
end Go.Am
namespace Go.Am
open Go.Proofs Go.RowKit
theorem Fo:Tryz.prog.globals.size=0:=by kernel_rfl
theorem mixed:Tryz.prog.follows .mixedOrders=true:=by kernel_rfl
theorem nameless:Tryz.prog.funcs.toList.all (fun f=>f.name != "runtime.NumGoroutine")=true:=by kernel_rfl
theorem names:∀(f:FuncId) (fn:Func),Tryz.prog.funcs[f]? =some fn->fn.name≠ "runtime.NumGoroutine" :=by
 intro f fn h;have hm:fn∈Tryz.prog.funcs.toList:=List.mem_of_getElem? (i:=f) (by rw [Array.getElem?_toList];exact h);have:=List.all_eq_true.1 nameless fn hm;simpa using this
theorem called{f:FuncId} (h:(env Tryz.prog ovT drK 100000 60).call f [] (St.none Tryz.prog.globals.size) (fun v _=>isTrue v)=true) (w:World):
 Calls Tryz.prog f #[] w (fun e w'=>e= .returned (.bool true)/\Below w.heap.size w w'):=
 WT (by rw [Fo];exact Nat.zero_le _) Vc names mixed h
end Go.Am
