/- VM: one operation, and calls. -/
import Derived.Test.YtpcfidjmdfhigaaGreatDoorGc
import Derived.Test.YtpcfidjmdfhigaaGreatDoorGb
import GoSem.ClaimJoined
import Derived.OpenShut
import Derived.LaidMore
import Derived.SizedLaws
import Derived.Stop.Joined
import Derived.Handed

namespace Go.Am
open Go.RowKit Go.MapKept
section
variable{P:Program}{B:Nat->Prop}{Sb:St}{c c' d:Cx}{h h':Hp}{S S':St}{C C':Nat->Prop}
theorem Lo (s:VS P B Sb c h S) (l:bU h' h){O:Nat->Tag} (le:c.le d) (e:dO B d h'=dO B c h'){vs us:List V}{ws:List Value} (ht:∀(k:Nat) (w:Value),ws[k]? =some w->RP d S (dO B d h') (O k) w)
 (r:lT c S (dO B c h) vs ws) (hf:FzL h' h O vs us):lT d S (dO B d h') us ws:=by
 have f2:EP (dO B c h) S S (dO B d h'):=by rw [e];exact(s.drop l).2
 obtain⟨g1,g2⟩:=hf;refine⟨by rw [g1];exact r.len,fun k u w e1 e2=>?_⟩;have hk:k<vs.length:=by rw [<-g1];exact(List.getElem?_eq_some_iff.1 e1).1
 have ev:=aT hk;have hr:=r.rd k _ w ev e2;have hz:=g2 k _ u ev e1;cases hz with
 | mF=>exact hr.mono le f2
 | ZG hfz=>
  have:=s.Bd l hfz hr;exact aPr (by rw [e];exact this) (ht k w e2)
def aJK:List Value->List Value
 | .agg ⟨a⟩::l=>a++l
 | _=>[]
def aBG:Value->List Value
 | .agg ⟨l⟩=>l
 | .tuple ⟨l⟩=>l++aJK l
 | w=>[w]
theorem aPs (s:VS P B Sb c h S) (l:bU h' h){v:V}{w:Value}{u:(Nat->Tag)->V} (r:fN c S (dO B c h) v w) (hf:∀O,Fz h' h O v (u O)):
 ∃d O,c.le d/\VS P B Sb d h' S/\EP (dO B c h) S S (dO B d h')/\fN d S (dO B d h') (u O) w:=by
 obtain⟨s1,f1⟩:=s.drop l;obtain⟨d,O,le,s2,e,ht⟩:=s1.names (aBG w);have f2:EP (dO B c h) S S (dO B d h'):=by rw [e];exact f1
 refine⟨d,O,le,s2,f2,?_⟩;have hz:=hf O;generalize u O=x at hz;cases hz with
 | one hz=>
  cases hz with
  | mF=>exact r.mono le f2
  | ZG hfz=>
   have hd:=s.Bd l hfz r;have hp:aBG w=[w]:=by cases hd<;>rfl
   exact aPr (by rw [e];exact hd) (ht 0 w (by rw [hp];rfl))
 | agg hz=>
  cases r with
  | agg la ha=>
   have:=Lo s l le e ht ⟨la,ha⟩ hz;exact .agg this.len this.rd
 | tup hz=>
  cases r with
  | @tuple a a' la ha=>
   have ht:∀(k:Nat) (w:Value),(a'++aJK a')[k]? =some w->RP d S (dO B d h') (O k) w:=ht;have:=Lo s l le e (ws:=a') (fun k w hk=>ht k w (by rw [gO (List.getElem?_eq_some_iff.1 hk).1];exact hk)) ⟨la,ha⟩ hz;exact .tuple this.len this.rd
 | @aRD as bs vs us hl hz=>
  cases r with
  | @tuple _ a' la ha=>
   have ht:∀(k:Nat) (w:Value),(a'++aJK a')[k]? =some w->RP d S (dO B d h') (O k) w:=ht;cases a' with
   | nil=>cases la
   | cons w0 rest=>
    have h0:=ha 0 _ w0 rfl rfl;cases h0 with
    | @agg _ as' la0 ha0=>
     have hr:vs.length=rest.length:=by simpa using la
     have Qx:lT c S (dO B c h) (as++vs) (as'++rest):=by
      refine⟨by rw [kI,kI,la0,hr],fun k v w e1 e2=>?_⟩;rcases BI k as.length with hk | hk
      ·rw [gO hk]at e1
       rw [gO (by omega)]at e2;exact ha0 k v w e1 e2
      ·rw [kH hk]at e1
       rw [kH (by omega)]at e2;refine ha (k-as.length+1) v w ?_ ?_
       ·rw [ZV];exact e1
       ·rw [ZV,la0];exact e2
     have:=Lo s l le e (O:=fun k=>O (k+(vs.length+1))) (ws:=as'++rest) (fun k w hk=>ht (k+(vs.length+1)) w (by
      rw [kH (by rw [oX];omega),oX,hr,Nat.add_sub_cancel];exact hk)) Qx hz
     have lb:us.length=rest.length:=by
      have:=this.len;rw [kI,kI,hl,la0]at this;omega
     refine .tuple (by rw [oX,oX,lb]) fun k v w e1 e2=>?_;cases k with
     | zero=>
      injection e1 with e1;injection e2 with e2;subst e1 e2;refine .agg (by rw [hl,la0]) fun k v w e1 e2=>this.rd k v w ?_ ?_
      ·rw [gO (List.getElem?_eq_some_iff.1 e1).1];exact e1
      ·rw [gO (List.getElem?_eq_some_iff.1 e2).1];exact e2
     | succ k=>
      rw [ZV]at e1 e2;refine this.rd (bs.length+k) v w ?_ ?_
      ·rw [kH (by omega),Nat.add_sub_cancel_left];exact e1
      ·rw [kH (by rw [hl,la0];omega),hl,la0,Nat.add_sub_cancel_left];exact e2
structure ER (P:Program) (B:Nat->Prop) (Sb:St) (Ev:VE) (E:Env):Prop where
 eP:E.P=P
 eM:Ev.most=E.most
 eC:∀(f:FuncId) {args:List V} {ws:List Value} {c:Cx} {h:Hp} {S:St} {Kv:KV} {K:VK},VS P B Sb c h S->lT c S (dO B c h) args ws->KR P B Sb c h S Kv K->Ev.C f args h Kv->E.call f ws S K=true
 eR:∀(l b:Nat) {args:List V} {ws:List Value} {c:Cx} {h:Hp} {S:St} {Kv:KV} {K:VK},VS P B Sb c h S->c.Z l=some b->lT c S (dO B c h) args ws->KR P B Sb c h S Kv K->Ev.R l args h Kv->E.round b ws S K=true
theorem ER.aEZ{Ev:VE}{E:Env} (r:ER P B Sb Ev E) (f:FuncId){args:List V}{ws:List Value}{Kv:KV}{K:VK} (s:VS P B Sb c h S) (ra:lT c S (dO B c h) args ws) (k:KR P B Sb c h S Kv K) (hv:Ev.call f args h Kv):E.call f ws S K=true:=by
 obtain⟨h',us,l,hf,hv⟩:=hv;obtain⟨s1,f1⟩:=s.drop l;obtain⟨d,O,le,s2,e,ht⟩:=s1.names ws;have f2:EP (dO B c h) S S (dO B d h'):=by rw [e];exact f1
 exact r.eC f s2 (Lo s l le e ht ra (hf O)) (fun c' h' S' v w a b=>k c' h' S' v w (le.trans a) (f2.trans b)) (hv O)
theorem aGu{Ev:VE}{E:Env} (r:ER P B Sb Ev E){A:VA}{A':bD} (s:VS P B Sb c h S) (a:AR c S (dO B c h) A A'){cl:Call}{Kv:KV}{K:VK} (k:KR P B Sb c h S Kv K) (hv:(aJl P cl).f Ev A h Kv):nC E A' cl S K=true:=by
 have hP:=r.eP;subst hP;unfold aJl at hv;split at hv
 ·rename_i hc
  split at hv
  ·rename_i t x ht ha
   unfold nC;rw [hc,ha,ht];simp only [UJ,bV,vR];split at hv
   ·rename_i _ _ e hs
    refine cF a hv fun v w rv hv=>?_;rw [aHJ hs];exact aGr s rv (fun v w rv h=>k.here s rv h) hv
   ·rename_i _ _ hs hu
    refine cF a hv fun v w rv hv=>?_;rw [aHK hu];exact aGs rv (fun v w rv h=>k.here s rv h) hv
   ·rename_i _ _ kt et hs hu
    refine cF a hv fun v w rv hv=>?_;exact aGv s hu rv k hv
   ·cases hv
  ·cases hv
 ·rename_i hc
  split at hv
  ·rename_i sT xT x y ht ha
   unfold nC;rw [hc,ha,ht];simp only [UJ,bV,vR];split at hv
   ·rename_i el hs hx
    split at hv
    ·rename_i info hi
     split at hv
     ·rename_i n z hn hz
      split at hv
      ·rename_i Vt hsz
       have hsz:cM E.P el=some (n+1):=by
        have:=dH hsz;cases hq:cM E.P el with
        | none=>rw [hq]at this;simp at this
        | some m=>rw [hq]at this;simp at this;rw [this]
       refine cF a hv fun v w rv hv=>?_;refine cF a hv fun v2 w2 Ft hv=>?_;show QJ E.P [sT,xT] w w2 S K=true;rw [Ub hs hx hi hn hz Vt];exact aJC s (by omega) hsz rv Ft k hv
      ·cases hv
     ·cases hv
    ·cases hv
   ·cases hv
  ·cases hv
 ·rename_i hc
  split at hv
  ·rename_i x y ha
   unfold nC;rw [hc,ha];simp only [UJ,bV,vR];refine cF a hv fun v w rv hv=>?_;refine cF a hv fun v2 w2 Ft hv=>?_;exact aBF (big:=false) rv Ft (fun v w rv h=>k.here s rv h) hv
  ·cases hv
 ·rename_i hc
  split at hv
  ·rename_i x y ha
   unfold nC;rw [hc,ha];simp only [UJ,bV,vR];refine cF a hv fun v w rv hv=>?_;refine cF a hv fun v2 w2 Ft hv=>?_;exact aBF (big:=true) rv Ft (fun v w rv h=>k.here s rv h) hv
  ·cases hv
 ·rename_i hc
  split at hv
  ·rename_i t x ht ha
   unfold nC;rw [hc,ha,ht];simp only [UJ,bV,vR];split at hv
   ·rename_i el hs
    split at hv
    ·rename_i m zero hsz hz
     split at hv
     ·rename_i hl hf
      refine cF a hv fun v w rv hv=>?_;exact aDo s hs hsz hz hl hf rv (fun h' S' f s' hv=>k c h' S' WM (.tuple #[]) (.refl c) f s' (.tuple (a':=[]) rfl fun k v w e=>by simp at e) hv) hv
     ·cases hv
    ·cases hv
   ·cases hv
  ·cases hv
 ·rename_i hc
  split at hv
  ·rename_i dT ts x y ht ha
   unfold nC;rw [hc,ha,ht];simp only [UJ,bV,vR];split at hv
   ·rename_i el hs
    split at hv
    ·rename_i m hsz
     refine cF a hv fun v w rv hv=>?_;refine cF a hv fun v2 w2 Ft hv=>?_;exact aGt (ts:=ts) s hs hsz rv Ft k hv
    ·cases hv
   ·cases hv
  ·cases hv
 ·cases hv
 ·rename_i f hc
  unfold nC;rw [hc];refine Et a hv fun vs ws ra hv=>?_;refine cF a hv fun v w rv hv=>?_;unfold mH at hv;split at hv
  ·cases rv with
   | func la ld ha hd=>
    show(FE _ ws fun l=>FE l _ fun l=>E.call _ l S K)=true;rw [nF,nF];exact r.aEZ _ s ((lT.app ⟨la,ha⟩ ra).app ⟨ld,hd⟩) k hv
  ·cases rv with
   | yield e=>exact r.eR _ _ s e ra k hv
  ·cases hv
 ·rename_i rc m hc
  unfold nC;rw [hc];refine Et a hv fun vs ws ra hv=>?_;refine cF a hv fun v w rv hv=>?_;unfold aRu at hv;split at hv
  ·rename_i t v'
   split at hv
   ·rename_i g hg
    cases rv with
    | iface rv=>
     show(match KE E.P t m with | some g=>E.call g _ S K | none=>false)=true;rw [hg];exact r.aEZ _ s (.cons rv ra) k hv
   ·cases hv
  ·cases hv
theorem NE{A:VA}{A':bD} (a:AR c S C A A'){x:Option Operand}{k:Option V->Prop}{k':Option Value->Bool} (hv:(evO x).f A k) (hk:∀o o',OR' c S C o o'->k o->k' o'=true):Aq A' x k'=true:=by
 cases x with
 | none=>exact hk _ _ .none hv
 | some x=>exact cF a hv fun v w rv hv=>hk _ _ (.some rv) hv
theorem aDp{A:VA}{A':bD} (s:VS P B Sb c h S) (a:AR c S (dO B c h) A A'){Ev:VE}{t:TypeId}{x:Operand}{lo hi mx:Option Operand}{Kv:KV}{K:VK} (k:∀v w,fN c S (dO B c h) v w->Kv v h->K w S=true) (hv:(aDe P t x lo hi mx).f Ev A h Kv):
 vP A' x (fun x=>Aq A' lo fun lo=>Aq A' hi fun hi=>Aq A' mx fun mx=>uR P t x lo hi mx S fun v=>K v S)=true:=by
 unfold aDe at hv;split at hv
 ·rename_i el he
  split at hv
  ·rename_i size hs
   refine cF a hv fun v w rv hv=>?_;refine NE a hv fun o1 o1' r1 hv=>?_;refine NE a hv fun o2 o2' r2 hv=>?_;refine NE a hv fun o3 o3' r3 hv=>?_;exact aJG s he hs rv r1 r2 r3 k hv
  ·cases hv
 ·split at hv
  ·rename_i hu
   split at hv
   ·refine cF a hv fun v w rv hv=>?_
    refine NE a hv fun o1 o1' r1 hv=>?_;refine NE a hv fun o2 o2' r2 hv=>?_;exact aJJ hu rv r1 r2 k hv
   ·cases hv
  ·rename_i len el hu
   split at hv
   ·rename_i size hs
    refine cF a hv fun v w rv hv=>?_;refine NE a hv fun o1 o1' r1 hv=>?_;refine NE a hv fun o2 o2' r2 hv=>?_;refine NE a hv fun o3 o3' r3 hv=>?_;exact aJI hu hs rv r1 r2 r3 k hv
   ·cases hv
  ·cases hv
theorem Ps{A:VA}{A':bD} (s:VS P B Sb c h S) (a:AR c S (dO B c h) A A'){Ev:VE}{t:TypeId}{x y:Operand}{Kv:KV}{K:VK} (k:KR P B Sb c h S Kv K) (hv:(Bl P t x y).f Ev A h Kv):
 vP A' x (fun l=>vP A' y fun c=>xR P t l c S K)=true:=by
 unfold Bl at hv;split at hv
 ·rename_i el he
  split at hv
  ·rename_i info zero hi hz
   split at hv
   ·rename_i n hl hn hf
    refine cF a hv fun v w rv hv=>?_;refine cF a hv fun v2 w2 Ft hv=>?_;exact aMi s he hi hz hl hn hf rv Ft k hv
   ·cases hv
  ·cases hv
 ·cases hv
theorem aBH{A:VA}{A':bD} (s:VS P B Sb c h S) (a:AR c S (dO B c h) A A'){Ev:VE}{t:TypeId}{x ix:Operand}{ok:Bool}{Kv:KV}{K:VK} (k:KR P B Sb c h S Kv K) (hv:(Yp P t x ix ok).f Ev A h Kv):
 vP A' x (fun x=>vP A' ix fun ix=>XE P t x ix ok S K)=true:=by
 unfold Yp at hv;split at hv
 ·rename_i kt et ht
  split at hv
  ·rename_i sh z hs hz
   split at hv
   ·rename_i zv hzv
    refine cF a hv fun v w rv hv=>?_;refine cF a hv fun v2 w2 Ft hv=>?_;exact aGw s ht hs hz hzv rv Ft k hv
   ·cases hv
  ·cases hv
 ·cases hv
theorem Pt{A:VA}{A':bD} (s:VS P B Sb c h S) (a:AR c S (dO B c h) A A'){Ev:VE}{t:TypeId}{m x y:Operand}{Kv:KV}{K:VK} (k:KR P B Sb c h S Kv K) (hv:(Yq P t m x y).f Ev A h Kv):
 vP A' m (fun m=>vP A' x fun x=>vP A' y fun y=>FI P t m x y S fun S=>K undef S)=true:=by
 unfold Yq at hv;split at hv
 ·rename_i kt et ht
  split at hv
  ·rename_i sh hs
   refine cF a hv fun v w rv hv=>?_;refine cF a hv fun v2 w2 Ft hv=>?_;refine cF a hv fun v3 w3 rv3 hv=>?_;exact aDq s ht hs rv Ft rv3 k hv
  ·cases hv
 ·cases hv
theorem Ew{Ev:VE}{E:Env} (r:ER P B Sb Ev E){A:VA}{A':bD} (s:VS P B Sb c h S) (a:AR c S (dO B c h) A A'){o:Oper}{Kv:KV}{K:VK} (k:KR P B Sb c h S Kv K) (hv:(opV P o).f Ev A h Kv):AN E o A' S K=true:=by
 have kh:∀v w,fN c S (dO B c h) v w->Kv v h->K w S=true:=fun v w rv hk=>k.here s rv hk;unfold opV at hv;have hP:=r.eP;subst hP;split at hv<;>rename_i Mu<;>try (unfold AN;rw [Mu])
 ·exact cF a hv kh
 ·exact cF a hv kh
 ·refine cF a hv fun v w rv hv=>?_
  refine cF a hv fun v1 w1 rv1 hv=>?_;refine cF a hv fun v2 w2 Ft hv=>?_;rw [aE]at hv;unfold fK at hv;split at hv
  ·rename_i b hva hvb
   cases rv;cases b with
   | true=>exact kh _ _ rv1 hv
   | false=>exact kh _ _ Ft hv
  ·cases hv
 ·split at hv
  ·rename_i z hz
   split at hv
   ·rename_i hf
    show UL E.P _ S K=true;rw [aA0 hz hf];exact aDi s k hv
   ·cases hv
  ·cases hv
 ·exact cF a hv fun v w rv hv=>aJx s rv k hv
 ·have hx:(opX E.P o).f E A' S K=AN E o A' S K:=VW E o A' S K
  unfold AN at hx;rw [Mu]at hx;simp only at hx ⊢;rw [<-hx];unfold opX;rw [Mu];simp only;split at hv
  ·rename_i zero fields hz hu
   try simp only [hz,hu]
   split at hv
   ·rename_i pl hp
    try simp only [hp]
    split at hv
    ·rename_i hf ha
     try simp only [hf,ha]
     exact Bn a hv fun l l' hl hv=>Pp s hl kh hv
    ·cases hv
   ·cases hv
  ·rename_i zero n elem hz hu
   try simp only [hz,hu]
   split at hv
   ·rename_i size hs
    try simp only [hs]
    split at hv
    ·rename_i hf
     try simp only [hf]
     exact Bn a hv fun l l' hl hv=>Pp s hl kh hv
    ·cases hv
   ·cases hv
  ·cases hv
 ·have hx:(opX E.P o).f E A' S K=AN E o A' S K:=VW E o A' S K
  unfold AN at hx;rw [Mu]at hx;simp only at hx ⊢;rw [<-hx];unfold opX;rw [Mu];simp only;split at hv
  ·rename_i elem hs
   try simp only [hs]
   split at hv
   ·rename_i size zero hz Ky
    try simp only [hz,Ky]
    split at hv
    ·rename_i h1 h2
     try simp only [h1,h2]
     split at hv
     ·rename_i hf
      try simp only [hf]
      rw [GK];refine Bn a hv fun l l' hl hv=>?_;have:=aBB (Sb:=Sb) (B:=B) s hl k hv;unfold Xf at this
      rwa [GK]at this
     ·cases hv
    ·cases hv
   ·cases hv
  ·cases hv
 ·split at hv
  ·rename_i h1
   refine cF a hv fun v w rv hv=>?_;show OI E.P _ w S K=true;rw [Gw h1];exact aEY s rv kh hv
  ·rename_i n h1 h2
   refine cF a hv fun v w rv hv=>?_;show OI E.P _ w S K=true;rw [Gx h1 h2];exact aBA s (by omega) rv kh hv
  ·cases hv
 ·split at hv
  ·rename_i n h1
   refine cF a hv fun v w rv hv=>?_;refine cF a hv fun v2 w2 Ft hv=>?_;show Ao E.P _ w w2 S _=true;rw [aAZ h1];refine aMg s rv Ft (fun h' S' f s' hk=>?_) hv;exact k c h' S' WM undef (.refl c) f s' (.tuple (a':=[]) rfl fun k v w e=>by simp at e) hk
  ·cases hv
 ·refine cF a hv fun v w rv hv=>?_
  show aLm E.P w (fun v=>K v S)=true;exact aJD rv kh hv
 ·split at hv
  ·refine cF a hv fun v w rv hv=>?_
   refine cF a hv fun v2 w2 Ft hv=>?_;rw [<-RA];exact aJL rv Ft kh hv
  ·refine cF a hv fun v w rv hv=>?_
   refine cF a hv fun v2 w2 Ft hv=>?_;rw [<-RA];exact aJE s.Gs rv Ft kh hv
 ·exact cF a hv fun v w rv hv=>aMh rv kh hv
 ·split at hv
  ·rename_i j kk h1 h2
   refine cF a hv fun v w rv hv=>?_;rw [aEh h1 h2];exact aJB rv kh hv
  ·cases hv
 ·split at hv
  ·rename_i t x hv0 hi
   refine cF a hv fun v w rv hv=>?_;unfold aBv at hi;split at hi
   ·cases hi
   ·rename_i d hd hu
    have hw:=kh _ _ (.iface (t:=t) rv) hv
    try simp only [hu]
    cases d<;>first | exact hw | exact(hd _ rfl).elim
   ·cases hi
  ·cases hv
 ·split at hv
  ·refine Et a hv fun vs ws ra hv=>?_
   refine Et a hv fun vs2 ws2 ra2 hv=>?_;exact kh _ _ (.func ra.len ra2.len ra.rd ra2.rd) hv
  ·split at hv
   ·rename_i x h1 h2
    try simp only [h1,h2]
    exact cF a hv fun v w rv hv=>kh _ _ (.KJ rv) hv
   ·cases hv
  ·cases hv
 ·split at hv
  ·rename_i fd hf
   split at hv
   ·rename_i n hn
    refine cF a hv fun v w rv hv=>?_;rw [Di hf hn];exact aJy rv kh hv
   ·cases hv
  ·cases hv
 ·split at hv
  ·rename_i fd hf
   split at hv
   ·rename_i h1
    refine cF a hv fun v w rv hv=>?_;rw [Nv hf h1];exact aDj rv kh hv
   ·rename_i n h1 h2
    refine cF a hv fun v w rv hv=>?_;rw [Ny hf h1 h2];exact aBC rv kh hv
   ·cases hv
  ·cases hv
 ·split at hv
  ·rename_i el he
   split at hv
   ·rename_i n hn
    refine cF a hv fun v w rv hv=>?_;refine cF a hv fun v2 w2 Ft hv=>?_;rw [Dk he hn];exact aJz s rv Ft kh hv
   ·cases hv
  ·cases hv
 ·split at hv
  ·rename_i hu
   refine cF a hv fun v w rv hv=>?_;refine cF a hv fun v2 w2 Ft hv=>?_;rw [aA2 hu];exact aDk rv Ft kh hv
  ·cases hv
 ·split at hv
  ·rename_i t x lo hi mx _ hb
   have:=aDp s a kh hv;unfold aNB at hb;cases mx<;>cases hi<;>first | exact this | cases hb
  ·cases hv
 ·exact Ps s a k hv
 ·exact Jd s k hv
 ·split at hv
  ·rename_i kv ht
   refine cF a hv fun v w rv hv=>?_;exact Yw s rv ht k hv
  ·cases hv
 ·split at hv
  ·rename_i kv ht
   refine cF a hv fun v w rv hv=>?_;exact aBI s ht rv k hv
  ·cases hv
 ·refine cF a hv fun v w rv hv=>?_
  exact aDr s rv k hv
 ·refine cF a hv fun v w rv hv=>?_
  exact aBJ s rv k hv
 ·exact aBH s a k hv
 ·exact Pt s a k hv
 ·exact Pt s a k hv
 ·refine cF a hv fun v w rv hv=>?_
  show aHP _ w (fun v=>K v S)=true;exact aJA rv kh hv
 ·exact aGu r s a k hv
 ·cases hv
end
section
variable{P:Program}{B:Nat->Prop}{Sb:St}{c c' d:Cx}{h h':Hp}{S S':St}{C C':Nat->Prop}
def KSR (P:Program) (B:Nat->Prop) (Sb:St) (c:Cx) (h:Hp) (S:St) (kv:KSV) (k:bD->St->Bool):Prop:=
 ∀c' h' S' A A',c.le c'->EP (dO B c h) S S' (dO B c' h')->VS P B Sb c' h' S'->AR c' S' (dO B c' h') A A'->kv A h'->k A' S'=true
theorem KSR.mono{kv:KSV}{k:bD->St->Bool} (q:KSR P B Sb c h S kv k) (l:c.le c') (f:EP (dO B c h) S S' (dO B c' h')):KSR P B Sb c' h' S' kv k:=
 fun c2 h2 S2 A A' l2 f2=>q c2 h2 S2 A A' (l.trans l2) (f.trans f2)
theorem Pu (s:VS P B Sb c h S){v:V}{w:Value} (r:fN c S C v w) (ho:Ll v=true) (n:Nat):Ig n w w=true:=by
 have VZ:∀b o n m,Cu (.slice (some ⟨b,o,none⟩) n m) (.slice (some ⟨b,o,none⟩) n m)=true:=fun b o n m=>by
  show((Nat.beq b b&&Nat.beq o o)&&(Nat.beq n n&&Nat.beq m m))=true;simp
 have hs0:∀b o n m,Cu (.slice (some ⟨b,o,some 0⟩) n m) (.slice (some ⟨b,o,some 0⟩) n m)=true:=fun b o n m=>by
  show((Nat.beq b b&&Nat.beq o o)&&(Nat.beq n n&&Nat.beq m m))=true;simp
 have hse:∀b o s,Cu (.slice (some ⟨b,o,some (s+2)⟩) 0 0) (.slice (some ⟨b,o,some (s+2)⟩) 0 0)=true:=fun b o s=>by
  show((Nat.beq b b&&Nat.beq o o)&&Nat.beq s s)=true;simp
 have Tt:∀b o,Cu (.pointer (some ⟨b,o,none⟩)) (.pointer (some ⟨b,o,none⟩))=true:=fun b o=>by
  show(Nat.beq b b&&Nat.beq o o)=true;simp
 have hmp:∀b,Cu (.map (some b)) (.map (some b))=true:=fun b=>by
  show Nat.beq b b=true;simp
 cases r with
 | @int k z=>cases n<;>exact aF0 k z
 | @bool b=>cases n<;>cases b<;>rfl
 | str=>cases n<;>(show Mc _ _=true;rw [QN];simp)
 | list ht hd=>
  cases hd with
  | nil=>cases n<;>rfl
  | emp=>cases n<;>exact hse _ _ _
  | @row b o n' cc sp _ _ _ _ BA _ _ _ _ _ _=>
   match sp,BA with
   | none,_=>cases n<;>exact VZ _ _ _ _
   | some 0,_=>cases n<;>exact hs0 _ _ _ _
 | uB=>cases n<;>exact Tt _ _
 | wL=>cases n<;>exact Tt _ _
 | nil=>cases n<;>rfl
 | acc e=>obtain⟨b,rfl⟩:=s.Gs _ _ _ e;cases n<;>exact hs0 _ _ _ _
 | own=>cases n<;>exact VZ _ _ _ _
 | HW=>cases n<;>exact hs0 _ _ _ _
 | ptr=>cases n<;>exact Tt _ _
 | Ka=>cases n<;>rfl
 | Sj=>cases n<;>rfl
 | Hh=>cases n<;>rfl
 | Pg=>cases n<;>rfl
 | yZ=>cases n<;>exact hmp _
 | _=>cases ho
theorem Lp{p:V->Bool}{q:Value->Prop}{a:List V}{a':List Value} (r:lT c S C a a') (hp:a.all p=true) (hq:∀v w,fN c S C v w->p v=true->q w):∀w∈a',q w:=by
 intro w hw;obtain⟨k,hk⟩:=ZW hw;have hlt:=(List.getElem?_eq_some_iff.1 hk).1;have hl:=r.len;exact hq a[k] w (r.rd k a[k] w (aT (by omega)) hk) (List.all_eq_true.1 hp _ (cO (by omega)))
theorem Pv{f:Value->Value->Bool}:∀{l:List Value},(∀w∈l,f w w=true)->JM f l l=true:=by
 intro l;induction l with
 | nil=>intro _;rfl
 | cons x l ih=>
  intro h;show(f x x&&JM f l l)=true;rw [h x (.head _),ih fun y hy=>h y (.tail _ hy)];rfl
theorem aBK (s:VS P B Sb c h S){v:V}{w:Value} (r:fN c S C v w) (ho:Lm v=true):aAx w w=true:=by
 unfold Lm at ho;split at ho
 ·rename_i f a d
  rw [dZ]at ho;cases r with
  | @func _ _ _ a' d' la ld ha hd=>
   show(Nat.beq f f&&(JM (Ig 2) a' a'&&JM (Ig 2) d' d'))=true;rw [Pv (Lp (⟨la,ha⟩:lT c S C a a') ho.1 fun v w r o=>Pu s r o 2),Pv (Lp (⟨ld,hd⟩:lT c S C d d') ho.2 fun v w r o=>Pu s r o 2)];simp
 ·exact Pu s r ho 3
theorem aBL (s:VS P B Sb c h S){v:V}{w:Value} (r:fN c S C v w) (ho:Ln v=true):Ih w w=true:=by
 unfold Ln at ho;split at ho
 ·rename_i cs
  cases r with
  | @agg _ a' la ha=>
   show To a' a'=true;have oP:=Lp (⟨la,ha⟩:lT c S C cs a') ho fun v w r o=>aBK s r o;clear la ha;induction a' with
   | nil=>rfl
   | cons x l ih=>
    show(aAx x x&&To l l)=true;rw [oP x (.head _),ih fun y hy=>oP y (.tail _ hy)];rfl
 ·rename_i oM
  have h0:=aBK s r ho;cases w<;>first | exact h0 | (cases r<;>first | exact bC rfl (oM _) | (rename_i e;obtain⟨b,e⟩:=s.Gs _ _ _ e;cases e) | (rename_i ht hd;cases hd))
theorem aJM (s:VS P B Sb c h S){v:V}{w:Value} (r:fN c S C v w) (ho:DU v=true):SM w w=true:=by
 unfold DU at ho;split at ho
 ·rename_i cs
  cases r with
  | @tuple _ a' la ha=>
   show Gl a' a'=true;have oP:=Lp (⟨la,ha⟩:lT c S C cs a') ho fun v w r o=>aBL s r o;clear la ha;induction a' with
   | nil=>rfl
   | cons x l ih=>
    show(Ih x x&&Gl l l)=true;rw [oP x (.head _),ih fun y hy=>oP y (.tail _ hy)];rfl
 ·rename_i oM
  have h0:=aBL s r ho;cases w<;>first | exact h0 | (cases r<;>first | exact bC rfl (oM _) | (rename_i e;obtain⟨b,e⟩:=s.Gs _ _ _ e;cases e) | (rename_i ht hd;cases hd))
theorem Pw{ops:Array Oper}{o:Oper}{A:bD}{k:Bool->Bool} (hg:o.guard=none):DG ops o A k=k true:=by
 unfold DG;rw [hg]
theorem aE0{ops:Array Oper}{o o':Oper}{A:bD}{k:Bool->Bool}{j:Nat}{w:Bool}{g:Tmp} (hg:o.guard=some (j,w)) (hj:ops[j]? =some o') (hd:o'.dst=some g):DG ops o A k=XD A.tmps g fun v=>Iw w v k:=by
 unfold DG;rw [hg];simp only [hj,hd];rfl
theorem Ux{w:Bool}{v:V}{u:Value} (r:fN c S C v u){k:Bool->Prop} (hv:aJh w v k):∃b,k b/\∀K:Bool->Bool,Iw w u K=K b:=by
 cases r with
 | @bool b=>cases b<;>cases w<;>exact⟨_,hv,fun K=>rfl⟩
 | @tuple a a' la ha=>
  cases a with
  | nil=>exact⟨false,hv,fun K=>rfl⟩
  | cons x l=>cases hv
 | _=>cases hv
theorem aJN{A:VA}{A':bD} (a:AR c S (dO B c h) A A') (s:VS P B Sb c h S){o:Oper}{kv:KSV}{k:bD->St->Bool} (hk:KSR P B Sb c h S kv k){v:V}{w:Value} (r:fN c S (dO B c h) v w)
 (hv:match o.dst with | some d=>Po A d v (fun A=>kv A h) | none=>kv A h):mP A' o.dst w (fun A=>k A S)=true:=by
 cases hd:o.dst with
 | none=>rw [hd]at hv;exact hk c h S A A' (.refl c) (.refl _ S) s a hv
 | some d=>rw [hd]at hv;exact Uv a r hv fun X X' x hx=>hk c h S X X' (.refl c) (.refl _ S) s x hx
theorem aPt:fN c S C WM undef:= .tuple (a':=[]) rfl fun k v w e=>by simp at e
theorem Ex{Ev:VE}{E:Env} (r:ER P B Sb Ev E){A:VA}{A':bD} (s:VS P B Sb c h S) (a:AR c S (dO B c h) A A'){ops:Array Oper}{o:Oper}{kv:KSV}{k:bD->St->Bool} (hk:KSR P B Sb c h S kv k) (hv:(doV P ops o).f Ev A h kv):Ar E ops o A' S k=true:=by
 have beh:∀{c' h' S' v w},c.le c'->EP (dO B c h) S S' (dO B c' h')->VS P B Sb c' h' S'->fN c' S' (dO B c' h') v w->(match o.dst with | some d=>Po A d v (fun A=>kv A h') | none=>kv A h')->mP A' o.dst w (fun A=>k A S')=true:=
  fun l f s' rv hv=>aJN (a.mono l f) s' (hk.mono l f) rv hv
 unfold doV at hv;unfold Ar;cases hg:o.guard with
 | none=>
  rw [hg]at hv;rw [Pw hg];simp only at hv;show AN E o A' S (fun v S=>mP A' o.dst v fun A=>k A S)=true;unfold aNC at hv;cases hd:o.dst with
  | none=>
   rw [hd]at hv;exact Ew r s a (fun c' h' S' v w l f s' rv hv=>by have:=beh l f s' rv (by rw [hd];exact hv);rwa [hd]at this) hv
  | some d=>
   rw [hd]at hv;exact Ew r s a (fun c' h' S' v w l f s' rv hv=>by have:=beh l f s' rv (by rw [hd];exact hv);rwa [hd]at this) hv
 | some jw=>
  obtain⟨j,w⟩:=jw;rw [hg]at hv;simp only at hv;cases hj:ops[j]? with
  | none=>simp only [hj]at hv
  | some o'=>
   simp only [hj]at hv;cases hg':o'.dst with
   | none=>simp only [hg']at hv
   | some g=>
    simp only [hg']at hv;rw [aE0 hg hj hg']
    have key:∀(v:V) (u:Value) (q:KV),(∀{c' h' S' v w},c.le c'->EP (dO B c h) S S' (dO B c' h')->VS P B Sb c' h' S'->fN c' S' (dO B c' h') v w->q v h'->mP A' o.dst w (fun A=>k A S')=true)->fN c S (dO B c h) v u->aH w v (fun k=>(opV P o).f Ev A h k) h q->
     Iw w u (fun b=>gE b (AN E o A' S fun v S=>mP A' o.dst v fun A=>k A S) (mP A' o.dst undef fun A=>k A S))=true:=by
     intro v u q hq rv hv;obtain⟨b,hb,e⟩:=Ux rv hv;rw [e];cases b with
     | true=>exact Ew r s a (fun c' h' S' v w l f s' rv hv=>hq l f s' rv hv) hb
     | false=>exact hq (.refl c) (.refl _ S) s aPt hb
    cases hd:o.dst with
    | none=>
     rw [hd]at hv;refine EC a hv fun v u rv hv=>?_;rw [aE]at hv;have:=key v u _ (fun l f s' rv hv=>beh l f s' rv (by rw [hd];exact hv)) rv hv
     rwa [hd]at this
    | some dd=>
     rw [hd]at hv;refine EC a hv fun v u rv hv=>?_;rw [aE]at hv;have:=key v u _ (fun l f s' rv hv=>beh l f s' rv (by rw [hd];exact hv)) rv hv
     rwa [hd]at this
theorem aJO{Ev:VE}{E:Env} (r:ER P B Sb Ev E){ops:Array Oper}:∀{l:List Oper} {c:Cx} {h:Hp} {S:St} {A:VA} {A':bD} {kv:KSV} {k:bD->St->Bool},VS P B Sb c h S->AR c S (dO B c h) A A'->KSR P B Sb c h S kv k->(opsV P ops l).f Ev A h kv->YC E ops l A' S k=true:=by
 intro l;induction l with
 | nil=>intro c h S A A' kv k s a hk hv;exact hk c h S A A' (.refl c) (.refl _ S) s a hv
 | cons o l ih=>
  intro c h S A A' kv k s a hk hv;have hv:(doV P ops o).f Ev A h (fun A S=>(opsV P ops l).f Ev A S kv):=hv;show Ar E ops o A' S (YC E ops l · · k)=true;exact Ex r s a (fun c' h' S' X X' le f s' x hv=>ih s' x (hk.mono le f) hv) hv
theorem WR{Ev:VE}{E:Env} (r:ER P B Sb Ev E){ops:Array Oper}{A:VA}{A':bD} (s:VS P B Sb c h S) (a:AR c S (dO B c h) A A'){p:Prop}{b:Bool} (hb:p->b=true):∀{l:List Nat},(YI P ops l).f Ev A h p->zV E ops A' S l b=true:=by
 intro l;induction l with
 | nil=>intro hv;exact hb hv
 | cons i l ih=>
  intro hv;rw [Gm]
  have e1:YI P ops (i::l)=match ops[i]? with
   | some o=>match o.dst with
    | some d=>match o.guard with
     | none=>⟨fun E A S k=>Sl A.tmps d fun u=>(opV P o).f E A S fun v _=>aU v u ((YI P ops l).f E A S k)⟩
     | some (j,w)=>match ops[j]? with
      | some o'=>match o'.dst with
       | some g=>⟨fun E A S k=>Sl A.tmps d fun u=>Sl A.tmps g fun b=>aI E.most (fW w b u (fun k=>(opV P o).f E A S fun v _=>aU v u k) ((YI P ops l).f E A S k))⟩
       | none=>⟨fun _ _ _ _=>False⟩
      | none=>⟨fun _ _ _ _=>False⟩
    | none=>⟨fun _ _ _ _=>False⟩
   | none=>⟨fun _ _ _ _=>False⟩:=rfl
  rw [e1]at hv;cases hi:ops[i]? with
  | none=>rw [hi]at hv;cases hv
  | some o=>
   rw [hi]at hv;simp only at hv ⊢;cases hd:o.dst with
   | none=>rw [hd]at hv;cases hv
   | some dd=>
    rw [hd]at hv;simp only at hv ⊢
    have run:∀{u:V} {uw:Value},fN c S (dO B c h) u uw->((opV P o).f Ev A h fun v _=>aU v u ((YI P ops l).f Ev A h p))->AN E o A' S (fun v _=>match SM v uw with | true=>zV E ops A' S l b | false=>false)=true:=by
     intro u uw ru hv;refine Ew r s a (fun c' h' S' v w le f s' rv hv=>?_) hv;obtain⟨rfl,ho,hv⟩:=hv;have:=rv.fn (ru.mono le f);subst this;rw [aJM s' rv ho];exact ih hv
    cases hg:o.guard with
    | none=>
     simp only [hg]at hv;refine EC a hv fun u uw ru hv=>?_;rw [Pw hg];exact run ru hv
    | some jw=>
     obtain⟨j,w⟩:=jw;simp only [hg]at hv;cases hj:ops[j]? with
     | none=>simp only [hj]at hv
     | some o'=>
      simp only [hj]at hv;cases hg':o'.dst with
      | none=>simp only [hg']at hv
      | some g=>
       simp only [hg']at hv;refine EC a hv fun u uw ru hv=>?_;rw [aE0 hg hj hg'];refine EC a hv fun q qw rq hv=>?_;rw [aE]at hv;obtain⟨bb,hbb,e⟩:=Ux rq hv;rw [e];cases bb with
       | true=>exact run ru hbb
       | false=>
        have hbb:aRv u ((YI P ops l).f Ev A h p):=hbb;cases ru with
        | @tuple a a' la ha=>
         cases a with
         | nil=>
          have:a'=[]:=sB (by simpa using la.symm);subst this;exact ih hbb
         | cons x l=>cases hbb
        | _=>cases hbb
theorem Px{Ev:VE}{E:Env} (r:ER P B Sb Ev E){ops:Array Oper}{i:Nat}{o:Oper}{A:VA}{A':bD} (s:VS P B Sb c h S) (a:AR c S (dO B c h) A A'){Kv:KV}{K:VK} (k:KR P B Sb c h S Kv K) (hv:(aBw P ops i o).f Ev A h Kv):IH E ops i o A' S K=true:=by
 unfold aBw at hv;unfold IH;rw [r.eP];cases hc:fA P ops i with
 | none=>rw [hc]at hv;exact Ew r s a k hv
 | some j=>rw [hc]at hv;cases hv
theorem XU{Ev:VE}{E:Env} (r:ER P B Sb Ev E){ops:Array Oper}:∀{l:List Nat} {c:Cx} {h:Hp} {S:St} {A:VA} {A':bD} {kv:KSV} {k:bD->St->Bool},VS P B Sb c h S->AR c S (dO B c h) A A'->KSR P B Sb c h S kv k->(SY P ops l).f Ev A h kv->oB E ops l A' S k=true:=by
 intro l;induction l with
 | nil=>intro c h S A A' kv k s a hk hv;exact hk c h S A A' (.refl c) (.refl _ S) s a hv
 | cons i l ih=>
  intro c h S A A' kv k s a hk hv
  have e1:SY P ops (i::l)=match ops[i]? with
   | some o=>match o.dst with
    | some d=>⟨fun E A S k=>(aBw P ops i o).f E A S fun v S=>Po A d v fun A=>(SY P ops l).f E A S k⟩
    | none=>⟨fun E A S k=>(aBw P ops i o).f E A S fun _ S=>(SY P ops l).f E A S k⟩
   | none=>⟨fun _ _ _ _=>False⟩:=rfl
  have e2:oB E ops (i::l) A' S k=match ops[i]? with
   | some o=>IH E ops i o A' S fun v S=>mP A' o.dst v fun A=>oB E ops l A S k
   | none=>false:=rfl
  rw [e1]at hv;rw [e2];cases hi:ops[i]? with
  | none=>rw [hi]at hv;cases hv
  | some o=>
   rw [hi]at hv;simp only at hv ⊢;cases hd:o.dst with
   | none=>
    rw [hd]at hv;exact Px r s a (fun c' h' S' v w le f s' rv hv=>ih s' (a.mono le f) (hk.mono le f) hv) hv
   | some d=>
    rw [hd]at hv;exact Px r s a (fun c' h' S' v w le f s' rv hv=>Uv (a.mono le f) rv hv fun X X' x hx=>ih s' x (hk.mono le f) hx) hv
theorem Py{Ev:VE}{E:Env} (r:ER P B Sb Ev E){ops:Array Oper}{A:VA}{A':bD} (s:VS P B Sb c h S) (a:AR c S (dO B c h) A A'){p:Prop}{b:Bool} (hb:p->b=true):∀{l:List (Nat×List Nat)},(Yr P ops l).f Ev A h p->TT E ops A' S l b=true:=by
 intro l;induction l with
 | nil=>intro hv;exact hb hv
 | cons q l ih=>
  intro hv
  have e1:Yr P ops (q::l)=match ops[q.1]? with
   | some o=>⟨fun E A S k=>aPo A o (((SY P ops q.2).f E A S fun A S=>(aBw P ops q.1 o).f E A S fun _ _=>True)/\(Yr P ops l).f E A S k)⟩
   | none=>⟨fun _ _ _ _=>False⟩:=rfl
  have e2:TT E ops A' S (q::l) b=match ops[q.1]? with
   | some o=>aCr A' o (gE (oB E ops q.2 A' S fun A S=>IH E ops q.1 o A S fun _ _=>true) (TT E ops A' S l b) false)
   | none=>false:=rfl
  rw [e1]at hv;rw [e2];cases hi:ops[q.1]? with
  | none=>rw [hi]at hv;cases hv
  | some o=>
   rw [hi]at hv;simp only at hv ⊢;unfold aPo at hv;unfold aCr;cases hd:o.dst with
   | none=>rw [hd]at hv;cases hv
   | some dd=>
    rw [hd]at hv;simp only at hv ⊢;obtain⟨hg,h1,h2⟩:=aJu _ _ hv
    ·rw [nE,a.abs dd hg]
     have hl:(oB E ops q.2 A' S fun A S=>IH E ops q.1 o A S fun _ _=>true)=true:=XU r s a (fun c' h' S' X X' le f s' x hv=>Px r s' x (fun _ _ _ _ _ _ _ _ _ _=>rfl) hv) h1;show gE (oB E ops q.2 A' S fun A S=>IH E ops q.1 o A S fun _ _=>true) (TT E ops A' S l b) false=true;rw [hl];exact ih h2
theorem WS{Ev:VE}{E:Env} (r:ER P B Sb Ev E){ops:Array Oper}:∀{l:List zH} {c:Cx} {h:Hp} {S:St} {A:VA} {A':bD} {kv:KSV} {k:bD->St->Bool},VS P B Sb c h S->AR c S (dO B c h) A A'->KSR P B Sb c h S kv k->(ND P ops l).f Ev A h kv->mL E ops l A' S k=true:=by
 intro l;induction l with
 | nil=>intro c h S A A' kv k s a hk hv;cases hv
 | cons st l ih=>
  intro c h S A A' kv k s a hk hv;cases st with
  | take i=>
   have e1:ND P ops (.take i::l)=match ops[i]? with
    | some o=>⟨fun E A S k=>(doV P ops o).f E A S fun A S=>(ND P ops l).f E A S k⟩
    | none=>⟨fun _ _ _ _=>False⟩:=rfl
   have e2:mL E ops (.take i::l) A' S k=match ops[i]? with
    | some o=>Ar E ops o A' S fun A S=>mL E ops l A S k
    | none=>false:=rfl
   rw [e1]at hv;rw [e2];cases hi:ops[i]? with
   | none=>rw [hi]at hv;cases hv
   | some o=>
    rw [hi]at hv;exact Ex r s a (fun c' h' S' X X' le f s' x hv=>ih s' x (hk.mono le f) hv) hv
  | Ts BQ nG D q FQ=>
   have e1:ND P ops (.Ts BQ nG D q FQ::l)=match ops[q]? with
    | some o=>⟨fun E A S k=>(YI P ops BQ).f E A S ((Yr P ops nG).f E A S ((SY P ops D).f E A S fun A S=>(doV P ops o).f E A S fun A S=>(YI P ops FQ).f E A S ((ND P ops l).f E A S k)))⟩
    | none=>⟨fun _ _ _ _=>False⟩:=rfl
   have e2:mL E ops (.Ts BQ nG D q FQ::l) A' S k=match ops[q]? with
    | some o=>zV E ops A' S BQ (TT E ops A' S nG (oB E ops D A' S fun A S=>Ar E ops o A S fun A S=>zV E ops A S FQ (mL E ops l A S k)))
    | none=>false:=rfl
   rw [e1]at hv;rw [e2];cases hi:ops[q]? with
   | none=>rw [hi]at hv;cases hv
   | some o=>
    rw [hi]at hv;refine WR r s a (fun hv=>?_) hv;refine Py r s a (fun hv=>?_) hv;refine XU r s a (fun c' h' S' X X' le f s' x hv=>?_) hv;refine Ex r s' x (fun c2 h2 S2 Y Y' fO f2 s2 y hv=>?_) hv;refine WR r s2 y (fun hv=>?_) hv;exact ih s2 y ((hk.mono le f).mono fO f2) hv
  | fin BQ nG D=>
   have hv:(YI P ops BQ).f Ev A h ((Yr P ops nG).f Ev A h ((SY P ops D).f Ev A h kv)):=hv;show zV E ops A' S BQ (TT E ops A' S nG (oB E ops D A' S k))=true;refine WR r s a (fun hv=>?_) hv;refine Py r s a (fun hv=>?_) hv;exact XU r s a hk hv
theorem Yx{Ev:VE}{E:Env} (r:ER P B Sb Ev E){ops:Array Oper}:∀{l:List zH} {c:Cx} {h:Hp} {S:St} {A:VA} {A':bD} {kv:KSV} {k:bD->St->Bool},VS P B Sb c h S->AR c S (dO B c h) A A'->KSR P B Sb c h S kv k->(LP P ops l).f Ev A h kv->yQ E ops l A' S k=true:=by
 intro l;induction l with
 | nil=>intro c h S A A' kv k s a hk hv;exact hk c h S A A' (.refl c) (.refl _ S) s a hv
 | cons st l ih=>
  intro c h S A A' kv k s a hk hv;cases st with
  | take i=>
   have e1:LP P ops (.take i::l)=match ops[i]? with
    | some o=>⟨fun E A S k=>(doV P ops o).f E A S fun A S=>(LP P ops l).f E A S k⟩
    | none=>⟨fun _ _ _ _=>False⟩:=rfl
   have e2:yQ E ops (.take i::l) A' S k=match ops[i]? with
    | some o=>Ar E ops o A' S fun A S=>yQ E ops l A S k
    | none=>false:=rfl
   rw [e1]at hv;rw [e2];cases hi:ops[i]? with
   | none=>rw [hi]at hv;cases hv
   | some o=>
    rw [hi]at hv;exact Ex r s a (fun c' h' S' X X' le f s' x hv=>ih s' x (hk.mono le f) hv) hv
  | Ts BQ nG D q FQ=>
   have e1:LP P ops (.Ts BQ nG D q FQ::l)=match ops[q]? with
    | some o=>⟨fun E A S k=>(YI P ops BQ).f E A S ((Yr P ops nG).f E A S ((SY P ops D).f E A S fun A S=>(doV P ops o).f E A S fun A S=>(YI P ops FQ).f E A S ((LP P ops l).f E A S k)))⟩
    | none=>⟨fun _ _ _ _=>False⟩:=rfl
   have e2:yQ E ops (.Ts BQ nG D q FQ::l) A' S k=match ops[q]? with
    | some o=>zV E ops A' S BQ (TT E ops A' S nG (oB E ops D A' S fun A S=>Ar E ops o A S fun A S=>zV E ops A S FQ (yQ E ops l A S k)))
    | none=>false:=rfl
   rw [e1]at hv;rw [e2];cases hi:ops[q]? with
   | none=>rw [hi]at hv;cases hv
   | some o=>
    rw [hi]at hv;refine WR r s a (fun hv=>?_) hv;refine Py r s a (fun hv=>?_) hv;refine XU r s a (fun c' h' S' X X' le f s' x hv=>?_) hv;refine Ex r s' x (fun c2 h2 S2 Y Y' fO f2 s2 y hv=>?_) hv;refine WR r s2 y (fun hv=>?_) hv;exact ih s2 y ((hk.mono le f).mono fO f2) hv
  | fin BQ nG D=>cases hv
end
section
variable{P:Program}{B:Nat->Prop}{Sb:St}{c c' d:Cx}{h h':Hp}{S S':St}{C C':Nat->Prop}
theorem AR.del{A:VA}{A':bD} (a:AR c S C A A') (d:Nat):AR c S C ⟨⟨A.tmps.t.del d,A.tmps.n⟩,A.g⟩ {A' with tmps:=⟨A'.tmps.t.del d,A'.tmps.n⟩}:=by
 refine⟨a.n,a.g,a.marks,fun i v e=>?_,fun i e=>?_⟩
 ·have e:(A.tmps.t.del d).get i=some v:=e
  rw [Cw]at e;show ∃w,(A'.tmps.t.del d).get i=some w/\_;rw [Cw];by_cases hi:i=d
  ·rw [aO hi]at e;cases e
  ·rw [aG hi]at e ⊢;exact a.got i v e
 ·have e:(A.tmps.t.del d).get i=none:=e
  rw [Cw]at e;show(A'.tmps.t.del d).get i=none;rw [Cw];by_cases hi:i=d
  ·rw [aO hi]
  ·rw [aG hi]at e ⊢;exact a.abs i e
theorem Uy{ops:Array Oper}{k:VA->Prop}{k':bD->Bool} (hk:∀X X',AR c S C X X'->k X->k' X'=true):∀{l:List Nat} {A:VA} {A':bD},AR c S C A A'->aBx ops l A k->VI ops l A' k'=true:=by
 intro l;induction l with
 | nil=>intro A A' a hv;exact hk A A' a hv
 | cons i l ih=>
  intro A A' a hv
  have e1:aBx ops (i::l) A k=match ops[i]? with
   | some o=>match o.dst with
    | some d=>match A with | ⟨⟨t,n⟩,g⟩=>aJk t d fun t=>aBx ops l ⟨⟨t,n⟩,g⟩ k
    | none=>False
   | none=>False:=rfl
  have e2:VI ops (i::l) A' k'=match ops[i]? with
   | some o=>match o.dst with
    | some d=>aHq A'.tmps.t d fun t=>VI ops l {A' with tmps:=⟨t,A'.tmps.n⟩} k'
    | none=>false
   | none=>false:=rfl
  rw [e1]at hv;rw [e2];cases hi:ops[i]? with
  | none=>simp only [hi]at hv
  | some o=>
   simp only [hi]at hv ⊢;cases hd:o.dst with
   | none=>simp only [hd]at hv
   | some d=>
    simp only [hd]at hv ⊢;rw [aMe]at hv;rw [aD5];exact ih (a.del d) hv
theorem aDs{w:Bool}{v:V}{k:Prop} (h:aEV w v k):v= .bool w/\k:=by
 unfold aEV at h;split at h
 ·rename_i b
  cases w<;>cases b<;>first | exact⟨rfl,h⟩ | exact h.elim
 ·exact h.elim
theorem aDt{Ev:VE}{E:Env} (r:ER P B Sb Ev E):∀{p:VT} {ops:Array Oper} {c:Cx} {h:Hp} {S:St} {A:VA} {A':bD} {kv:KSV} {k:bD->St->Bool},VS P B Sb c h S->AR c S (dO B c h) A A'->KSR P B Sb c h S kv k->(aDf P p ops).f Ev A h kv->VU E p ops A' S k=true:=by
 intro p;induction p with
 | fin l=>intro ops c h S A A' kv k s a hk hv;exact WS r s a hk hv
 | cut l g t b p ih=>
  intro ops c h S A A' kv k s a hk hv;have hv:(LP P ops l).f Ev A h (fun A S=>Sl A.tmps t fun v=>aEV b v ((aDf P p (eZ ops g b)).f Ev A S kv)):=hv;show yQ E ops l A' S (fun A S=>Dh A t b (VU E p (eZ ops g b) A S k))=true;refine Yx r s a (fun c' h' S' X X' le f s' x hv=>?_) hv;unfold Dh;refine EC x hv fun v w rv hv=>?_;obtain⟨e,hv2⟩:=aDs hv;subst e;cases rv;have:=ih (ops:=eZ ops g b) s' x (hk.mono le f) hv2;cases b<;>exact this
theorem aJP{Ev:VE}{E:Env} (r:ER P B Sb Ev E){ops:Array Oper}{draw:Bool}{A:VA}{A':bD} (s:VS P B Sb c h S) (a:AR c S (dO B c h) A A'){kv:KSV}{k:bD->St->Bool} (hk:KSR P B Sb c h S kv k) (hv:(aMc P ops draw).f Ev A h kv):(aFX P ops draw).f E A' S k=true:=by
 have hP:=r.eP;subst hP;rw [aEk];cases draw with
 | false=>exact aJO r s a hk hv
 | true=>
  show drG E ops A' S k=true;unfold aMc at hv;simp only at hv;unfold drG;cases hp:De E.P ops with
  | none=>
   simp only [hp]at hv ⊢;cases xJ:KM ops with
   | false=>simp only [xJ]at hv
   | true=>
    simp only [xJ]at hv ⊢;cases UN:Dg E.P (ops.size+1) ops ⟨List.replicate ops.size false⟩ []with
    | none=>simp only [UN]at hv
    | some p=>
     simp only [UN]at hv ⊢;exact Uy (fun X X' x hx=>aDt r s x hk hx) a hv
  | some l=>
   simp only [hp]at hv ⊢;cases hl:OR l with
   | nil=>
    simp only [hl]at hv;exact WS r s a hk hv
   | cons x ls=>
    simp only [hl]at hv;exact Uy (fun X X' x hx=>WS r s x hk hx) a hv
def CKR (P:Program) (B:Nat->Prop) (Sb:St) (c:Cx) (h:Hp) (S:St) (Kv:CV) (K:As):Prop:=
 ∀c' h' S' A A' e,c.le c'->EP (dO B c h) S S' (dO B c' h')->VS P B Sb c' h' S'->AR c' S' (dO B c' h') A A'->Kv e A h'->K e A' S'=true
def LKR (P:Program) (B:Nat->Prop) (Sb:St) (c:Cx) (h:Hp) (S:St) (Kv:zG->List V->Nat->Hp->Prop) (K:zG->List Value->Nat->List Nat->St->Bool):Prop:=
 ∀c' h' S' vs ws n e,c.le c'->EP (dO B c h) S S' (dO B c' h')->VS P B Sb c' h' S'->lT c' S' (dO B c' h') vs ws->Kv e vs n h'->∀marks,Kb c' S' (dO B c' h') marks->K e ws n marks S'=true
def RoV (c:Cx) (r r':Option Nat):Prop:=(r=none/\r'=none)\/∃l b,r=some l/\r'=some b/\c.Z l=some b
theorem RoV.mono{r r':Option Nat} (q:RoV c r r') (l:c.le c'):RoV c' r r':=by
 rcases q with q | ⟨i,b,h1,h2,h3⟩
 ·exact .inl q
 ·exact .inr ⟨i,b,h1,h2,l.Z _ _ h3⟩
def aNE (P:Program) (B:Nat->Prop) (Sb:St) (Ev:VE) (E:Env) (r r':Option Nat) (lv:LpV) (lx:LpT):Prop:=
 ∀{c:Cx} {h:Hp} {S:St} {vs:List V} {ws:List Value} {n:Nat} {marks:List Nat} {Kv:zG->List V->Nat->Hp->Prop} {K:zG->List Value->Nat->List Nat->St->Bool},VS P B Sb c h S->RoV c r r'->Kb c S (dO B c h) marks->lT c S (dO B c h) vs ws->LKR P B Sb c h S Kv K->lv Ev vs n h Kv->lx E r' ws n marks S K=true
theorem CKR.mono{Kv:CV}{K:As} (q:CKR P B Sb c h S Kv K) (l:c.le c') (f:EP (dO B c h) S S' (dO B c' h')):CKR P B Sb c' h' S' Kv K:=
 fun c2 h2 S2 A A' e l2 f2=>q c2 h2 S2 A A' e (l.trans l2) (f.trans f2)
theorem LKR.mono{Kv:zG->List V->Nat->Hp->Prop}{K:zG->List Value->Nat->List Nat->St->Bool} (q:LKR P B Sb c h S Kv K) (l:c.le c') (f:EP (dO B c h) S S' (dO B c' h')):LKR P B Sb c' h' S' Kv K:=
 fun c2 h2 S2 vs ws n e l2 f2=>q c2 h2 S2 vs ws n e (l.trans l2) (f.trans f2)
theorem PM{A:VA}{A':bD} (a:AR c S C A A'):∀{l:List Nat} {k:List V->Prop} {k':List Value->Bool},PK l A k->(∀vs ws,lT c S C vs ws->k vs->k' ws=true)->DT l A' k'=true:=by
 intro l;induction l with
 | nil=>intro k k' hv hk;exact hk [] [] .nil hv
 | cons i l ih=>
  intro k k' hv hk;have hv:Sl A.tmps i (fun v=>PK l A fun vs=>k (v::vs)):=hv;show XD A'.tmps i (fun v=>DT l A' fun vs=>k' (v::vs))=true;exact EC a hv fun v w rv hv=>ih hv fun vs ws rs hv=>hk _ _ (.cons rv rs) hv
theorem aGx{A:VA}:∀{l:List Nat} {k:List V->Prop},PK l A k->∃vs,k vs/\vs.length=l.length/\∀(j i:Nat) (v:V),l[j]? =some i->vs[j]? =some v->A.tmps.t.get i=some v:=by
 intro l;induction l with
 | nil=>intro k hv;exact⟨[],hv,rfl,fun j i v h=>by simp at h⟩
 | cons i l ih=>
  intro k hv;obtain⟨v,e,hv⟩:=aBz _ _ _ (show Sl A.tmps i (fun v=>PK l A fun vs=>k (v::vs))from hv);obtain⟨vs,h1,h2,h3⟩:=ih hv;refine⟨v::vs,h1,by simp [h2],fun j x u hx hu=>?_⟩;cases j with
  | zero=>simp at hx hu;subst hx hu;exact e
  | succ j=>simp at hx hu;exact h3 j x u hx hu
theorem aGy{g:Nat}{marks:List Nat}{k:VA->Prop}{k':bD->Bool} (hk:∀X X',AR c S C X X'->k X->k' X'=true):∀{l:List Nat} {vs:List V} {ws:List Value} {T:Yo} {T':Tm},lT c S C vs ws->AR c S C ⟨T,g⟩ ⟨T',marks,g⟩->
 gX (β:=List V->Yo->Prop) (fun _ T=>k ⟨T,g⟩) (fun i _ ih vs T=>match vs with | v::vs=>ZM v T i fun T=>ih vs T | []=>False) l vs T->
 gX (β:=List Value->Tm->Bool) (fun _ T=>k' ⟨T,marks,g⟩) (fun i _ ih vs T=>match vs with | v::vs=>uE v T i fun T=>ih vs T | []=>false) l ws T'=true:=by
 intro l;induction l with
 | nil=>intro vs ws T T' _ a hv;exact hk _ _ a hv
 | cons i l ih=>
  intro vs ws T T' rs a hv;rw [bV]at hv ⊢;cases vs with
  | nil=>cases hv
  | cons v vs=>
   obtain⟨w,ws',rfl,rv,rs⟩:=rs.cons_inv;obtain⟨h1,h2⟩:=XT hv;show uE w T' i _=true;rw [Es (by rw [show T'.n=T.n from a.n.symm];exact h1)];exact ih rs (a.put rv) h2
theorem AR.leaf{n g:Nat}{marks:List Nat} (m:Kb c S C marks):AR c S C ⟨⟨.leaf,n⟩,g⟩ ⟨⟨.leaf,n⟩,marks,g⟩:=⟨rfl,rfl,m,fun i v e=>(by cases e),fun i _=>rfl⟩
theorem RR{l:List Nat}{vs:List V}{ws:List Value}{n g:Nat}{k:VA->Prop}{k':bD->Bool}{marks:List Nat} (m:Kb c S C marks) (rs:lT c S C vs ws) (hv:RN l vs n g k) (hk:∀X X',AR c S C X X'->k X->k' X'=true):KX l ws n g marks k'=true:=aGy hk rs (.leaf m) hv
variable{tb:sN}
theorem aPu (s:VS P B Sb c h S) (o:jB):VS P B Sb c h (S.new o)/\EP (dO B c h) S (S.new o) (dO B c h):=by
 have fr:EP (dO B c h) S (S.new o) (dO B c h):=⟨QF _,fun j hj _=>iB (Nat.ne_of_lt hj),fun b l=> .inl l⟩;refine⟨⟨s.base.trans (.new S _),s.bB,fun i o' e eg=>?_,fun i vs t n e=>?_,s.inj,s.Gs,s.room,s.WQ,fun i vs t n m b e e3=>⟨(s.Gb i vs t n m b e e3).1,sD (s.Gb i vs t n m b e e3).2⟩,fun i vs t n b ws e' olds e e3 e4=>s.old i vs t n b ws e' olds e e3 (by rw [iB (by have:=(s.Gb i vs t n n b e e3).2;omega)]at e4;exact e4)⟩,fr⟩
 ·obtain⟨b,a,a1,a2,a3,a4,a5⟩:=s.ob i o' e eg
  exact⟨b,a,a1,a2,sD a3,by rw [iB (by omega)];exact a4,a5.mono (.refl c) fr⟩
 ·obtain⟨b,ws,olds,sz,a1,a2,a3,a4,a5,a6⟩:=s.gD i vs t n e
  exact⟨b,ws,olds,sz,a1,a2,sD a3,by rw [iB (by omega)];exact a4,a5.mono (.refl c) fr,a6⟩
theorem aBM{k:jB->Bool}{b:Nat}{a:jB} (e:S.obj b=some a):rL S.h b k=k a:=by
 rw [nE];have e:S.h.get b=some a:=e;rw [e]
theorem aDu{l:Nat}{p:Prop} (hv:RF l h p):∃ls vs n ps as bo st pe,h l=some (.loop ls vs n ps as bo st pe)/\p:=by
 unfold RF at hv;split at hv
 ·rename_i e;exact⟨_,_,_,_,_,_,_,_,e,hv⟩
 ·cases hv
theorem aMj{X X':bD}{Kv:CV}{K:As}{A:VA}{pe:Option Code}{kn:bD} (e:X=X') (hn:kn=X') (h1:Kv .normal A h->K .normal X' S=true) (h2:Kv .ret A h->K .ret X' S=true) (h3:∀i,Kv (.exit i) A h->K (.exit i) X' S=true)
 (hv:SX pe (Kv .normal A h) (Kv .ret A h) (fun id=>Kv (.exit id) A h)):(match(generalizing:=false) pe with | none=>K .normal X S | some .ret=>K .ret X S | some (.exit id)=>K (.exit id) X S | _=>false)=true:=by
 subst e;unfold SX at hv;split at hv
 ·exact h1 hv
 ·exact h2 hv
 ·exact h3 _ hv
 ·cases hv
theorem Je{Ev:VE}{E:Env} (r:ER P B Sb Ev E){A:VA}{A':bD} (s:VS P B Sb c h S) (a:AR c S (dO B c h) A A'){ls:List Nat}{vs:List V} (hl:vs.length=ls.length) (hg:∀(j i:Nat) (v:V),ls[j]? =some i->vs[j]? =some v->A.tmps.t.get i=some v){g:FuncId}{fa fc:List V}{fa' fc':List Value}
 (ra:lT c S (dO B c h) fa fa') (rc:lT c S (dO B c h) fc fc') {ps:List Tmp} {as bo:Code} {Kv:CV} {K:As} (k:CKR P B Sb c h S Kv K)
 (hv:OC Ev (.func g fa fc) ls vs A.tmps.n ps as bo h fun pe h'=>SX pe (Kv .normal A h') (Kv .ret A h') fun id=>Kv (.exit id) A h'):
 (zU S (.loop A'.tmps ps as bo .ready none) fun l S=>FE fa' [.func (.yield l) #[] #[]] fun as=>FE as fc' fun as=>E.call g as S fun _ S=>
  rL S.h l fun o=>match o with
   | .loop tm ps as bo st pe=>match st with
    | .busy=>false
    | _=>sV S l (.loop tm ps as bo .exhausted pe) fun S=>match pe with
     | none=>K .normal A' S
     | some .ret=>K .ret A' S
     | some (.exit id)=>K (.exit id) A' S
     | _=>false
   | _=>false)=true:=by
 obtain⟨l,h0,h1,h2⟩:=s.fresh;have hv:=hv l h0;rw [jF]
 obtain⟨s1,le,fr,hb⟩:=s.aEX h0 h1 h2 (o:= .loop ls vs A.tmps.n ps as bo .ready none) (ao:= .loop A'.tmps ps as bo .ready none) rfl (fun d S' C' le f=>⟨_,rfl,a.n,hl,fun j i v e1 e2=>by
  obtain⟨w,g1,g2⟩:=a.got i v (hg j i v e1 e2);exact⟨w,g1,g2.mono le f⟩⟩)
 rw [nF,nF];have ry:fN (c.putZ l S.n) (S.new (.loop A'.tmps ps as bo .ready none)) (dO B (c.putZ l S.n) (aL h l (.loop ls vs A.tmps.n ps as bo .ready none))) (.yield l) (.func (.yield S.n) #[] #[]):= .yield hb;refine r.aEZ g s1 (((ra.mono le fr).app (.cons ry .nil)).app (rc.mono le fr)) ?_ hv;intro c' h' S' v w l2 f2 s2 rv hv;unfold Uo at hv;split at hv
 ·rename_i ls' vs' n' Ra as' bo' st pe e
  obtain⟨b,ao,b1,b2,b3,b4,b5⟩:=s2.ob l _ e rfl;have hbb:=l2.Z _ _ hb;rw [hbb]at b1;injection b1 with b1;subst b1;obtain⟨T,rfl,b6,b7,b8⟩:=b5;show(rL S'.h S.n _)=true;rw [aBM b4];simp only
  have fin:∀{p:Prop},(SX pe (Kv .normal A (aL h' l (.loop ls' vs' n' Ra as' bo' .exhausted pe))) (Kv .ret A (aL h' l (.loop ls' vs' n' Ra as' bo' .exhausted pe))) fun id=>Kv (.exit id) A (aL h' l (.loop ls' vs' n' Ra as' bo' .exhausted pe)))->
   (sV S' S.n (.loop T Ra as' bo' .exhausted pe) fun S=>match(generalizing:=false) pe with
    | none=>K .normal A' S
    | some .ret=>K .ret A' S
    | some (.exit id)=>K (.exit id) A' S
    | _=>false)=true:=by
   intro _ hv;rw [gU]
   obtain⟨s3,f3⟩:=s2.Uu e rfl hbb (o:= .loop ls' vs' n' Ra as' bo' .exhausted pe) (ao:= .loop T Ra as' bo' .exhausted pe) rfl (fun S' C' f=>⟨T,rfl,b6,b7,fun j i v e1 e2=>by
    obtain⟨w,g1,g2⟩:=b8 j i v e1 e2;exact⟨w,g1,g2.mono (.refl _) f⟩⟩)
   have EN:=le.trans l2;have frA:=(fr.trans f2).trans f3;have aA:=a.mono EN frA;refine aMj (X:=A') (X':=A') (Kv:=Kv) (K:=K) (kn:=A') rfl rfl (fun hv=>k _ _ _ A A' .normal EN frA s3 aA hv) (fun hv=>k _ _ _ A A' .ret EN frA s3 aA hv) (fun i hv=>k _ _ _ A A' (.exit i) EN frA s3 aA hv) hv
  split at hv
  ·cases hv
  ·rename_i SD
   split
   ·exact bC rfl SD
   ·exact fin (p:=True) hv
 ·cases hv
theorem aDv{Ev:VE}{E:Env} (r:ER P B Sb Ev E){ro ro':Option Nat}{f:Operand}{ps:Array Tmp}{as bo:Code}{A:VA}{A':bD}{Kv:CV}{K:As} (s:VS P B Sb c h S) (uF:RoV c ro ro') (a:AR c S (dO B c h) A A') (k:CKR P B Sb c h S Kv K) (hv:(Yu tb ro f ps as bo).f Ev A h Kv):At E ro' f ps as bo A' S K=true:=by
 unfold Yu at hv;unfold At;refine cF a hv fun fv fw rf hv=>?_;obtain⟨vs,hv,hl,hg⟩:=aGx hv;rcases uF with ⟨rfl,rfl⟩ | ⟨l,b,rfl,rfl,hb⟩
 ·have hv:OC Ev fv (Yt tb bo) vs A.tmps.n ps.toList as bo h _:=hv
  cases rf with
  | @func g fa fc fa' fc' la lc ha hc=>
   simp only;rw [jF];obtain⟨s1,f1⟩:=aPu s .defers
   have m1:Kb c (S.new .defers) (dO B c h) (S.n::A'.marks):=by
    have m:=a.marks.mono (.refl c) f1;refine⟨m.n0,List.nodup_cons.2 ⟨fun hx=>?_,m.nd⟩,fun d hd=>?_⟩
    ·exact Nat.lt_irrefl _ (a.marks.ok _ hx).2.1
    ·rcases List.mem_cons.1 hd with rfl | hd
     ·exact⟨a.marks.n0,xN _,fun x=>Nat.lt_irrefl _ (s.aGp x),uV⟩
     ·exact m.ok d hd
   have a0:=a.mono (.refl c) f1;have a1:AR c (S.new .defers) (dO B c h) A ⟨A'.tmps,S.n::A'.marks,A'.g⟩:=⟨a0.n,a0.g,m1,a0.got,a0.abs⟩;exact Je r s1 a1 hl hg ((⟨la,ha⟩:lT _ _ _ fa fa').mono (.refl c) f1) ((⟨lc,hc⟩:lT _ _ _ fc fc').mono (.refl c) f1) (fun c' h' S' X X' e l2 f2=>k c' h' S' X X' e l2 (f1.trans f2)) hv
  | _=>cases hv
 ·have hv:RF l h (OC Ev fv (Yt tb bo) vs A.tmps.n ps.toList as bo h _):=hv
  obtain⟨_,_,_,_,_,_,_,_,e,hv⟩:=aDu hv;cases rf with
  | @func g fa fc fa' fc' la lc ha hc=>
   simp only;obtain⟨b',ao,b1,b2,b3,b4,b5⟩:=s.ob l _ e rfl;rw [hb]at b1;injection b1 with b1;subst b1;obtain⟨T,rfl,_⟩:=b5;rw [aBM b4];exact Je r s a hl hg ⟨la,ha⟩ ⟨lc,hc⟩ k hv
  | _=>cases hv
theorem XV{Ev:VE}{E:Env} (r:ER P B Sb Ev E){ro ro':Option Nat}{lv:Code->LpV}{lx:Code->LpT} (hl:∀a,aNE P B Sb Ev E ro ro' (lv a) (lx a)):∀(q:Code) {c:Cx} {h:Hp} {S:St} {A:VA} {A':bD} {Kv:CV} {K:As},
 VS P B Sb c h S->RoV c ro ro'->AR c S (dO B c h) A A'->CKR P B Sb c h S Kv K->(sQ P tb ro lv q).f Ev A h Kv->(pP P tb lx q).f E ro' A' S K=true:=by
 intro q;induction q with
 | skip=>intro c h S A A' Kv K s uF a k hv;exact k c h S A A' .normal (.refl c) (.refl _ S) s a hv
 | label l=>intro c h S A A' Kv K s uF a k hv;exact k c h S A A' .normal (.refl c) (.refl _ S) s a hv
 | ret=>intro c h S A A' Kv K s uF a k hv;exact k c h S A A' .ret (.refl c) (.refl _ S) s a hv
 | exit i=>intro c h S A A' Kv K s uF a k hv;exact k c h S A A' (.exit i) (.refl c) (.refl _ S) s a hv
 | goto l=>intro c h S A A' Kv K s uF a k hv;cases hv
 | refuse l=>intro c h S A A' Kv K s uF a k hv;cases hv
 | rangeFunc f ps as bo _ _=>
  intro c h S A A' Kv K s uF a k hv;have hv:(Yu tb ro f ps as bo).f Ev A h Kv:=hv;exact aDv r s uF a k hv
 | region i ops draw=>
  intro c h S A A' Kv K s uF a k hv;have hv:(aMc P ops draw).f Ev A h (fun A S=>Kv .normal A S):=hv;show(aFX P ops draw).f E A' S (fun A S=>K .normal A S)=true;exact aJP r s a (fun c' h' S' X X' l f s' x hv=>k c' h' S' X X' .normal l f s' x hv) hv
 | seq x y ihx ihy=>
  intro c h S A A' Kv K s uF a k hv;refine ihx s uF a ?_ (show(sQ P tb ro lv x).f Ev A h (aEW P (II tb y) (sQ P tb ro lv y) Ev Kv)from hv);intro c' h' S' X X' e l f s' x hv;cases e with
  | normal=>
   unfold aEW at hv;show aA5 P (II tb y) (pP P tb lx y) E ro' K .normal X' S'=true;unfold aA5;simp only at hv ⊢;cases hj:II tb y with
   | none=>simp only [hj]at hv ⊢;exact ihy s' (uF.mono l) x (k.mono l f) hv
   | some ls=>
    simp only [hj]at hv ⊢;refine PM x hv fun vs ws rs hv=>?_;unfold aJn at hv;unfold aEl;rw [r.eM]at hv;cases hm:E.most with
    | zero=>rw [hm]at hv;cases hv
    | succ m=>
     rw [hm]at hv;obtain⟨h2,hle,hv⟩:=hv;obtain⟨s2,f2⟩:=s'.drop hle;have hv:RN ls vs X.tmps.n P.globals.size (fun A=>(sQ P tb ro lv y).f Ev A h2 Kv):=hv;rw [x.n]at hv;show KX ls ws X'.tmps.n P.globals.size X'.marks (fun A=>(pP P tb lx y).f E ro' A S' K)=true;exact RR (x.marks.mono (.refl _) f2) (rs.mono (.refl _) f2) hv fun Y Y' y hv=>ihy s2 (uF.mono l) y ((k.mono l f).mono (.refl _) f2) hv
  | exit i=>exact k c' h' S' X X' (.exit i) l f s' x hv
  | ret=>exact k c' h' S' X X' .ret l f s' x hv
 | cond b x y ihx ihy=>
  intro c h S A A' Kv K s uF a k hv;have hv:(AU b).f A (fun v=>iR v ((sQ P tb ro lv x).f Ev A h Kv) ((sQ P tb ro lv y).f Ev A h Kv)):=hv;show(BC b).f A' (fun v=>match v with | .bool b=>gE b ((pP P tb lx x).f E ro' A' S K) ((pP P tb lx y).f E ro' A' S K) | _=>false)=true;rw [kZ];refine cF a hv fun v w rv hv=>?_;cases rv with
  | @bool b=>
   cases b with
   | true=>exact ihx s uF a k hv
   | false=>exact ihy s uF a k hv
  | _=>cases hv
 | block i x ih=>
  intro c h S A A' Kv K s uF a k hv;refine ih s uF a ?_ (show(sQ P tb ro lv x).f Ev A h (aDg i Kv)from hv);intro c' h' S' X X' e l f s' x hv;cases e with
  | normal=>exact k c' h' S' X X' .normal l f s' x hv
  | ret=>exact k c' h' S' X X' .ret l f s' x hv
  | exit j=>
   show(match Nat.beq j i with | true=>K .normal X' S' | false=>K (.exit j) X' S')=true;have hv:ZL j i (Kv .normal X h') (Kv (.exit j) X h'):=hv;unfold ZL at hv;cases hj:Nat.beq j i with
   | true=>rw [hj]at hv;exact k c' h' S' X X' .normal l f s' x hv
   | false=>rw [hj]at hv;exact k c' h' S' X X' (.exit j) l f s' x hv
 | scope x ih=>
  intro c h S A A' Kv K s uF a k hv;exact ih s uF a k hv
 | loop x ih=>
  intro c h S A A' Kv K s uF a k hv;have hv:PK (zW tb x) A (fun vs=>lv x Ev vs A.tmps.n h (aGo P tb x Kv)):=hv;show DT (zW tb x) A' (fun vs=>lx x E ro' vs A'.tmps.n A'.marks S (aOs P tb x K))=true;refine PM a hv fun vs ws rs hv=>?_;rw [<-a.n];refine hl x s uF a.marks rs ?_ hv;intro c' h' S' vs ws n e l f s' rs hv marks m;exact RR m rs hv fun X X' x hx=>k c' h' S' X X' e l f s' x hx
theorem Yy{Ev:VE}{E:Env} (r:ER P B Sb Ev E){ro ro':Option Nat}:∀(m:Nat) (a:Code),aNE P B Sb Ev E ro ro' (YH P tb ro m a) (lpX P tb m a):=by
 intro m;induction m with
 | zero=>intro a c h S vs ws n marks Kv K s uF mk rs k hv;cases hv
 | succ m ih=>
  intro a
  have go:∀(j:Nat) {c:Cx} {h:Hp} {S:St} {vs:List V} {ws:List Value} {n:Nat} {marks:List Nat} {Kv:zG->List V->Nat->Hp->Prop} {K:zG->List Value->Nat->List Nat->St->Bool},VS P B Sb c h S->RoV c ro ro'->Kb c S (dO B c h) marks->lT c S (dO B c h) vs ws->LKR P B Sb c h S Kv K->XQ P tb a (sQ P tb ro (YH P tb ro m) a) Ev Kv j vs n h->Dp P tb a (pP P tb (lpX P tb m) a) E ro' K j ws n marks S=true:=by
   intro j;induction j with
   | zero=>intro c h S vs ws n marks Kv K s uF mk rs k hv;cases hv
   | succ j ihj=>
    intro c h S vs ws n marks Kv K s uF mk rs k hv;obtain⟨h2,hle,hv⟩:=hv;obtain⟨s2,f2⟩:=s.drop hle;show KX (zW tb a) ws n P.globals.size marks (fun A=>(pP P tb (lpX P tb m) a).f E ro' A S (Xj tb a (Dp P tb a (pP P tb (lpX P tb m) a) E ro' K j) K))=true;refine RR (mk.mono (.refl _) f2) (rs.mono (.refl _) f2) hv fun X X' x hv=>?_;refine XV r ih a s2 uF x ?_ hv;intro c' h' S' Y Y' e l f s' y hv;have kk:=(k.mono (.refl _) f2).mono l f;cases e with
    | normal=>
     have hv:PK (zW tb a) Y (fun vs=>XQ P tb a (sQ P tb ro (YH P tb ro m) a) Ev Kv j vs Y.tmps.n h'):=hv;show DT (zW tb a) Y' (fun vs=>Dp P tb a (pP P tb (lpX P tb m) a) E ro' K j vs Y'.tmps.n Y'.marks S')=true;refine PM y hv fun vs ws rs hv=>?_;rw [<-y.n];exact ihj s' (uF.mono l) y.marks rs kk hv
    | exit i=>
     have hv:PK (Do tb a (.exit i)) Y (fun vs=>Kv (.exit i) vs Y.tmps.n h'):=hv;show DT (Do tb a (.exit i)) Y' (fun vs=>K (.exit i) vs Y'.tmps.n Y'.marks S')=true;refine PM y hv fun vs ws rs hv=>?_;rw [<-y.n];exact kk c' h' S' vs ws _ _ (.refl _) (.refl _ S') s' rs hv _ y.marks
    | ret=>
     have hv:PK (Do tb a .ret) Y (fun vs=>Kv .ret vs Y.tmps.n h'):=hv;show DT (Do tb a .ret) Y' (fun vs=>K .ret vs Y'.tmps.n Y'.marks S')=true;refine PM y hv fun vs ws rs hv=>?_;rw [<-y.n];exact kk c' h' S' vs ws _ _ (.refl _) (.refl _ S') s' rs hv _ y.marks
  intro c h S vs ws n marks Kv K s uF mk rs k hv;have hv:XQ P tb a (sQ P tb ro (YH P tb ro m) a) Ev Kv Ev.most vs n h:=hv;rw [r.eM]at hv;exact go _ s uF mk rs k hv
theorem aJQ{k:Yo->Prop}{k':Tm->Bool}{g:Nat}{marks:List Nat} (hk:∀T T',AR c S C ⟨T,g⟩ ⟨T',marks,g⟩->k T->k' T'=true):∀{vs:List V} {ws:List Value} {i:Nat} {T:Yo} {T':Tm},lT c S C vs ws->AR c S C ⟨T,g⟩ ⟨T',marks,g⟩->
 gX (β:=Nat->Yo->Prop) (fun _ T=>k T) (fun a _ ih i T=>ZM a T i fun T=>ih (Nat.succ i) T) vs i T->
 gX (β:=Nat->Tm->Bool) (fun _ T=>k' T) (fun a _ ih i T=>uE a T i fun T=>bX (Nat.succ i) fun i=>ih i T) ws i T'=true:=by
 intro vs;induction vs with
 | nil=>intro ws i T T' rs a hv;rw [rs.rQ];exact hk _ _ a hv
 | cons v vs ih=>
  intro ws i T T' rs a hv;obtain⟨w,ws',rfl,rv,rs⟩:=rs.cons_inv;rw [bV]at hv ⊢;obtain⟨h1,h2⟩:=XT hv;rw [Es (by rw [show T'.n=T.n from a.n.symm];exact h1),bJ];exact ih rs (a.put rv) h2
theorem aGz{k:Yo->Prop}{k':Tm->Bool}{g:Nat}{marks:List Nat} (hk:∀T T',AR c S C ⟨T,g⟩ ⟨T',marks,g⟩->k T->k' T'=true):∀{ps:List Tmp} {vs:List V} {ws:List Value} {T:Yo} {T':Tm},lT c S C vs ws->AR c S C ⟨T,g⟩ ⟨T',marks,g⟩->aJp ps vs T k->aAv ps ws T' k'=true:=by
 intro ps;induction ps with
 | nil=>
  intro vs ws T T' rs a hv;cases vs with
  | nil=>rw [rs.rQ];exact hk _ _ a hv
  | cons v vs=>cases hv
 | cons p ps ih=>
  intro vs ws T T' rs a hv;cases vs with
  | nil=>cases hv
  | cons v vs=>
   obtain⟨w,ws',rfl,rv,rs⟩:=rs.cons_inv;have hv:ZM v T p (fun T=>aJp ps vs T k):=hv;obtain⟨h1,h2⟩:=XT hv;show uE w T' p (fun T=>aAv ps ws' T k')=true;rw [Es (by rw [show T'.n=T.n from a.n.symm];exact h1)];exact ih rs (a.put rv) h2
def Cx.at (c:Cx) (n:Nat):Cx:=⟨c.Z,c.G,c.Yz,n⟩
theorem Cx.at0 (c:Cx) (n:Nat):c.le0 (c.at n):=⟨fun _ _ e=>e,fun _ _ _ e=>e,fun _ _ e=>e⟩
theorem Fc.refl:Fc C S S C:=⟨bQ _,fun _ _ _ _ _ _ e=>e,fun _ h=> .inl h⟩
theorem VS.at (s:VS P B Sb c h S) (n:Nat):VS P B Sb (c.at n) h S:=by
 refine⟨s.base,s.bB,fun i o e eg=>?_,fun i vs t m e=>?_,s.inj,s.Gs,s.room,s.WQ,s.Gb,s.old⟩
 ·obtain⟨b,a,a1,a2,a3,a4,a5⟩:=s.ob i o e eg
  exact⟨b,a,a1,a2,a3,a4,a5.tO (c.at0 n) .refl⟩
 ·obtain⟨b,ws,olds,sz,a1,a2,a3,a4,a5,a6⟩:=s.gD i vs t m e
  exact⟨b,ws,olds,sz,a1,a2,a3,a4,a5.tO (c.at0 n) .refl,a6⟩
def kill (l:List Nat) (S:St):St:=l.foldl (fun S d=>S.set d .dead) S
theorem Bo:∀(l:List Nat) (S:St),(kill l S).n=S.n:=by
 intro l;induction l with
 | nil=>intro S;rfl
 | cons d l ih=>intro S;exact ih _
theorem GA:∀(l:List Nat) (S:St) {b:Nat},b∉l->(kill l S).obj b=S.obj b:=by
 intro l;induction l with
 | nil=>intro S b _;rfl
 | cons d l ih=>
  intro S b hb;have:=ih (S.set d .dead) (b:=b) (fun h=>hb (.tail _ h));refine Eq.trans this ?_;exact lE fun e=>hb (e▸ .head _)
theorem aGA:∀(l:List Nat) (S:St) (k:St->Bool),l.Nodup->(∀d∈l,S.obj d=some .defers)->NW l S k=k (kill l S):=by
 intro l;induction l with
 | nil=>intro S k _ _;rfl
 | cons d l ih=>
  intro S k hn ho;show(rL S.h d fun o=>match o with | .defers=>sV S d .dead fun S=>NW l S k | _=>false)=_;rw [aBM (ho d (.head _))];simp only;rw [gU];obtain⟨h1,h2⟩:=List.nodup_cons.1 hn;exact ih _ k h2 fun x hx=>by rw [lE (fun e:x=d=>h1 (e▸hx))];exact ho x (.tail _ hx)
theorem aE1{l:List Nat} (hd:∀d∈l,S.obj d=some .defers):Fc C S (kill l S) C:=by
 refine⟨Ak (Bo l S).symm,fun b h1 h2 vs e ck ho=>?_,fun _ h=> .inl h⟩;rw [GA l S (fun hb=>by rw [hd b hb]at ho;cases ho)];exact ho
theorem VS.kill (s:VS P B Sb c h S){l:List Nat} (hd:∀d∈l,Sb.n<=d/\¬dO B c h d/\S.obj d=some .defers):VS P B Sb c h (Am.kill l S):=by
 have fc:Fc (dO B c h) S (Am.kill l S) (dO B c h):=aE1 fun d hx=>(hd d hx).2.2;have l0:c.le0 c:=⟨fun _ _ e=>e,fun _ _ _ e=>e,fun _ _ e=>e⟩;refine⟨⟨by rw [Bo];exact s.base.n,fun j hj=>?_⟩,s.bB,fun i o e eg=>?_,fun i vs t m e=>?_,s.inj,s.Gs,s.room,s.WQ,fun i vs t n m b e e3=>by rw [Bo];exact s.Gb i vs t n m b e e3,fun i vs t n b ws e' olds e e3 e4=>s.old i vs t n b ws e' olds e e3 (by rw [GA l S (fun hx=>(hd b hx).2.1 (.inr ⟨i,.inr ⟨vs,t,n,n,e,e3⟩⟩))]at e4;exact e4)⟩
 ·rw [GA l S (fun hx=>by have:=(hd j hx).1;omega)]
  exact s.base.same j hj
 ·obtain⟨b,a,a1,a2,a3,a4,a5⟩:=s.ob i o e eg
  have hb:b∉l:=fun hx=>(hd b hx).2.1 (.inr ⟨i,.inl ⟨o,e,eg,a1⟩⟩);exact⟨b,a,a1,a2,by rw [Bo];exact a3,by rw [GA l S hb];exact a4,a5.tO l0 fc⟩
 ·obtain⟨b,ws,olds,sz,a1,a2,a3,a4,a5,a6⟩:=s.gD i vs t m e
  have hb:b∉l:=fun hx=>(hd b hx).2.1 (.inr ⟨i,.inr ⟨vs,t,m,m,e,a1⟩⟩);exact⟨b,ws,olds,sz,a1,a2,by rw [Bo];exact a3,by rw [GA l S hb];exact a4,a5.tO l0 fc,a6⟩
theorem Za (s:VS P B Sb c h S){A:VA}{A':bD} (a:AR c S (dO B c h) A A'):∀{rs:List ResultVar} {k:List V->Prop} {k':List Value->Bool},LQ P rs A h k->(∀vs ws,lT c S (dO B c h) vs ws->k vs->k' ws=true)->tB P rs A' S k'=true:=by
 intro rs;induction rs with
 | nil=>intro k k' hv hk;exact hk [] [] .nil hv
 | cons x rs ih=>
  intro k k' hv hk;cases x with
  | tmp t=>
   have hv:Sl A.tmps t (fun v=>LQ P rs A h fun vs=>k (v::vs)):=hv;show XD A'.tmps t (fun v=>tB P rs A' S fun vs=>k' (v::vs))=true;exact EC a hv fun v w rv hv=>ih hv fun vs ws rs hv=>hk _ _ (.cons rv rs) hv
  | cell x t=>
   have e1:LQ P (.cell x t::rs) A h k=match xQ P t,cM P t with
    | some false,_=>Sl A.tmps x fun a=>aW a h fun v _=>LQ P rs A h fun vs=>k (v::vs)
    | some true,some (n+1)=>Sl A.tmps x fun a=>bR (n+1) a h fun v _=>LQ P rs A h fun vs=>k (v::vs)
    | _,_=>False:=rfl
   rw [e1]at hv;show XD A'.tmps x (fun a=>OI P t a S fun v _=>tB P rs A' S fun vs=>k' (v::vs))=true;split at hv
   ·rename_i h1
    refine EC a hv fun v w rv hv=>?_;rw [Gw h1];exact aEY s rv (fun u y ru hu=>ih hu fun vs ws rs hv=>hk _ _ (.cons ru rs) hv) hv
   ·rename_i n h1 h2
    refine EC a hv fun v w rv hv=>?_;rw [Gx h1 h2];exact aBA s (by omega) rv (fun u y ru hu=>ih hu fun vs ws rs hv=>hk _ _ (.cons ru rs) hv) hv
   ·cases hv
theorem Pz (s:VS P B Sb c h S){v:V}{w:Value} (rv:fN c S (dO B c h) v w){Kv:KV}{K:VK} (k:KR P B Sb c h S Kv K) (hv:bF v h Kv):K w S=true:=by
 obtain⟨h',u,hle,hf,hv⟩:=hv;obtain⟨d,O,le,s2,f2,r2⟩:=aPs s hle rv hf;exact k d h' S _ w le f2 s2 r2 (hv O)
theorem aMk{tb:FuncId->sN}{Ev:VE}{E:Env} (r:ER P B Sb Ev E) (f:FuncId){args:List V}{ws:List Value}{Kv:KV}{K:VK} (s:VS P B Sb c h S) (ra:lT c S (dO B c h) args ws) (k:KR P B Sb c h S Kv K) (hv:jX P tb f Ev args h Kv):fnX P tb f E ws S K=true:=by
 unfold jX at hv;unfold fnX;cases hf:P.funcs[f]? with
 | none=>simp only [hf]at hv
 | some fn=>
  simp only [hf]at hv ⊢;cases hb:fn.body with
  | none=>simp only [hb]at hv
  | some q=>
   simp only [hb]at hv ⊢;rw [bJ];have m0:Kb (c.at S.n) S (dO B c h) []:=⟨bQ _,.nil,fun d hd=>by cases hd⟩;refine aJQ (c:=c.at S.n) (g:=P.globals.size) (fun T T' a hv=>?_) (ra.tO (c.at0 _) .refl) (.leaf m0) hv;refine XV r (Yy r EU) q (s.at S.n) (.inl ⟨rfl,rfl⟩) a ?_ hv;intro c' h' S' X X' e l f s' x hv
   have fin:LQ P fn.results.toList X h' (fun vs=>match vs with | [v]=>bF v h' Kv | vs=>bF (.tuple vs) h' Kv)->NW X'.marks S' (fun S=>tB P fn.results.toList X' S fun vs=>match vs with | [v]=>K v S | vs=>K (.tuple ⟨vs⟩) S)=true:=by
    intro hv;have hm:=x.marks;have hn0:c'.n0=S.n:=l.n0;rw [aGA X'.marks S' _ hm.nd fun d hd=>(hm.ok d hd).2.2.2];have s1:VS P B Sb c' h' (kill X'.marks S'):=s'.kill fun d hd=>⟨by have:=(hm.ok d hd).1;have:=s.base.n;omega,(hm.ok d hd).2.2.1,(hm.ok d hd).2.2.2⟩;have s2:VS P B Sb (c'.at c.n0) h' (kill X'.marks S'):=s1.at c.n0;have fO:c.le (c'.at c.n0):=⟨fun i b e=>l.Z i b e,fun i n v e=>l.G i n v e,fun i v e=>l.Yz i v e,rfl⟩
    have f2:EP (dO B c h) S (kill X'.marks S') (dO B c' h'):=by
     refine⟨by rw [Bo];exact f.n,fun b h1 h2=>?_,f.sub⟩;rw [GA _ _ fun hx=>by have:=(hm.ok b hx).1;omega];exact f.same b h1 h2
    have fc:Fc (dO B c' h') S' (kill X'.marks S') (dO B c' h'):=aE1 fun d hd=>(hm.ok d hd).2.2.2
    have x2:AR c' (kill X'.marks S') (dO B c' h') X ⟨X'.tmps,[],X'.g⟩:=
     ⟨x.n,x.g,⟨by rw [Bo];exact hm.n0,.nil,fun d hd=>by cases hd⟩,fun i v e=>let⟨w,p,q⟩:=x.got i v e;⟨w,p,(q.tO ⟨fun _ _ e=>e,fun _ _ _ e=>e,fun _ _ e=>e⟩ fc)⟩,x.abs⟩
    show tB P fn.results.toList ⟨X'.tmps,[],X'.g⟩ (kill X'.marks S') (fun vs=>match vs with | [v]=>K v (kill X'.marks S') | vs=>K (.tuple ⟨vs⟩) (kill X'.marks S'))=true;refine Za s1 x2 hv fun vs ws rs hv=>?_;have rs:lT (c'.at c.n0) (kill X'.marks S') (dO B (c'.at c.n0) h') vs ws:=rs.tO (c'.at0 c.n0) .refl;have kk:KR P B Sb (c'.at c.n0) h' (kill X'.marks S') Kv K:=fun c2 h2 S2 v w l2 f3=>k c2 h2 S2 v w (fO.trans l2) (f2.trans f3)
    match vs,ws,rs,hv with
    | [v],ws,rs,hv=>
     obtain⟨w,ws',rfl,rv,rs⟩:=rs.cons_inv;rw [rs.rQ];exact Pz s2 rv kk hv
    | [],ws,rs,hv=>
     rw [rs.rQ];exact Pz s2 (.tuple (a':=[]) rfl fun k v w e=>by simp at e) kk hv
    | a::b::vs,ws,rs,hv=>
     obtain⟨w,ws',rfl,rv,rs⟩:=rs.cons_inv;obtain⟨w2,ws2,rfl,Ft,rs⟩:=rs.cons_inv;exact Pz s2 (.tuple (lT.cons rv (.cons Ft rs)).len (lT.cons rv (.cons Ft rs)).rd) kk hv
   cases e with
   | normal=>exact fin hv
   | ret=>exact fin hv
   | exit i=>cases hv
theorem aJR{T:Tm}{g:Nat}:∀{ls:List Nat} {vs:List V},vs.length=ls.length->(∀(j i:Nat) (v:V),ls[j]? =some i->vs[j]? =some v->∃w,T.t.get i=some w/\fN c S C v w)->∃ws,lT c S C vs ws/\∀k':List Value->Bool,DT ls ⟨T,[],g⟩ k'=k' ws:=by
 intro ls;induction ls with
 | nil=>
  intro vs hl _;obtain rfl:vs=[]:=sB (by simpa using hl);exact⟨[],.nil,fun k'=>rfl⟩
 | cons i ls ih=>
  intro vs hl hg;cases vs with
  | nil=>simp at hl
  | cons v vs=>
   obtain⟨w,e,rv⟩:=hg 0 i v rfl rfl;obtain⟨ws,rs,hk⟩:=ih (vs:=vs) (by simpa using hl) fun j x u h1 h2=>hg (j+1) x u (by simpa using h1) (by simpa using h2);refine⟨w::ws,.cons rv rs,fun k'=>?_⟩;show XD T i (fun v=>DT ls ⟨T,[],g⟩ fun vs=>k' (v::vs))=_;unfold XD;rw [nE,e];exact hk _
theorem Hr{l b:Nat}{st:LoopState}{pe:Option Code}{bb:Bool}{Kv:KV}{K:VK} (s:VS P B Sb c h S) (hb:c.Z l=some b) (k:KR P B Sb c h S Kv K) (hv:IX l st pe bb h Kv):
 ∃T ps as bo Kz pe',S.obj b=some (.loop T ps as bo Kz pe')/\K (.bool bb) (S.set b (.loop T ps as bo st pe))=true:=by
 unfold IX at hv;split at hv
 ·rename_i ls vs n ps as bo Kz pe' e
  obtain⟨b',ao,b1,b2,b3,b4,b5⟩:=s.ob l _ e rfl;rw [hb]at b1;injection b1 with b1;subst b1;obtain⟨T,rfl,b6,b7,b8⟩:=b5
  obtain⟨s3,f3⟩:=s.Uu e rfl hb (o:= .loop ls vs n ps as bo st pe) (ao:= .loop T ps as bo st pe) rfl (fun S' C' f=>⟨T,rfl,b6,b7,fun j i v e1 e2=>by
   obtain⟨w,g1,g2⟩:=b8 j i v e1 e2;exact⟨w,g1,g2.mono (.refl _) f⟩⟩)
  exact⟨T,ps,as,bo,Kz,pe',b4,k _ _ _ _ _ (.refl _) f3 s3 .bool hv⟩
 ·cases hv
theorem aDw{tb:FuncId->sN}{Ev:VE}{E:Env} (r:ER P B Sb Ev E) (l b:Nat){args:List V}{ws:List Value}{Kv:KV}{K:VK} (s:VS P B Sb c h S) (hb:c.Z l=some b) (ra:lT c S (dO B c h) args ws) (k:KR P B Sb c h S Kv K) (hv:Bk P tb Ev l args h Kv):Od P tb E b ws S K=true:=by
 unfold Bk at hv;split at hv
 ·rename_i ls vs n ps as bo st pe e
  obtain⟨rfl,hv⟩:=hv;obtain⟨b',ao,b1,b2,b3,b4,b5⟩:=s.ob l _ e rfl;rw [hb]at b1;injection b1 with b1;subst b1;obtain⟨T,rfl,rfl,b7,b8⟩:=b5;unfold Od;rw [aBM b4];simp only;have m0:Kb (c.at S.n) S (dO B c h) []:=⟨bQ _,.nil,fun d hd=>by cases hd⟩;obtain⟨us,rs,hus⟩:=aJR (g:=P.globals.size) b7 b8;rw [hus];unfold WP at hv;refine RR (c:=c.at S.n) m0 (rs.tO (c.at0 _) .refl) hv fun X X' x hv=>?_;refine aGz (g:=P.globals.size) (marks:=[]) (fun T1 T1' a hv=>?_) (ra.tO (c.at0 _) .refl) (show AR (c.at S.n) S (dO B c h) ⟨X.tmps,P.globals.size⟩ ⟨X'.tmps,[],P.globals.size⟩from⟨x.n,rfl,m0,x.got,x.abs⟩) hv
  have back:∀{c':Cx} {h':Hp} {S':St},(c.at S.n).le c'->EP (dO B c h) S S' (dO B c' h')->KR P B Sb (c'.at c.n0) h' S' Kv K:=by
   intro c' h' S' l1 f1 c2 h2 S2 v w l2 f2;have l3:c.le (c'.at c.n0):=⟨fun i b e=>l1.Z i b e,fun i n v e=>l1.G i n v e,fun i v e=>l1.Yz i v e,rfl⟩;exact k c2 h2 S2 v w (l3.trans l2) (f1.trans f2)
  refine XV r (Yy r EU) as (s.at S.n) (.inr ⟨l,b,rfl,rfl,hb⟩) a ?_ hv;intro c' h' S' Y Y' e' l1 f1 s' y hv;cases e' with
  | exit i=>cases hv
  | ret=>cases hv
  | normal=>
   have hv:ZK l h' (fun S=>(sQ P (tb (Gz T.n bo)) (some l) (YH P (tb (Gz T.n bo)) (some l) EU) bo).f Ev Y S (aRF l Kv)):=hv;have SD:c'.Z l=some b:=l1.Z _ _ hb;unfold ZK at hv;split at hv
   ·rename_i ls2 vs2 n2 ps2 as2 bo2 pe2 e2
    obtain⟨b',ao,q1,q2,q3,q4,q5⟩:=s'.ob l _ e2 rfl;rw [SD]at q1;injection q1 with q1;subst q1;obtain⟨T2,rfl,q6,q7,q8⟩:=q5
    show(rL S'.h b fun o=>match o with
     | .loop tm ps as bo' .ready pe=>sV S' b (.loop tm ps as bo' .busy pe) fun S=>(pP P (tb (Gz T.n bo)) (lpX P (tb (Gz T.n bo)) EU) bo).f E (some b) Y' S (aLs b K)
     | _=>false)=true
    rw [aBM q4];simp only;rw [gU]
    obtain⟨s3,f3⟩:=s'.Uu e2 rfl SD (o:= .loop ls2 vs2 n2 ps2 as2 bo2 .busy pe2) (ao:= .loop T2 ps2 as2 bo2 .busy pe2) rfl (fun S' C' f=>⟨T2,rfl,q6,q7,fun j i v e1 e2=>by
     obtain⟨w,g1,g2⟩:=q8 j i v e1 e2;exact⟨w,g1,g2.mono (.refl _) f⟩⟩)
    refine XV r (Yy r EU) bo s3 (.inr ⟨l,b,rfl,rfl,SD⟩) (y.mono (.refl _) f3) ?_ hv;intro c2 h2 S2 z0 z0' e3 l2 f2 s2 z hv;have MP:c2.Z l=some b:=l2.Z _ _ SD;have kk:=back (l1.trans l2) ((f1.trans f3).trans f2);unfold aLs;cases e3 with
    | normal=>
     obtain⟨T3,ps3,as3,bo3,st3,pe3,g1,g2⟩:=Hr (s2.at c.n0) MP kk hv;rw [aBM g1];simp only;rw [gU];exact g2
    | ret=>
     obtain⟨T3,ps3,as3,bo3,st3,pe3,g1,g2⟩:=Hr (s2.at c.n0) MP kk hv;rw [aBM g1];simp only;rw [gU];exact g2
    | exit i=>
     obtain⟨T3,ps3,as3,bo3,st3,pe3,g1,g2⟩:=Hr (s2.at c.n0) MP kk hv;rw [aBM g1];simp only;rw [gU];exact g2
   ·cases hv
 ·cases hv
def aNm (P:Program) (B:Nat->Prop) (Sb:St) (ovv:OvV) (ov:FuncId->Option (List Value->St->VK->Bool)):Prop:=
 (∀f,ovv f=none->ov f=none)/\∀f g,ovv f=some g->∃g',ov f=some g'/\∀{args:List V} {ws:List Value} {c:Cx} {h:Hp} {S:St} {Kv:KV} {K:VK},VS P B Sb c h S->lT c S (dO B c h) args ws->KR P B Sb c h S Kv K->g args h Kv->g' ws S K=true
theorem aJS{tb:FuncId->sN}{ovv:OvV}{ov:FuncId->Option (List Value->St->VK->Bool)} (ho:aNm P B Sb ovv ov) (most:Nat):∀n,ER P B Sb (Yn P tb ovv most n) (aF1 P tb ov most n):=by
 intro n;induction n with
 | zero=>exact⟨rfl,rfl,fun f args ws c h S Kv K s ra k hv=>(by cases hv),fun l b args ws c h S Kv K s hb ra k hv=>(by cases hv)⟩
 | succ n ih=>
  refine⟨rfl,rfl,fun f args ws c h S Kv K s ra k hv=>?_,fun l b args ws c h S Kv K s hb ra k hv=>aDw ih l b s hb ra k hv⟩;have hv:(match ovv f with | some g=>g args h Kv | none=>jX P tb f (Yn P tb ovv most n) args h Kv):=hv;show(match ov f with | some g=>g ws S K | none=>fnX P tb f (aF1 P tb ov most n) ws S K)=true;cases hf:ovv f with
  | none=>
   rw [hf]at hv;rw [ho.1 f hf];exact aMk ih f s ra k hv
  | some g=>
   rw [hf]at hv;obtain⟨g',e,hg⟩:=ho.2 f g hf;rw [e];exact hg s ra k hv
end
section
variable (P:Program) (T:sN) (r:Option Nat) (E:VE)
theorem Sk (m:Nat) (k k':Nat->Code->CV->Prop) (h:∀D c K,k D c K=pL m False fun _=>k' D c K):∀(p:List Dir) (D:Nat) (c:Code) (ms:List Nat) (K:CV),tL P T r E p D c ms K k=pL m False fun _=>tL P T r E p D c ms K k':=by
 have hf:(False:Prop)=pL m False fun _=>False:=by cases m<;>rfl
 intro p;induction p with
 | nil=>intro D c ms K;exact h D c K
 | cons q p ih=>
  intro D c ms K
  cases q<;>cases c<;>first
   | exact hf
   | exact ih _ _ _ _
   | (cases D with
      | zero=>exact hf
      | succ D=>cases ms with
       | nil=>exact hf
       | cons m ms=>exact ih _ _ _ _)
end
section
variable{P:Program}{tb:FuncId->sN}
theorem Er (f:FuncId) (E:VE) (p:List Dir) (ms:List Nat) (vs:List V) (S:Hp) (K:KV) (hm:E.most≠0):Uq P tb f E p ms vs S K=Ur P tb f E p ms vs S K:=by
 obtain⟨m,hm⟩:=bH hm;unfold Uq Ur;cases P.funcs[f]? with
 | none=>rfl
 | some fn=>
  simp only;cases fn.body with
  | none=>rfl
  | some c=>
   simp only
   rw [Sk P (tb f) none E E.most _ (fun D c K=>match II (tb f) c with
    | some l=>cR S fun S=>RN l vs fn.ntmps P.globals.size fun A=>(sQ P (tb f) none (YH P (tb f) none D) c).f E A S K
    | none=>False) (fun D c K=>by
     cases II (tb f) c with
     | none=>rw [hm];rfl
     | some l=>rfl),hm]
   rfl
theorem PE{E:VE}{l n:Nat}{ls:List Nat}{vs args:List V}{ps:List Tmp}{as bo:Code}{st:LoopState}{pe:Option Code}{S:Hp}{K:KV} (h:S l=some (.loop ls vs n ps as bo st pe)) (e:ls=YY tb n bo) (hr:WP P tb E n ps as bo l vs args S K):Bk P tb E l args S K:=by
 unfold Bk;simp only [h];exact⟨e,hr⟩
theorem aM{v:V}{S:Hp}{K:KV} (h:K v S):bF v S K:=⟨S,fun _=>v,fun _ _ h=>h,fun _=> .one (.mF v),fun _=>h⟩
theorem aF{S:Hp}{k:Hp->Prop} (h:k S):cR S k:=⟨S,fun _ _ h=>h,h⟩
theorem tJ{S:Hp}{k:Hp->Prop} (S':Hp) (l:bU S' S) (h:k S'):cR S k:=⟨S',l,h⟩
theorem VE.Us{E:VE}{c:FuncId}{args:List V}{S:Hp}{K:KV} (h:E.C c args S K):E.call c args S K:=
 ⟨S,fun _=>args,fun _ _ h=>h,fun _=>⟨rfl,fun j v u a b=>by rw [a]at b;injection b with b;subst b;exact .mF v⟩,fun _=>h⟩
theorem aGi{ov:OvV}{most n:Nat}{f:FuncId} (h:ov f=none) (args:List V) (S:Hp) (K:KV):(Yn P tb ov most (n+1)).C f args S K=jX P tb f (Yn P tb ov most n) args S K:=by
 show(match(generalizing:=false) ov f with | some g=>g args S K | none=>jX P tb f (Yn P tb ov most n) args S K)=_;rw [h]
theorem aMa{ov:OvV}{most n:Nat}{f:FuncId}{g:List V->Hp->KV->Prop} (h:ov f=some g) (args:List V) (S:Hp) (K:KV):(Yn P tb ov most (n+1)).C f args S K=g args S K:=by
 show(match(generalizing:=false) ov f with | some g=>g args S K | none=>jX P tb f (Yn P tb ov most n) args S K)=_;rw [h]
end
end Go.Am
namespace Go.Proofs.OG
def YF:Nat->Nat->Nat->Nat->Nat->Nat
 | 0,out,_,_,_=>out
 | f+1,out,a,e,m=>match Nat.beq e 0 with
  | true=>out
  | false=>YF f (match Nat.beq (e%2) 1 with | true=>out*a%m | false=>out) (a*a%m) (e / 2) m
theorem Ue (f out a m:Nat):YF f out a 0 m=out:=by cases f<;>rfl
theorem Uf{f out a e m:Nat} (h:0<e):YF (f+1) out a e m=YF f (if e%2=1 then out*a%m else out) (a*a%m) (e / 2) m:=by
 have e1:Nat.beq e 0=false:=by cases e with | zero=>omega | succ e=>rfl
 show(match Nat.beq e 0 with | true=>out | false=>_)=_;rw [e1];by_cases h2:e%2=1
 ·have e2:Nat.beq (e%2) 1=true:=by rw [h2];rfl
  simp only [e2,if_pos h2]
 ·have e2:Nat.beq (e%2) 1=false:=by have:e%2=0:=by omega
                                    rw [this];rfl
  simp only [e2,if_neg h2]
def iD (a b m:Nat):Nat:=(a%m+m-b%m)%m
def CQ:Nat->Nat->Nat->Nat->Nat->Nat->Nat×Nat
 | 0,r,_,x,_,_=>(r,x)
 | f+1,r,s,x,y,m=>match Nat.beq s 0 with
  | true=>(r,x)
  | false=>CQ f s (r%s) y (iD x (r / s*y%m) m) m
theorem Ug (f r x y m:Nat):CQ f r 0 x y m=(r,x):=by cases f<;>rfl
theorem aF3{f r s x y m:Nat} (h:0<s):CQ (f+1) r s x y m=CQ f s (r%s) y (iD x (r / s*y%m) m) m:=by
 have e1:Nat.beq s 0=false:=by cases s with | zero=>omega | succ s=>rfl
 show(match Nat.beq s 0 with | true=>_ | false=>_)=_;rw [e1]
end Go.Proofs.OG
namespace Go.Am
open Go.RowKit Go.MapKept
section
variable{P:Program}{S S' S0:Hp}{K:KV}
theorem fD{i:Nat}{a b:Ob}:aL (aL S i a) i b=aL S i b:=by
 funext j
 unfold aL;by_cases h:j=i
 ·rw [aO h,aO h]
 ·rw [aG h,aG h,aG h]
theorem aBt{i:Nat}{a:Ob} (h:S i=some a):aL S i a=S:=by
 funext j
 unfold aL;by_cases e:j=i
 ·rw [aO e,e,h]
 ·rw [aG e]
theorem bU.refl (S:Hp):bU S S:=fun _ _ h=>h
theorem bU.trans{a b c:Hp} (h:bU a b) (k:bU b c):bU a c:=fun i o e=>k i o (h i o e)
theorem bU.aK{i:Nat}{a:Ob} (h:S i=none):bU S (aL S i a):=fun j o e=>by
 unfold aL;by_cases h1:j=i
 ·subst h1;rw [h]at e;cases e
 ·rw [aG h1];exact e
@[simp] theorem aUv {i o:Nat} {vs:List V} {t:TypeId} (h:S i=some (.row vs t)):aW (.ptr i o) S K=Em vs o fun v=>K v S:=by
  show(match S i with | some (.row vs _)=>Em vs o fun v=>K v S | _=>False)=_;rw [h]
@[simp] theorem tE {n i o:Nat} {vs:List V} {t:TypeId} (h:S i=some (.row vs t)):bR n (.ptr i o) S K=WN vs o n fun l=>K (.agg l) S:=by
  show(match S i with | some (.row vs _)=>WN vs o n fun l=>K (.agg l) S | _=>False)=_;rw [h]
theorem yA{O:Tag}{cs:List Dt}{o:Nat}:aW (.uB O cs o) S K=Em cs o fun d=>K (T (.sub O o) d) S:=rfl
theorem RJ{n:Nat}{O:Tag}{cs:List Dt}{o:Nat}:bR n (.uB O cs o) S K=WN cs o n fun l=>K (.agg (Tl O o l)) S:=rfl
theorem aZ{off i o:Nat}{k:V->Prop}:aV off (.ptr i o) k=k (.ptr i (o+off)):=rfl
theorem FZ{off o:Nat}{O:Tag}{cs:List Dt}{k:V->Prop}:aV off (.uB O cs o) k=k (.uB O cs (o+off)):=rfl
theorem cK{i o:Nat}{k:V->Prop}:nP P (.ptr i o) k=k (.ptr i o):=rfl
theorem Pl{b:Bool}{p q:Prop}:iR (.bool b) p q=if b then p else q:=by cases b<;>rfl
theorem aN{w:Bool}{op:KV->Prop}{k:KV}:aH w (.bool w) op S k=op k:=by cases w<;>rfl
theorem cZ{O:Tag}{cs:List Dt}{n:Nat}{k:V->Prop}:bP (.list O cs n) k=k (.int .i64 (.ofNat n)):=rfl
theorem jL{size n:Nat}{O:Tag}{cs:List Dt}{j:IntKind}{i:Nat} (h:i<n){k:V->Prop}:cV size (.list O cs n) (.int j (.ofNat i)) k=k (.uB O cs (i*size)):=by
 show(i<n/\_)=_;simp [h]
theorem cX{α:Type}{l:List α}{i:Nat}{a:α} (h:l[i]? =some a){k:α->Prop}:Em l i k=k a:=by unfold Em;rw [h]
theorem dR{α:Type}{l:List α}{o n:Nat} (h:o+n<=l.length){k:List α->Prop}:WN l o n k=k ((l.drop o).take n):=by unfold WN;simp [h]
theorem bU.none{a b:Hp} (h:bU a b){i:Nat} (e:b i=none):a i=none:=by
 cases q:a i with
 | none=>rfl
 | some o=>rw [h i o q]at e;cases e
theorem aIf{i j:Nat}{a:Ob} (e:aL S i a j=none):j≠i/\S j=none:=by
 by_cases h:j=i
 ·subst h;rw [aB]at e;cases e
 ·rw [aC h]at e;exact⟨h,e⟩
theorem HH{el:TypeId}{n:Nat}{zero:List Value}{z cs:List V} (hz:LB zero=some z) (Ky:z.length=n) (hc:cs.length=n) (ho:cs.all gB=true) (hk:∀j,S j=none->K (.own j 0 1 1) (aL S j (.row cs el))):aS el 1 zero [(0,n,.agg cs)] S K:=by
 unfold aS rR;rw [hz];show iF [(0,n,.agg cs)] (List.replicate 1 z).flatten _;unfold iF;refine⟨ho,hc,by simp [Ky],?_⟩;unfold iF;have:bA 0 cs (List.replicate 1 z).flatten=cs:=by simp [bA,hc,<-Ky]
 rw [this];exact hk
theorem LA{size i m c:Nat}{vs:List V}{t:TypeId} (h:S i=some (.row vs t)) (hl:vs.length=m*size){k:Nat->List V->Prop} (hk:k m vs):Sa size (.own i 0 m c) S k:=by
 unfold Sa;simp only [h];rw [dR (by omega),xO,mC (by omega)];exact hk
theorem rK{t:TypeId}{k:IntKind}{x y:Int}{K:V->Prop}:aJ P .lss t (.int k x) (.int k y) K=K (.bool (decide (x<y))):=by simp [aJ,yT,SO]
theorem JX{t:TypeId}{k:IntKind}{x y:Int}{K:V->Prop}:aJ P .leq t (.int k x) (.int k y) K=K (.bool (decide (x<=y))):=by simp [aJ,yT,SO]
theorem OY{t:TypeId}{k:IntKind}{x y:Int}{K:V->Prop}:aJ P .gtr t (.int k x) (.int k y) K=K (.bool (decide (y<x))):=by simp [aJ,yT,SO]
theorem CH{t:TypeId}{k:IntKind}{x y:Int}{K:V->Prop}:aJ P .geq t (.int k x) (.int k y) K=K (.bool (decide (y<=x))):=by simp [aJ,yT,SO]
theorem JV{t:TypeId}{k:IntKind}{x y:Int}{K:V->Prop}:aJ P .eql t (.int k x) (.int k y) K=K (.bool (decide (x=y))):=by simp [aJ,yT,SO]
theorem OZ{t:TypeId}{k:IntKind}{x y:Int}{K:V->Prop}:aJ P .neq t (.int k x) (.int k y) K=K (.bool (!decide (x=y))):=by simp [aJ,yT,SO]
theorem JW{t:TypeId}{k:IntKind}{x y:Int}{K:V->Prop}:aJ P .add t (.int k x) (.int k y) K=K (.int k (sM k (x+y))):=by simp [aJ,yT,SO]
theorem Hc{t:TypeId}{k:IntKind}{x y:Int}{K:V->Prop}:aJ P .sub t (.int k x) (.int k y) K=K (.int k (sM k (x-y))):=by simp [aJ,yT,SO]
theorem Ui{t:TypeId}{k:IntKind}{x y:Int}{K:V->Prop}:aJ P .mul t (.int k x) (.int k y) K=K (.int k (sM k (x*y))):=by simp [aJ,yT,SO]
theorem aGc{t:TypeId}{k:IntKind}{x y:Int} (hy:y≠0){K:V->Prop}:aJ P .rem t (.int k x) (.int k y) K=K (.int k (x.tmod y)):=by simp [aJ,yT,SO,hy]
theorem wrap_small{n:Int} (h0: -9223372036854775808<=n) (h1:n<=9223372036854775807):sM .i64 n=n:=by
 rw [KG,Cz _ _ (by simpa [IntKind.min,IntKind.bits,IntKind.signed]using h0) (by simpa [IntKind.max,IntKind.bits,IntKind.signed]using h1)]
theorem aDc{i:Nat} (h:i<4611686018427387904):sM .i64 (Int.ofNat i+Int.ofNat 1)=Int.ofNat (i+1):=by
 rw [wrap_small]<;>simp<;>omega
end
def Deep (P:Program) (tb:FuncId->sN) (ov:OvV) (M:Nat):Nat->VE->Prop
 | 0,x=>x.most=M
 | n+1,x=>x.most=M/\(∀f g,ov f=some g->x.C f=g)/\∃y,Deep P tb ov M n y/\(∀f,ov f=none->∀args S K,x.C f args S K=jX P tb f y args S K)/\∀l args S K,x.R l args S K=Bk P tb y l args S K
section
variable{P:Program}{tb:FuncId->sN}{ov:OvV}{M:Nat}{x:VE}{S:Hp}{K:KV}
theorem Deep.most{n:Nat} (h:Deep P tb ov M n x):x.most=M:=by cases n with | zero=>exact h | succ n=>exact h.1
theorem Deep.call{n:Nat} (hx:Deep P tb ov M (n+1) x){f:FuncId} (hf:ov f=none){args:List V} (h:∀y,Deep P tb ov M n y->jX P tb f y args S K):x.call f args S K:=by
 obtain⟨h1,h2,y,h3,h4,_⟩:=hx;exact VE.Us (by rw [h4 f hf];exact h y h3)
theorem Deep.round{n:Nat} (hx:Deep P tb ov M (n+1) x){l:Nat}{args:List V} (h:∀y,Deep P tb ov M n y->Bk P tb y l args S K):x.R l args S K:=by
 obtain⟨h1,h2,y,h3,h4,h5⟩:=hx;rw [h5];exact h y h3
theorem Deep.IL{n:Nat} (hx:Deep P tb ov M (n+1) x){f:FuncId}{g:List V->Hp->KV->Prop} (hf:ov f=some g){args:List V} (h:g args S K):x.call f args S K:=by
 obtain⟨h1,h2,_⟩:=hx;exact VE.Us (by rw [h2 f g hf];exact h)
theorem aGj (n:Nat):Deep P tb ov M n (Yn P tb ov M n):=by
 induction n with
 | zero=>rfl
 | succ n ih=>exact⟨rfl,fun f g h=>by funext args S K;exact aMa h args S K,_,ih,fun f h args S K=>aGi h args S K,fun l args S K=>rfl⟩
theorem MX{i o:Nat}{vs:List V}{t:TypeId}{v:V} (h:S i=some (.row vs t)) (ho:gB v=true) (hl:o<vs.length){k:Hp->Prop} (hk:k (aL S i (.row (bA o [v] vs) t))):nI 1 (.ptr i o) v S k:=by
 unfold nI;simp only [h];unfold wM;cases v<;>first | (cases ho;done) | exact⟨rfl,by omega,hk⟩
theorem bL{v:V}{S':Hp} (l:bU S' S) (h:K v S'):bF v S K:=⟨S',fun _=>v,l,fun _=> .one (.mF v),fun _=>h⟩
theorem cC{t:TypeId}{cs:List V} (ho:cs.all gB=true) (hk:∀i,S i=none->K (.ptr i 0) (aL S i (.row cs t))):iG t (.agg cs) S K:=⟨ho,hk⟩
theorem cG{z:List Value}{l:List V}{t:TypeId} (hz:LB z=some l) (hk:∀i,S i=none->K (.ptr i 0) (aL S i (.row l t))):dQ z t S K:=by
 unfold dQ rR;rw [hz];exact hk
theorem aEI{t:TypeId}{i o:Nat} (h:Dx P t=some .ptr){k:V->Prop} (hk:k (.bool false)):aJ P .eql t (.ptr i o) .Ka k:=⟨rfl,h,.inr rfl,(fun e=>by cases e),hk⟩
theorem Pm{sh:KSh}{z a:V}{ok:Bool}{m:Nat}{es:List (V×V)} (hm:S m=some (.map es)) (ha:RK sh a) (ho:∀e∈es,RK sh e.1) (h1:∀v,WO es a=some v->K (Ym ok v true) S) (h2:WO es a=none->K (Ym ok z false) S):Pj sh z ok (.yZ m) a S K:=by
 unfold Pj;simp only [hm];exact⟨ha,ho,h1,h2⟩
theorem iH{n i:Nat}{vs cs:List V}{t:TypeId} (h:S i=some (.row vs t)) (ho:cs.all gB=true) (hc:cs.length=n) (hl:vs.length=n){k:Hp->Prop} (hk:k (aL S i (.row cs t))):nI n (.ptr i 0) (.agg cs) S k:=by
 unfold nI;simp only [h];refine⟨ho,hc,by omega,?_⟩;have:bA 0 cs vs=cs:=by simp [bA,hc,<-hl]
 rw [this];exact hk
theorem kQ{n i:Nat}{vs:List V}{t:TypeId} (h:S i=some (.row vs t)) (hl:vs.length=n) (hk:K (.agg vs) S):bR n (.ptr i 0) S K:=by
 rw [tE h,dR (by omega),xO,mC (by omega)];exact hk
theorem dC{i:Nat}{vs:List V}{v:V}{k:V->Prop} (h:vs[i]? =some v) (hk:k v):vB i (.tuple vs) k:=by
 show Em vs i k;rw [cX h];exact hk
theorem yG{w:Bool}{op:KV->Prop}{k:KV}:aH w WM op S k=k WM S:=by cases w<;>rfl
theorem iL{w:Bool}{u:V}{op:Prop->Prop}{k:Prop}:fW w (.bool w) u op k=op k:=by cases w<;>rfl
theorem kM{op:Prop->Prop}{k:Prop}:fW true (.bool false) WM op k=k:=rfl
theorem qA{op:Prop->Prop}{k:Prop}:fW false (.bool true) WM op k=k:=rfl
theorem tK{w:Bool}{op:Prop->Prop}{k:Prop}:fW w WM WM op k=k:=by cases w<;>rfl
end
section
variable{P:Program}{S S' S0:Hp}{K:KV}{x:VE}
theorem KZ{size n b:Nat}{j:IntKind}{i:Nat} (h:i<n){k:V->Prop}:cV size (.acc b n) (.int j (.ofNat i)) k=k (.wL b n (i*size)):=by
 show(i<n/\_)=_;simp [h]
theorem Pn{size n b o q c:Nat}{j:IntKind}{i:Nat} (h:i<q){k:V->Prop}:cV size (.HW b n o q c) (.int j (.ofNat i)) k=k (.wL b n (o+i*size)):=by
 show(i<q/\_)=_;simp [h]
theorem Hm{b n:Nat}{k:V->Prop}:bP (.acc b n) k=k (.int .i64 (.ofNat n)):=rfl
theorem Ut{b n o q c:Nat}{k:V->Prop}:bP (.HW b n o q c) k=k (.int .i64 (.ofNat q)):=rfl
theorem aBu{i n o:Nat}{vs:List V}{t:TypeId}{v:V} (h:S i=some (.gD vs t n)) (hv:vs[o]? =some v) (hk:K v S):aW (.wL i n o) S K:=by
 unfold aW;simp only [h];exact⟨trivial,by rw [cX hv];exact hk⟩
theorem aRA{i n o:Nat}{vs:List V}{t:TypeId}{v:V} (h:S i=some (.gD vs t n)) (ho:gB v=true) (hl:o<vs.length){k:Hp->Prop} (hk:k (aL S i (.gD (bA o [v] vs) t n))):nI 1 (.wL i n o) v S k:=by
 unfold nI;simp only [h];unfold wM;cases v<;>first | (cases ho;done) | exact⟨trivial,rfl,by omega,hk⟩
theorem Xv{el size i n a:Nat}{vs:List V}{j:IntKind} (h:S i=some (.gD vs el n)) (hl:a<n){k:V->Prop} (hk:k (.HW i n (a*size) (n-a) (n-a))):LG el size (.acc i n) (some (.int j (.ofNat a))) none none S k:=by
 unfold LG;simp only [h];refine⟨trivial,trivial,?_⟩;show a<=n/\n<=n/\n<=n/\(a<n->k _)/\_;refine⟨by omega,by omega,by omega,fun _=>?_,fun e=>bC e (by omega)⟩;rw [eJ];exact hk
theorem aMb{el size i n a:Nat}{vs:List V}{j:IntKind} (h:S i=some (.gD vs el n)) (h0:0<n) (hl:a<=n){k:V->Prop} (hk:k (.HW i n 0 a n)):LG el size (.acc i n) none (some (.int j (.ofNat a))) none S k:=by
 unfold LG;simp only [h];refine⟨trivial,trivial,?_⟩;show 0<=a/\a<=n/\n<=n/\(0<n->k _)/\_;refine⟨by omega,by omega,by omega,fun _=>?_,fun e=>bC e (by omega)⟩;simpa using hk
theorem aIr{el size i n:Nat}{vs:List V}{j:IntKind} (h:S i=some (.gD vs el n)){k:V->Prop} (hk:k (.emp i n)):LG el size (.acc i n) (some (.int j (.ofNat n))) none none S k:=by
 unfold LG;simp only [h];refine⟨trivial,trivial,?_⟩;show n<=n/\n<=n/\n<=n/\(n<n->k _)/\_;exact⟨by omega,by omega,by omega,fun e=>bC e (by omega),fun _=>hk⟩
theorem aDd{zero:List Value}{z vs:List V}{i n o q c:Nat}{t:TypeId} (h:S i=some (.gD vs t n)) (hz:LB zero=some z) (hq:0<q) (hl:o+(List.replicate q z).flatten.length<=vs.length){k:Hp->Prop} (hk:k (aL S i (.gD (bA o (List.replicate q z).flatten vs) t n))):Bj zero (.HW i n o q c) S k:=by
 obtain⟨p,rfl⟩:=bH (Nat.ne_of_gt hq);unfold Bj rR;simp only [hz,h];exact⟨trivial,hl,hk⟩
def del (S:Hp) (i:Nat):Hp:=fun j=>if j=i then none else S j
theorem Xs{i:Nat}:bU (del S i) S:=fun j o e=>by
 unfold del at e;by_cases h:j=i
 ·rw [aO h]at e;cases e
 ·rw [aG h]at e;exact e
theorem LD{i:Nat}:del S i i=none:=aO rfl
theorem WD{l n:Nat}{ls:List Nat}{vs:List V}{ps:List Tmp}{as bo:Code}{pe:Option Code} (h:S l=some (.loop ls vs n ps as bo .ready pe)){k:Hp->Prop} (hk:k (aL S l (.loop ls vs n ps as bo .busy pe))):ZK l S k:=by
 unfold ZK;simp only [h];exact hk
theorem WE{l n:Nat}{ls:List Nat}{vs:List V}{ps:List Tmp}{as bo:Code}{st Kz:LoopState}{pe pe':Option Code}{b:Bool} (h:S l=some (.loop ls vs n ps as bo st pe)) (hk:K (.bool b) (aL S l (.loop ls vs n ps as bo Kz pe'))):IX l Kz pe' b S K:=by
 unfold IX;simp only [h];exact hk
theorem WF{l n:Nat}{ls:List Nat}{vs:List V}{ps:List Tmp}{as bo:Code}{st:LoopState}{pe:Option Code} (h:S l=some (.loop ls vs n ps as bo st pe)) (hs:st≠ .busy){k:Option Code->Hp->Prop} (hk:k pe (aL S l (.loop ls vs n ps as bo .exhausted pe))):Uo l S k:=by
 unfold Uo;simp only [h];cases st<;>first | exact bC rfl hs | exact hk
theorem PF{g n:Nat}{a c:List V}{ls:List Nat}{vs:List V}{ps:List Tmp}{as bo:Code}{k:Option Code->Hp->Prop} (hk:∀l,S l=none->x.call g (a++[.yield l]++c) (aL S l (.loop ls vs n ps as bo .ready none)) fun _ S=>Uo l S k):OC x (.func g a c) ls vs n ps as bo S k:=hk
theorem Dz{kn kr:Prop}{ke:Nat->Prop}:SX none kn kr ke=kn:=rfl
theorem FU{vs:List V}{o:Nat}{v:V} (h:o<vs.length):bA o [v] vs=vs.set o v:=by
 unfold bA;apply xM;intro j;rw [Lw];by_cases h1:j<o
 ·rw [aG (by omega),BH,gO (by rw [mU];omega),sC,aO h1]
 ·by_cases h2:j=o
  ·subst h2
   rw [aO rfl,aO h,gO (by simp;omega),kH (by rw [mU];omega),mU];rw [show j-min j vs.length=0 by omega];rfl
  ·rw [aG (by omega),kH (by simp;omega),qY]
   simp only [kI,mU,oX,List.length_nil];rw [show o+(0+1)+(j-(min o vs.length+(0+1)))=j by omega]
end
section
variable{P:Program}{S S':Hp}{K:KV}{x:VE}
theorem aY{off i:Nat}{k:V->Prop}:aV off (.ptr i 0) k=k (.ptr i off):=by show k (.ptr i (0+off))=_;rw [eJ]
theorem cN{v:V}{p:Prop} (h:DU v=true):aU v v p=p:=propext ⟨fun q=>q.2.2,fun q=>⟨rfl,h,q⟩⟩
theorem cE{k:IntKind}{z:Int}{p:Prop}:aU (.int k z) (.int k z) p=p:=cN rfl
theorem rC{b:Bool}{k:V->Prop}:SP .not (.bool b) k=k (.bool (!b)):=rfl
theorem gP{v:V}{cs:List Dt}{n:Nat} (l:bU S' S) (h:Du S' S v (.list cs n)) (hk:∀O,K (.list O cs n) S'):bF v S K:=
 ⟨S',fun O=> .list (O 0) cs n,l,fun _=> .one (.ZG h),fun _=>hk _⟩
end
end Go.Am
namespace Go.Mq
def QB:BitVec 64:=0x9E3779B97F4A7C15#64
def m1:BitVec 64:=0xBF58476D1CE4E5B9#64
def m2:BitVec 64:=0x94D049BB133111EB#64
def VY (s:BitVec 64):BitVec 64:=
 let a:=(s ^^^ (s >>> 30))*m1
 let b:=(a ^^^ (a >>> 27))*m2
 b ^^^ (b >>> 31)
def i1:BitVec 64:=0x96de1b173f119089#64
def i2:BitVec 64:=0x319642b2d24d8ec3#64
theorem aQ0:m1*i1=1#64:=by decide
theorem aQ1:m2*i2=1#64:=by decide
theorem aOD (z:BitVec 64) (k:Nat) (h:64<=3*k):(z ^^^ (z >>> k)) ^^^ ((z ^^^ (z >>> k)) >>> k) ^^^ ((z ^^^ (z >>> k)) >>> (2*k))=z:=by
 apply BitVec.eq_of_getLsbD_eq;intro i hi;simp only [BitVec.getLsbD_xor,BitVec.getLsbD_ushiftRight];have e1:z.getLsbD (2*k+(k+i))=false:=BitVec.getLsbD_of_ge _ _ (by omega);have e2:k+(2*k+i)=2*k+(k+i):=by omega
 have e3:k+(k+i)=2*k+i:=by omega
 rw [e2,e1,e3];cases z.getLsbD i<;>cases z.getLsbD (k+i)<;>cases z.getLsbD (2*k+i)<;>rfl
def unB (y:BitVec 64):BitVec 64:=
 let b:=y ^^^ (y >>> 31) ^^^ (y >>> 62)
 let b:=b*i2
 let a:=b ^^^ (b >>> 27) ^^^ (b >>> 54)
 let a:=a*i1
 a ^^^ (a >>> 30) ^^^ (a >>> 60)
theorem aH9 (s:BitVec 64):unB (VY s)=s:=by
 unfold unB VY;simp only;rw [aOD _ 31 (by omega),BitVec.mul_assoc,aQ1,BitVec.mul_one,aOD _ 27 (by omega),BitVec.mul_assoc,aQ0,BitVec.mul_one,aOD _ 30 (by omega)]
def aA9 (x:BitVec 64):Prop:=18446744073709551610<=x.toNat
theorem aOE (x:BitVec 64) (h:aA9 x):x=0xfffffffffffffffa#64\/x=0xfffffffffffffffb#64\/x=0xfffffffffffffffc#64\/x=0xfffffffffffffffd#64\/x=0xfffffffffffffffe#64\/x=0xffffffffffffffff#64:=by
 unfold aA9 at h;have hl:=x.isLt;have:x.toNat=18446744073709551610\/x.toNat=18446744073709551611\/x.toNat=18446744073709551612\/x.toNat=18446744073709551613\/x.toNat=18446744073709551614\/x.toNat=18446744073709551615:=by omega
 rcases this with h | h | h | h | h | h
 ·exact .inl (BitVec.eq_of_toNat_eq h)
 ·exact .inr (.inl (BitVec.eq_of_toNat_eq h))
 ·exact .inr (.inr (.inl (BitVec.eq_of_toNat_eq h)))
 ·exact .inr (.inr (.inr (.inl (BitVec.eq_of_toNat_eq h))))
 ·exact .inr (.inr (.inr (.inr (.inl (BitVec.eq_of_toNat_eq h)))))
 ·exact .inr (.inr (.inr (.inr (.inr (BitVec.eq_of_toNat_eq h)))))
theorem once (s:BitVec 64) (h:aA9 (VY s)):¬aA9 (VY (s+QB)):=by
 have e:=aH9 s;rcases aOE _ h with q | q | q | q | q | q
 all_goals
  rw [q]at e;rw [<-e];unfold aA9;decide
end Go.Mq
namespace Go.Am
open Go.RowKit Go.MapKept
theorem mapM_some{α β:Type}{f:α->Option β}:∀{l:List α} {xs:List β},l.mapM f=some xs->xs.length=l.length/\∀(i:Nat) (a:α),l[i]? =some a->∃x,xs[i]? =some x/\f a=some x:=by
 intro l;induction l with
 | nil=>intro xs h;simp at h;subst h;exact⟨rfl,fun i a h=>by simp at h⟩
 | cons b l ih=>
  intro xs h;rw [Ga]at h;cases hb:f b with
  | none=>rw [hb]at h;cases h
  | some y=>
   rw [hb]at h;cases hl:l.mapM f with
   | none=>rw [hl]at h;cases h
   | some ys=>
    rw [hl]at h;have h:some (y::ys)=some xs:=h;injection h with h;subst h;obtain⟨i1,i2⟩:=ih hl;refine⟨by simp [i1],fun i a ha=>?_⟩;cases i with
    | zero=>simp at ha;subst ha;exact⟨y,rfl,hb⟩
    | succ i=>simpa using i2 i a (by simpa using ha)
def aCw (P:Program) (g:TypeId->Option (List It)):List Field->Nat->Option (List It)
 | [],_=>some []
 | fd::fs,off=>if fd.offset=off then match g fd.type,cM P fd.type with
  | some its,some m=>if m=its.length then(aCw P g fs (off+m)).map (its++ ·)else none
  | _,_=>none else none
def aFQ (P:Program):Nat->TypeId->Option (List It)
 | 0,_=>none
 | f+1,t=>match P.underlying t with
  | some .bool=>some [.is]
  | some (.int .u64)=>some [.num]
  | some (.int .u8)=>some [.kind]
  | some (.int .i64)=>some [.int]
  | some .string=>some [.text]
  | some (.slice e)=>match aFQ P f e,cM P e,P.bytesOf e with
   | some (i::its),some m,by0+1=>if m=its.length+1/\aCx (i::its)<=by0+1 then(match i,its with | .num,[]=>some [.Gt] | i,its=>some [.list (i::its)])else none
   | _,_,_=>none
  | some (.struct fs)=>match aCw P (aFQ P f) fs.toList 0,cM P t with
   | some its,some m=>if m=its.length then some its else none
   | _,_=>none
  | _=>none
def Lay (P:Program) (w:World) (U:Rn) (S:St):Prop:=Rel P w U S w/\∀i o,S.obj i=some o->o.reads=true
section
variable{P:Program}{w:World}
theorem Lay.add{U:Rn}{S:St} (h:Lay P w U S) (vs:List Value) (e:TypeId) (L:Loc){cs:Array Value}{t:TypeId}{fz:Nat×Nat} (hb:w.heap[L.b]? =some (.cells cs t fz))
 (hc:∀(j:Nat) (v:Value),vs[j]? =some v->∃v',cs[L.s+j]? =some v'/\VR U v v') (hm:cM P e=some L.m) (hz:∀j,j<vs.length->¬(fz.1<=L.s+j/\L.s+j<fz.2)):
 Lay P w (U.put S.n L) (S.new (.cells vs e .rs))/\Ext U (U.put S.n L):=by
 obtain⟨h,hr⟩:=h;have SH:=h.dom S.n (bQ _);have he:Ext U (U.put S.n L):=Rn.QR SH
 have vQ:∀j M,U.put S.n L j=some M->(j=S.n/\M=L)\/(j≠S.n/\U j=some M):=fun j M hj=>by
  unfold Rn.put at hj;by_cases e:j=S.n
  ·rw [aO e]at hj;injection hj with hj;exact .inl ⟨e,hj.symm⟩
  ·rw [aG e]at hj;exact .inr ⟨e,hj⟩
 have uS:∀j x,(S.new (.cells vs e .rs)).obj j=some x->(j=S.n/\x= .cells vs e .rs)\/(j≠S.n/\S.obj j=some x):=fun j x hx=>by
  rw [XH]at hx;by_cases e:j=S.n
  ·rw [aO e]at hx;injection hx with hx;exact .inl ⟨e,hx.symm⟩
  ·rw [aG e]at hx;exact .inr ⟨e,hx⟩
 have VO:∀j x,(S.new (.cells vs e .rs)).obj j=some x->x.reads=true:=fun j x hx=>by
  rcases uS j x hx with ⟨_,rfl⟩ | ⟨_,hx⟩
  ·rfl
  ·exact hr j x hx
 have hlt:L.b<w.heap.size:=(Array.getElem?_eq_some_iff.1 hb).1;refine⟨⟨⟨fun g hg=>let⟨M,h1,h2⟩:=h.Mm g hg;⟨M,he _ _ h1,h2⟩,fun j x hx=>?_,fun j hj=>?_,fun j x hx=>?_,fun j M hj=>?_,fun i j a b M N Ri ha SD _ _ _ _ _=> .inl ⟨VO i a ha,VO j b SD⟩,fun j us e' olds hj i hi=>?_,h.base⟩,VO⟩,he⟩
 ·rcases uS j x hx with ⟨rfl,rfl⟩ | ⟨_,hx⟩
  ·exact⟨L,cs,t,fz,Rn.mQ _ _ _,hb,fun j v hv=>let⟨v',a,b⟩:=hc j v hv;⟨v',a,b.mono he⟩,hm,hz⟩
  ·exact(h.NX j x hx).frame he fun _ _=>rfl
 ·have Vy:S.n+1<=j:=hj
  unfold Rn.put;rw [aG (by omega)];exact h.dom j (by omega)
 ·rcases uS j x hx with ⟨rfl,_⟩ | ⟨_,hx⟩
  ·exact xN _
  ·exact sD (h.lt j x hx)
 ·rcases vQ j M hj with ⟨_,rfl⟩ | ⟨_,hM⟩
  ·exact hlt
  ·exact h.loc j M hM
 ·have:=VO j _ hj
  simp [jB.reads]at this
def uU (P:Program) (w:World) (cs:List Value) (its:List It):Prop:=
 ∀(U:Rn) (S:St),Lay P w U S->∃U' S' vs ds,Ext U U'/\Lay P w U' S'/\QZ S S'/\lR U' vs cs/\RdA S' (fun _=>False) its vs ds
theorem QZ.none{S S':St} (h:QZ S S'):EP (fun _=>False) S S' (fun _=>False):=h.fr _
theorem uU.plain{v:Value}{it:It}{d:D} (hf:bY v=true) (hr:∀S,Rd S (fun _=>False) it v d):uU P w [v] [it]:=fun U S h=>
 ⟨U,S,[v],[d],.refl U,h,.refl S,.cons (.flat hf) (.nil U),rfl,rfl,fun j it' v' d' a b c=>by
  cases j with
  | zero=>simp at a b c;subst a b c;exact hr S
  | succ j=>simp at a⟩
theorem uU.append{a b:List Value}{x y:List It} (h:uU P w a x) (k:uU P w b y):uU P w (a++b) (x++y):=fun U S hl=>by
 obtain⟨U1,S1,v1,d1,e1,l1,x1,r1,s1⟩:=h U S hl;obtain⟨U2,S2,v2,d2,e2,l2,x2,r2,s2⟩:=k U1 S1 l1;refine⟨U2,S2,v1++v2,d1++d2,e1.trans e2,l2,x1.trans x2,(r1.mono e2).append r2,by simp [s1.len,s2.len],by simp [s1.Wt,s2.Wt],fun j it v d p q r=>?_⟩;have s1':=s1.fr x2.none;by_cases hj:j<x.length
 ·rw [gO hj]at p
  rw [gO (by rw [s1.len];exact hj)]at q;rw [gO (by rw [s1.Wt];exact hj)]at r;exact s1'.rd j it v d p q r
 ·rw [kH (by omega)]at p
  rw [kH (by rw [s1.len];omega),s1.len]at q;rw [kH (by rw [s1.Wt];omega),s1.Wt]at r;exact s2.rd _ it v d p q r
theorem aLg{its:List It}:∀{css:List (List Value)},(∀cs∈css,uU P w cs its)->∀(U:Rn) (S:St),Lay P w U S->∃(U':Rn) (S':St) (vss:List (List Value)) (YE:List (List D)),Ext U U'/\Lay P w U' S'/\QZ S S'/\vss.length=css.length/\YE.length=css.length/\
 (∀(k:Nat) (vs cs:List Value),vss[k]? =some vs->css[k]? =some cs->lR U' vs cs)/\∀(k:Nat) (vs:List Value) (ds:List D),vss[k]? =some vs->YE[k]? =some ds->RdA S' (fun _=>False) its vs ds:=by
 intro css;induction css with
 | nil=>intro _ U S h;exact⟨U,S,[],[],.refl U,h,.refl S,rfl,rfl,by simp,by simp⟩
 | cons cs css ih=>
  intro oP U S h;obtain⟨U1,S1,v1,d1,e1,l1,x1,r1,s1⟩:=oP cs (.head _) U S h;obtain⟨U2,S2,vss,YE,e2,l2,x2,n1,n2,r2,s2⟩:=ih (fun c hc=>oP c (.tail _ hc)) U1 S1 l1;refine⟨U2,S2,v1::vss,d1::YE,e1.trans e2,l2,x1.trans x2,by simp [n1],by simp [n2],fun k vs cs' a b=>?_,fun k vs ds a b=>?_⟩
  ·cases k with
   | zero=>simp at a b;subst a b;exact r1.mono e2
   | succ k=>exact r2 k vs cs' (by simpa using a) (by simpa using b)
  ·cases k with
   | zero=>simp at a b;subst a b;exact s1.fr x2.none
   | succ k=>exact s2 k vs ds (by simpa using a) (by simpa using b)
theorem Ip{α:Type}{m:Nat}:∀{l:List (List α)},(∀x∈l,x.length=m)->∀(k j:Nat),j<m->l.flatten[k*m+j]? =(l[k]?).bind (·[j]?):=by
 intro l;induction l with
 | nil=>intro _ k j _;simp
 | cons x l ih=>
  intro h k j hj;have hx:=h x (.head _);cases k with
  | zero=>
   rw [NQ,gO (by omega)];simp
  | succ k=>
   rw [NQ,kH (by rw [hx,KC];omega),hx];rw [show(k+1)*m+j-m=k*m+j by rw [KC];omega,ih (fun y hy=>h y (.tail _ hy)) k j hj];simp
theorem aAT{α:Type}{m:Nat}:∀{l:List (List α)},(∀x∈l,x.length=m)->l.flatten.length=l.length*m:=by
 intro l;induction l with
 | nil=>intro _;simp
 | cons x l ih=>intro h;rw [NQ,kI,h x (.head _),ih fun y hy=>h y (.tail _ hy),oX,KC];omega
end
section
variable{P:Program}{w:World}
theorem Iq{a:Addr}{n:Nat}{cs:List Value} (h:w.cells? 0 a n=some cs) (hn:0<n):∃c t fz,w.heap[a.block]? =some (.cells c t fz)/\a.spot=none:=by
 unfold World.cells? at h;rw [aO (zT _)]at h;obtain⟨_,h2⟩:=mapM_some h;obtain⟨x,_,hx⟩:=h2 0 0 (by simp [hn]);have hx:w.cell? a=some x:=by simpa [Addr.add]using hx
 unfold World.cell? at hx;cases hb:w.heap[a.block]? with
 | none=>rw [hb]at hx;cases hx
 | some o=>
  rw [hb]at hx;cases o with
  | cells c t fz=>
   simp only at hx;cases hs:a.spot with
   | none=>exact⟨c,t,fz,rfl,rfl⟩
   | some s=>rw [hs]at hx;simp at hx
  | _=>cases hx
theorem aFR{b off n:Nat}{cs:List Value}{c:Array Value}{t:TypeId}{fz:Nat×Nat} (h:w.cells? 0 ⟨b,off,none⟩ n=some cs) (hb:w.heap[b]? =some (.cells c t fz)):cs.length=n/\∀(j:Nat) (v:Value),cs[j]? =some v->c[off+j]? =some v:=by
 unfold World.cells? at h;rw [aO (zT _)]at h;obtain⟨h1,h2⟩:=mapM_some h;have h1:cs.length=n:=by simpa using h1
 refine⟨h1,fun j v hv=>?_⟩;have hj:j<n:=by rw [<-h1];exact(List.getElem?_eq_some_iff.1 hv).1
 obtain⟨x,hx,hc⟩:=h2 j j (by simp [hj]);rw [hv]at hx;injection hx with hx;subst hx;rw [rN]at hc;unfold World.cell? at hc;rw [hb]at hc;simpa using hc
variable{H:Type}{enc:TypeId×Value->H}
theorem aAU{e:TypeId}{x:Nat}:∀{l:List (DataW H)} {d:DataW H},d∈l->x∈d.weights P e->x∈DataW.weightsAll P e l:=by
 intro l;induction l with
 | nil=>intro d h;cases h
 | cons y l ih=>
  intro d h hx;rw [DataW.weightsAll];rcases List.mem_cons.1 h with rfl | h
  ·exact List.mem_append.2 (.inl hx)
  ·exact List.mem_append.2 (.inr (ih h hx))
theorem aFS{g:TypeId->Option (List It)}:∀{fs:List Field} {off:Nat} {its:List It},aCw P g fs off=some its->∀(cs:List Value) (F:TypeId->List Value->Option (DataW H×List MemPlace)) (xs:List (DataW H×List MemPlace)),
 (fs.mapM fun f=>F f.type ((cs.drop f.offset).take (P.cellsOf f.type)))=some xs->cs.length=off+its.length->
 (∀(k:Nat) (f:Field) (x:DataW H×List MemPlace),fs[k]? =some f->xs[k]? =some x->∀(i:List It) (c:List Value),g f.type=some i->F f.type c=some x->uU P w c i)->uU P w (cs.drop off) its:=by
 intro fs;induction fs with
 | nil=>
  intro off its h cs F xs _ hl _;unfold aCw at h;injection h with h;subst h;rw [oW (by simp at hl;omega)];exact fun U S hl=>⟨U,S,[],[],.refl U,hl,.refl S,.nil U,rfl,rfl,fun j it v d a=>by simp at a⟩
 | cons f fs ih=>
  intro off its h cs F xs hx hl oP;unfold aCw at h;split at h
  ·rename_i aFq
   split at h
   ·rename_i i m hg hm
    split at h
    ·rename_i hmi
     cases hr:aCw P g fs (off+m)with
     | none=>rw [hr]at h;cases h
     | some rest=>
      rw [hr]at h;have h:some (i++rest)=some its:=h;injection h with h;subst h;obtain⟨x1,x2⟩:=mapM_some hx;obtain⟨x,Qz,hF⟩:=x2 0 f rfl
      have hcm:P.cellsOf f.type=m:=by
       unfold Program.cellsOf;unfold cM at hm;rw [hm];rfl
      rw [hcm,aFq]at hF;have h1:uU P w ((cs.drop off).take m) i:=oP 0 f x rfl Qz i _ hg hF
      have hxs:∃ys,xs=x::ys:=by
       cases xs with
       | nil=>simp at Qz
       | cons y ys=>simp at Qz;subst Qz;exact⟨ys,rfl⟩
      obtain⟨ys,rfl⟩:=hxs
      have hys:(fs.mapM fun f=>F f.type ((cs.drop f.offset).take (P.cellsOf f.type)))=some ys:=by
       rw [Ga]at hx;cases ha:F f.type ((cs.drop f.offset).take (P.cellsOf f.type))with
       | none=>rw [ha]at hx;cases hx
       | some y=>
        rw [ha]at hx;cases hb:(fs.mapM fun f=>F f.type ((cs.drop f.offset).take (P.cellsOf f.type)))with
        | none=>rw [hb]at hx;cases hx
        | some zs=>
         rw [hb]at hx;have hx:some (y::zs)=some (x::ys):=hx;injection hx with hx;injection hx with _ hx;rw [hx]
      have h2:=ih hr cs F ys hys (by rw [hl,kI];omega) fun k f' x' a b=>oP (k+1) f' x' (by simpa using a) (by simpa using b);have:=h1.append h2
      rwa [show(cs.drop off).take m++cs.drop (off+m)=cs.drop off by rw [<-Ac];exact List.take_append_drop _ _]at this
    ·cases h
   ·cases h
  ·cases h
end
section
variable{P:Program}{w:World}{H:Type}{enc:TypeId×Value->H}
theorem aHy{k:IntKind}{n:Int} (h:(Lit.int k n).wf=true):k.min<=n/\n<=k.max:=by
 unfold Lit.wf at h;simpa using h
theorem aFT{a:Addr}{len cap m:Nat}{e:TypeId}{its:List It}{els:List (DataW H×List MemPlace)}{F:List Value->Option (DataW H×List MemPlace)} (hm:its.length=m) (IE:0<m) (hsz:cM P e=some m) (aS5:P.cellsOf e=m) (hlc:len<=cap)
 (hel:(List.range len).mapM (fun i=>(w.cells? 0 (a.add (i*m)) m).bind F)=some els) (hN:len<=140737488355328/\len*aCx its<=140737488355328)
 (BA:cap=0\/∃c t fz,w.heap[a.block]? =some (.cells c t fz)/\a.spot=none)
 (hz:∀i,i<len*m->w.frozen? ⟨a.block,a.off+i,none⟩=false)
 (oP:∀x∈els,∀cs,F cs=some x->uU P w cs its):
 ∀(U:Rn) (S:St),Lay P w U S->∃U' S' v ds,Ext U U'/\Lay P w U' S'/\QZ S S'/\VR U' v (.slice (some a) len cap)/\Rd S' (fun _=>False) (.list its) v (.l ds):=by
 intro U S hl;rcases NP cap with hc0 | hc0
 ·have:len=0:=by omega
  subst this hc0;obtain⟨b,o,sp⟩:=a;refine⟨U,S,.slice (some ⟨b,o,some ((match sp with | none=>0 | some k=>k+1)+2)⟩) 0 0,[],.refl U,hl,.refl S,.DI ?_,.Wu⟩;cases sp<;>rfl
 ·rcases BA with BA | ⟨c,t,fz,hb,aHz⟩
  ·omega
  ·obtain⟨b,o,sp⟩:=a
   have aHz:sp=none:=aHz;subst aHz;obtain⟨h1,h2⟩:=mapM_some hel;have h1:els.length=len:=by simpa using h1
   let css:List (List Value):=(List.range len).map fun i=>(w.cells? 0 ((⟨b,o,none⟩:Addr).add (i*m)) m).getD []
   have aQU:∀i,i<len->∃cs x,css[i]? =some cs/\w.cells? 0 ⟨b,o+i*m,none⟩ m=some cs/\els[i]? =some x/\F cs=some x:=by
    intro i hi;obtain⟨x,hx,hF⟩:=h2 i i (by simp [hi]);rw [rN]at hF;cases wK:w.cells? 0 ⟨b,o+i*m,none⟩ m with
    | none=>rw [wK]at hF;cases hF
    | some cs=>
     rw [wK]at hF;refine⟨cs,x,?_,rfl,hx,hF⟩;show((List.range len).map fun i=>(w.cells? 0 ((⟨b,o,none⟩:Addr).add (i*m)) m).getD [])[i]? =some cs;rw [eH,ZX hi];show some ((w.cells? 0 ((⟨b,o,none⟩:Addr).add (i*m)) m).getD [])=some cs;rw [rN,wK];rfl
   have Bx:css.length=len:=by show((List.range len).map _).length=len;simp
   have aS6:∀cs∈css,uU P w cs its:=by
    intro cs wK;obtain⟨i,hi⟩:=ZW wK;have hil:i<len:=by rw [<-Bx];exact(List.getElem?_eq_some_iff.1 hi).1
    obtain⟨cs',x,g1,_,g3,g4⟩:=aQU i hil;rw [hi]at g1;injection g1 with g1;subst g1;exact oP x (CY g3) cs g4
   obtain⟨U1,S1,vss,YE,e1,l1,x1,n1,n2,r1,s1⟩:=aLg aS6 U S hl
   have hvl:∀vs∈vss,vs.length=m:=by
    intro vs KL;obtain⟨i,hi⟩:=ZW KL;have hil:i<YE.length:=by rw [n2,<-n1];exact(List.getElem?_eq_some_iff.1 hi).1
    rw [(s1 i vs _ hi (aT hil)).len,hm]
   have QL:=aAT hvl
   have hA:∀(j:Nat) (v:Value),vss.flatten[j]? =some v->∃v',c[o+j]? =some v'/\VR U1 v v':=by
    intro j v hj
    have hjl:j<len*m:=by
     have:=(List.getElem?_eq_some_iff.1 hj).1;rw [QL,n1,Bx]at this;exact this
    have hk:j / m<len:=Nat.div_lt_of_lt_mul (by rw [Nat.mul_comm];exact hjl);have hjm:j%m<m:=jD _ IE;have ej:j=(j / m)*m+j%m:=by rw [Nat.mul_comm];exact(Nat.div_add_mod j m).symm
    rw [ej,Ip hvl _ _ hjm]at hj;obtain⟨cs,x,g1,g2,g3,g4⟩:=aQU (j / m) hk;cases hvk:vss[j / m]? with
    | none=>rw [hvk]at hj;cases hj
    | some vs=>
     rw [hvk]at hj;have hvr:=r1 _ vs cs hvk g1;obtain⟨v',ON,hr'⟩:=hvr.get hj;obtain⟨_,q2⟩:=aFR g2 hb;have:=q2 _ _ ON;exact⟨v',by rw [uP,<-ej]at this;exact this,hr'⟩
   have hB:∀j,j<vss.flatten.length->¬(fz.1<=o+j/\o+j<fz.2):=by
    intro j hj;have hjl:j<len*m:=by rw [QL,n1,Bx]at hj;exact hj
    have:=hz j hjl;unfold World.frozen? at this;rw [hb]at this;intro⟨q1,q2⟩;simp at this;have:=this q1;omega
   obtain⟨l2,e2⟩:=l1.add vss.flatten e ⟨b,o,0,m⟩ hb hA hsz hB;have x2:=QZ.new S1 (.cells vss.flatten e .rs);refine⟨_,_,.slice (some ⟨S1.n,0,none⟩) len cap,YE,e1.trans e2,l2,x1.trans x2,?_,?_⟩
   ·have:=VR.slice (U:=U1.put S1.n ⟨b,o,0,m⟩) (o:=0) (n:=len) (c:=cap) (Rn.mQ U1 S1.n ⟨b,o,0,m⟩)
    exact this
   ·refine .row (e:=e) (ck:= .rs) rfl (xN _) (fun h=>h) uV (.inl rfl) (by rw [n2,Bx]) (by rw [QL,n1,Bx,hm];omega) (fun ds hds=>?_) hN hlc (fun k ds j it v d a1 a2 a3 a4=>?_)
    ·obtain⟨i,hi⟩:=ZW hds
     have hil:i<vss.length:=by rw [n1,<-n2];exact(List.getElem?_eq_some_iff.1 hi).1
     exact(s1 i _ ds (aT hil) hi).Wt
    ·have hjm:j<m:=by rw [<-hm];exact(List.getElem?_eq_some_iff.1 a2).1
     rw [hm,eJ,Ip hvl k j hjm]at a3;cases hk:vss[k]? with
     | none=>rw [hk]at a3;cases a3
     | some vs=>
      rw [hk]at a3;exact((s1 k vs ds hk a1).fr x2.none).rd j it v d a2 a3 a4
theorem Ww{y:Nat}:∀{fs:List Field} {xs:List (DataW H×List MemPlace)} {j:Nat} {f:Field} {x:DataW H×List MemPlace},fs[j]? =some f->xs[j]? =some x->y∈x.1.weights P f.type->y∈DataW.weightsEach P (fs.map (·.type)) (xs.map (·.1)):=by
 intro fs;induction fs with
 | nil=>intro xs j f x h;simp at h
 | cons g fs ih=>
  intro xs j f x h1 h2 h3;cases xs with
  | nil=>simp at h2
  | cons z xs=>
   rw [Ae,Ae,DataW.weightsEach];cases j with
   | zero=>simp at h1 h2;subst h1 h2;exact List.mem_append.2 (.inl h3)
   | succ j=>exact List.mem_append.2 (.inr (ih (by simpa using h1) (by simpa using h2) h3))
theorem lay (sp:Nat->Bool) (BA:∀b,sp b=true):∀(F k:Nat) (t:TypeId) (cs:List Value) (d:DataW H) (ps:List MemPlace),DataW.trod enc P w 0 sp true F t cs=some (d,ps)->(∀b off,MemPlace.cell b off∈ps->w.frozen? ⟨b,off,none⟩=false)->
 (∀x∈d.weights P t,x<=reachBytes)->∀its,aFQ P k t=some its->uU P w cs its:=by
 intro F;induction F with
 | zero=>intro k t cs d ps h;cases h
 | succ F ih=>
  intro k t cs d ps h hz hw its hi;cases k with
  | zero=>cases hi
  | succ k=>
   unfold aFQ at hi;unfold DataW.trod at h;cases hu:P.underlying t with
   | none=>rw [hu]at hi;cases hi
   | some td=>
    rw [hu]at hi h;cases td with
    | bool=>
     injection hi with hi;subst hi
     match cs,h with
     | [.bool b],_=>exact uU.plain rfl fun S=> .is
    | int kd=>
     match cs,h with
     | [.int k' n],h=>
      simp only at h;split at h
      ·rename_i hk
       obtain⟨rfl,hwf⟩:=hk;obtain⟨r1,r2⟩:=aHy hwf;cases k' with
       | u64=>
        injection hi with hi;subst hi;have r1:(0:Int)<=n:=r1;have r2:n<=18446744073709551615:=r2;obtain⟨m,rfl⟩:=Int.eq_ofNat_of_zero_le r1;exact uU.plain rfl fun S=> .num (z:=m) (by omega)
       | u8=>
        injection hi with hi;subst hi;have r1:(0:Int)<=n:=r1;have r2:n<=255:=r2;obtain⟨m,rfl⟩:=Int.eq_ofNat_of_zero_le r1;exact uU.plain rfl fun S=> .kind (z:=m) (by omega)
       | i64=>
        injection hi with hi;subst hi;have r1:(-9223372036854775808:Int)<=n:=r1;have r2:n<=9223372036854775807:=r2;exact uU.plain rfl fun S=> .int r1 (by omega)
       | _=>cases hi
      ·cases h
    | string=>
     injection hi with hi;subst hi
     match cs,h with
     | [.string s],h=>
      simp only at h;split at h
      ·injection h with h
       injection h with h _;subst h;obtain⟨⟨l⟩⟩:=s;have:=hw l.length (by simp [DataW.weights]);exact uU.plain rfl fun S=> .text (l:=l) (by unfold reachBytes at this;omega)
      ·cases h
    | slice e=>
     simp only at hi;split at hi
     ·rename_i i0 aLh m by0 hit hsz hby
      split at hi
      ·rename_i hm
       obtain⟨hm,aS7⟩:=hm;have hcell:P.cellsOf e=m:=by unfold Program.cellsOf;unfold cM at hsz;rw [hsz];rfl
       have aHA:(∀(U:Rn) (S:St),Lay P w U S->∃U' S' v ds,Ext U U'/\Lay P w U' S'/\QZ S S'/\lR U' [v] cs/\Rd S' (fun _=>False) (.list (i0::aLh)) v (.l ds))->uU P w cs its:=by
        intro Qy U S hl;obtain⟨U',S',v,ds,g1,g2,g3,g4,g5⟩:=Qy U S hl;refine⟨U',S',[v],[.l ds],g1,g2,g3,g4,?_⟩;split at hi
        ·injection hi with hi;subst hi
         exact⟨rfl,rfl,fun j it v' d' a b c=>by
          cases j with
          | zero=>simp at a b c;subst a b c;exact .Gt g5
          | succ j=>simp at a⟩
        ·injection hi with hi;subst hi
         exact⟨rfl,rfl,fun j it v' d' a b c=>by
          cases j with
          | zero=>simp at a b c;subst a b c;exact g5
          | succ j=>simp at a⟩
       match cs,h,aHA with
       | [.slice none 0 0],_,aHA=>exact aHA fun U S hl=>⟨U,S,_,[],.refl U,hl,.refl S,.cons (.flat rfl) (.nil U),.empty⟩
       | [.slice (some a) len cap],h,aHA=>
        simp only at h;split at h
        ·rename_i aQV
         rw [hcell]at h;cases aLi:(List.range len).mapM (fun i=>(w.cells? 0 (a.add (i*m)) m).bind (DataW.trod enc P w 0 sp true F e))with
         | none=>rw [aLi]at h;cases h
         | some els=>
          rw [aLi]at h;simp only [Fy,BA,if_true]at h;cases xX:(List.range (cap-len)).mapM (fun j=>(w.cells? 0 (a.add ((len+j)*m)) m).bind (DataW.trod enc P w 0 sp true F e))with
          | none=>rw [xX]at h;cases h
          | some rest=>
           rw [xX]at h;injection h with h;injection h with hd UN;subst hd UN;obtain⟨n1,n2⟩:=mapM_some aLi;obtain⟨n3,n4⟩:=mapM_some xX;have n1:els.length=len:=by simpa using n1
           have n3:rest.length=cap-len:=by simpa using n3
           have hwt:(els.length+rest.length)*P.bytesOf e<=reachBytes:=hw _ (by rw [DataW.weights,hu];simp);rw [hby,n1]at hwt
           have aOh:len*aCx (i0::aLh)<=140737488355328:=by
            unfold reachBytes at hwt;have h1:len*aCx (i0::aLh)<=len*by0.succ:=Nat.mul_le_mul_left _ aS7;have h2:len*by0.succ<=(len+rest.length)*by0.succ:=QD _ (Nat.le_add_right _ _);omega
           have aOi:len<=140737488355328:=by
            unfold reachBytes at hwt;have:len<=(len+rest.length)*by0.succ:=zR (Nat.le_add_right _ _) (Nat.le_mul_of_pos_right _ (Nat.succ_pos _));omega
           refine aHA fun U S hl=>?_
           obtain⟨U',S',v,ds,g1,g2,g3,g4,g5⟩:=aFT (F:=DataW.trod enc P w 0 sp true F e) (its:=i0::aLh) (e:=e) (by rw [hm];rfl) (by omega) hsz hcell aQV.2.1 aLi ⟨aOi,aOh⟩ (by
            rcases NP cap with h0 | h0
            ·exact .inl h0
            ·right
             rcases NP len with h1 | h1
             ·obtain⟨x,_,hx⟩:=n4 0 0 (ZX (by omega))
              cases wK:w.cells? 0 (a.add ((len+0)*m)) m with
              | none=>rw [wK]at hx;cases hx
              | some c0=>
               rw [h1]at wK;simp only [UH,Af]at wK;exact Iq (by simpa [Addr.add]using wK) (by omega)
             ·obtain⟨x,_,hx⟩:=n2 0 0 (ZX (by omega))
              cases wK:w.cells? 0 (a.add (0*m)) m with
              | none=>rw [wK]at hx;cases hx
              | some c0=>
               simp only [Af]at wK;exact Iq (by simpa [Addr.add]using wK) (by omega)) (fun i hi=>by
            refine hz a.block (a.off+i) (List.mem_append.2 (.inl ?_));unfold MemPlace.row;refine List.mem_map.2 ⟨i,List.mem_range.2 ?_,rfl⟩;rw [n1];have:len*m<=(len+rest.length)*m:=QD _ (Nat.le_add_right _ _);omega) (fun x hx cs' hF=>by
            obtain⟨dx,px⟩:=x;refine ih k e cs' dx px hF (fun b off hb=>hz b off (List.mem_append.2 (.inr (List.mem_flatMap.2 ⟨(dx,px),List.mem_append.2 (.inl hx),hb⟩)))) (fun y hy=>hw y ?_) _ hit;rw [DataW.weights,hu];exact List.mem_cons_of_mem _ (List.mem_append.2 (.inl (aAU (List.mem_map.2 ⟨(dx,px),hx,rfl⟩) hy)))) U S hl
           exact⟨U',S',v,ds,g1,g2,g3,.cons g4 (.nil U'),g5⟩
        ·cases h
      ·cases hi
     ·cases hi
    | struct fs=>
     simp only at hi h
     have hi:∃m,aCw P (aFQ P k) fs.toList 0=some its/\cM P t=some m/\m=its.length:=by
      split at hi
      ·rename_i aUz m' h1 h2
       split at hi
       ·rename_i h3
        injection hi with hi;subst hi;exact⟨m',h1,h2,h3⟩
       ·cases hi
      ·cases hi
     obtain⟨mm,hi,hsz,hmm⟩:=hi;have hct:P.cellsOf t=mm:=by unfold Program.cellsOf;unfold cM at hsz;rw [hsz];rfl
     split at h
     ·rename_i hlen
      cases hxs:(fs.toList.mapM fun f=>DataW.trod enc P w 0 sp true F f.type ((cs.drop f.offset).take (P.cellsOf f.type)))with
      | none=>rw [hxs]at h;cases h
      | some xs=>
       rw [hxs]at h;injection h with h;injection h with hd UN;subst hd UN
       have:=aFS (w:=w) hi cs (fun t c=>DataW.trod enc P w 0 sp true F t c) xs hxs (by omega) (fun j f x hf hx i c hg hF=>by
        obtain⟨dx,px⟩:=x;refine ih k f.type c dx px hF (fun b off hb=>hz b off (List.mem_flatMap.2 ⟨(dx,px),CY hx,hb⟩)) (fun y hy=>hw y ?_) i hg;rw [DataW.weights,hu];exact Ww hf hx hy)
       rwa [xO]at this
     ·cases h
    | _=>cases hi
end
end Go.Am
namespace Go.Am
open Go.RowKit Go.ChangeShapes
section
variable{H:Type}{enc:TypeId×Value->H}{P:Program}{w:World}{base fuel:Nat}{spare:Nat->Bool}{held:Bool}{t e:TypeId}{k:IntKind}{n:Nat}{cs:List Value}
theorem ints_of_trod{x:DataW H×List MemPlace} (ht:P.underlying t=some (.array n e)) (he:P.underlying e=some (.int k)) (hc:P.cellsOf e=1) (hct:P.cellsOf t=n) (h:DataW.trod enc P w base spare held fuel t cs=some x){ns:List Int}
 (hx:x.1= .agg (ns.map fun i=> .lit (.int k i))):cs=ns.map (Value.int k):=by
 obtain⟨xs,m,rfl,rfl,hlen,hn,hel⟩:=DataW.trod_array ht h;simp only [DataW.agg.injEq]at hx;have hl:xs.length=ns.length:=by have:=jY List.length hx;simpa using this
 apply xM;intro i;by_cases hi:i<n
 ·have h1:=hel i hi
  have hix:i<xs.length:=by omega
  rw [aT hix]at h1;obtain⟨j,e1,e2,_⟩:=DataW.trod_int he h1;have h2:=jY (·[i]?) hx;have Qx:i<ns.length:=by omega
  simp only [eH,aT hix,aT Qx,DA,e2,Option.some.injEq,DataW.lit.injEq,Lit.int.injEq,true_and]at h2;subst h2;rw [hc,kX]at e1;have h3:cs[i]? =((cs.drop i).take 1)[0]? :=by rw [sC,aO (by omega),qY];simp
  rw [h3,e1];simp [aT Qx]
 ·rw [FC (by omega),FC (by simp;omega)]
end
theorem var?_heap{P:Program}{w:World}{n:String}{g:Nat}{cs:Array Value} (hg:P.globalNamed n=some g) (h:w.var? P n=some cs):∃t fz,w.heap[g]? =some (.cells cs t fz):=by
 simp only [World.var?,hg,Fy]at h;split at h
 ·rename_i c t fr hb
  cases h;exact⟨t,fr,hb⟩
 ·cases h
theorem size_of_shaped{P:Program}{w:World} (h:w.ShapedOpen P){g:Nat} (hg:g<P.globals.size) (hk:(((begin P (fun _ _=>0) default).world.heap[g]?).bind Obj.row?).isSome=true):g<w.heap.size:=by
 obtain⟨⟨zero,t⟩,hz⟩:=Option.isSome_iff_exists.1 hk;obtain⟨cs,hc,_⟩:=h.1 g zero t hg hz;exact(Array.getElem?_eq_some_iff.1 hc).1
end Go.Am
namespace Go.Am
open Go.RowKit
theorem returns_open{H:Type}{enc:TypeId×Value->H}{a:Assume}{C:Checked}{os:Os}{f:FuncId}{fn:Func}{s:ChangeSpec}{X:World->Prop} (hX:∀w w':World,w.heap=w'.heap->X w->X w')
 (own:ownKnob C.prog.godebug=none) (started:os.Started) (aOv:C.prog.inits.idxOf? f=none) (hfn:C.prog.funcs[f]? =some fn)
 (witness:∃(w:World) (tape:Tape) (i:Input),w.os=os/\(w.forCall tape i).Shaped C.prog/\i.vars=[]/\Input.okWide C.prog (w.forCall tape i) .any w.heap.size f i/\
  ((s.pre enc C.prog fn [] false (w.forCall tape i).memory i.args/\X (w.forCall tape i).memory)/\sizedMet enc C.prog fn (OpenSpec.ofChange s) false (w.forCall tape i).memory i.args)/\a.holds C.prog (lone (Frame.enter C.prog f i.args .normal) [] (w.forCall tape i)))
 (aH2:∀(W:World) (base:Nat) (args:Array Value) (ds gs:List (DataW H)) (before:List MemPlace),(∀(j:Nat) t v,fn.params[j]? =some t->args[j]? =some v->Value.okWide C.prog W .any base t v)->DataW.Whole enc C.prog fn.params.toList s.vars false W args.toList ds gs before->
  (DataW.weightsEach C.prog (fn.params.toList++s.plain.varTypes C.prog) (ds++gs)).all (· <=reachBytes)=true->W.ShapedOpen C.prog->X W->
  Calls C.prog f args W fun e W'=>∃v,e= .returned v/\s.post enc C.prog fn false true false false W args v W'):
 ReturnsInHanded a C os f .any (fun w args=>(s.pre enc C.prog fn [] false w args/\X w)/\sizedMet enc C.prog fn (OpenSpec.ofChange s) false w args) (s.post enc C.prog fn false true false false):=by
 refine returnsInHanded_of_calls own started aOv witness ?_;intro w tape i _ hsh _ QC Ng _;obtain⟨_,_,_,fn',aTg,_,_,_,_,hval⟩:=QC;have e:fn'=fn:=Option.some.inj (aTg.symm.trans hfn);subst e;obtain⟨⟨⟨ds,gs,before,hw,_⟩,hx⟩,hz⟩:=Ng;have hw':=DataW.Whole.of_heap (w':=w.forCall tape i) (by rfl) hw;refine(aH2 (w.forCall tape i) w.heap.size i.args ds gs before hval hw' (hz.weights hw) hsh (hX _ _ (by rfl) hx)).mono fun e W' ⟨v,he,hp⟩=>?_;subst he;exact ChangeSpec.post_blind hp
end Go.Am
