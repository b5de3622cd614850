/- VM: one operation, and calls. -/
import Derived.Test.YtpcfidjmdfhigaaGreatDoorGc
import Derived.Test.YtpcfidjmdfhigaaGreatDoorGb
import GoSem.ClaimJoined
import Derived.OpenShut
import Derived.LaidMore
import Derived.SizedLaws
import Derived.Stop.Joined
import Derived.Handed

set_option maxRecDepth 100000
set_option linter.unusedVariables false
namespace Go.Am
open Go.RowKit Go.MapKept
section
variable{P:Program}{B:Nat->Prop}{Sb:St}{c c' d:Cx}{h h':Hp}{S S':St}{C C':Nat->Prop}
theorem Nt (s:VS P B Sb c h S) (l:bP h' h){O:Nat->Tag} (le:c.le d) (e:dN B d h'=dN B c h'){vs us:List V}{ws:List Value} (ht:∀(k:Nat) (w:Value),ws[k]? =some w->QX d S (dN B d h') (O k) w)
 (r:mA c S (dN B c h) vs ws) (hf:FzL h' h O vs us):mA d S (dN B d h') us ws:=by
 have f2:FB (dN B c h) S S (dN B d h'):=by rw [e];exact(s.drop l).2
 obtain⟨g1,g2⟩:=hf;refine⟨by rw [g1];exact r.len,fun k u w e1 e2=>?_⟩;have hk:k<vs.length:=by rw [<-g1];exact(dK.1 e1).1
 have ev:=aQ hk;have hr:=r.rd k _ w ev e2;have hz:=g2 k _ u ev e1;cases hz with
 | mI=>exact hr.mono le f2
 | ZE hfz=>
  have:=s.Cy l hfz hr;exact aPE (by rw [e];exact this) (ht k w e2)
def aKF:List Value->List Value
 | .agg ⟨a⟩::l=>a++l
 | _=>[]
def aCx:Value->List Value
 | .agg ⟨l⟩=>l
 | .tuple ⟨l⟩=>l++aKF l
 | w=>[w]
theorem aPF (s:VS P B Sb c h S) (l:bP h' h){v:V}{w:Value}{u:(Nat->Tag)->V} (r:fO c S (dN B c h) v w) (hf:∀O,Fz h' h O v (u O)):
 ∃d O,c.le d/\VS P B Sb d h' S/\FB (dN B c h) S S (dN B d h')/\fO d S (dN B d h') (u O) w:=by
 obtain⟨s1,f1⟩:=s.drop l;obtain⟨d,O,le,s2,e,ht⟩:=s1.names (aCx w);have f2:FB (dN B c h) S S (dN B d h'):=by rw [e];exact f1
 refine⟨d,O,le,s2,f2,?_⟩;have hz:=hf O;generalize u O=x at hz;cases hz with
 | one hz=>
  cases hz with
  | mI=>exact r.mono le f2
  | ZE hfz=>
   have hd:=s.Cy l hfz r;have hp:aCx w=[w]:=by cases hd<;>rfl
   exact aPE (by rw [e];exact hd) (ht 0 w (by rw [hp];rfl))
 | agg hz=>
  cases r with
  | agg la ha=>
   have:=Nt s l le e ht ⟨la,ha⟩ hz;exact .agg this.len this.rd
 | tup hz=>
  cases r with
  | @tuple a a' la ha=>
   have ht:∀(k:Nat) (w:Value),(a'++aKF a')[k]? =some w->QX d S (dN B d h') (O k) w:=ht;have:=Nt s l le e (ws:=a') (fun k w hk=>ht k w (by rw [gV (dK.1 hk).1];exact hk)) ⟨la,ha⟩ hz;exact .tuple this.len this.rd
 | @aRt as bs vs us hl hz=>
  cases r with
  | @tuple _ a' la ha=>
   have ht:∀(k:Nat) (w:Value),(a'++aKF a')[k]? =some w->QX d S (dN B d h') (O k) w:=ht;cases a' with
   | nil=>cases la
   | cons w0 rest=>
    have h0:=ha 0 _ w0 rfl rfl;cases h0 with
    | @agg _ as' la0 ha0=>
     have hr:vs.length=rest.length:=by simpa using la
     have Th:mA c S (dN B c h) (as++vs) (as'++rest):=by
      refine⟨by rw [jZ,jZ,la0,hr],fun k v w e1 e2=>?_⟩;rcases BO k as.length with hk | hk
      ·rw [gV hk]at e1
       rw [gV (by omega)]at e2;exact ha0 k v w e1 e2
      ·rw [kQ hk]at e1
       rw [kQ (by omega)]at e2;refine ha (k-as.length+1) v w ?_ ?_
       ·rw [Bs];exact e1
       ·rw [Bs,la0];exact e2
     have:=Nt s l le e (O:=fun k=>O (k+(vs.length+1))) (ws:=as'++rest) (fun k w hk=>ht (k+(vs.length+1)) w (by
      rw [kQ (by rw [oN];omega),oN,hr,Nat.add_sub_cancel];exact hk)) Th hz
     have lb:us.length=rest.length:=by
      have:=this.len;rw [jZ,jZ,hl,la0]at this;omega
     refine .tuple (by rw [oN,oN,lb]) fun k v w e1 e2=>?_;cases k with
     | zero=>
      injection e1 with e1;injection e2 with e2;subst e1 e2;refine .agg (by rw [hl,la0]) fun k v w e1 e2=>this.rd k v w ?_ ?_
      ·rw [gV (dK.1 e1).1];exact e1
      ·rw [gV (dK.1 e2).1];exact e2
     | succ k=>
      rw [Bs]at e1 e2;refine this.rd (bs.length+k) v w ?_ ?_
      ·rw [kQ (by omega),aC6];exact e1
      ·rw [kQ (by rw [hl,la0];omega),hl,la0,aC6];exact e2
structure ER (P:Program) (B:Nat->Prop) (Sb:St) (Ev:VE) (E:Env):Prop where
 eP:E.P=P
 eM:Ev.most=E.most
 eC:∀(f:FuncId) {args:List V} {ws:List Value} {c:Cx} {h:Hp} {S:St} {Kv:KV} {K:VK},VS P B Sb c h S->mA c S (dN B c h) args ws->KR P B Sb c h S Kv K->Ev.C f args h Kv->E.call f ws S K=true
 eR:∀(l b:Nat) {args:List V} {ws:List Value} {c:Cx} {h:Hp} {S:St} {Kv:KV} {K:VK},VS P B Sb c h S->c.Z l=some b->mA c S (dN B c h) args ws->KR P B Sb c h S Kv K->Ev.R l args h Kv->E.round b ws S K=true
theorem ER.aF8{Ev:VE}{E:Env} (r:ER P B Sb Ev E) (f:FuncId){args:List V}{ws:List Value}{Kv:KV}{K:VK} (s:VS P B Sb c h S) (ra:mA c S (dN B c h) args ws) (k:KR P B Sb c h S Kv K) (hv:Ev.call f args h Kv):E.call f ws S K=true:=by
 obtain⟨h',us,l,hf,hv⟩:=hv;obtain⟨s1,f1⟩:=s.drop l;obtain⟨d,O,le,s2,e,ht⟩:=s1.names ws;have f2:FB (dN B c h) S S (dN B d h'):=by rw [e];exact f1
 exact r.eC f s2 (Nt s l le e ht ra (hf O)) (fun c' h' S' v w a b=>k c' h' S' v w (le.trans a) (f2.trans b)) (hv O)
theorem aHB{Ev:VE}{E:Env} (r:ER P B Sb Ev E){A:VA}{A':bA} (s:VS P B Sb c h S) (a:AR c S (dN B c h) A A'){cl:Call}{Kv:KV}{K:VK} (k:KR P B Sb c h S Kv K) (hv:(aKg P cl).f Ev A h Kv):nF E A' cl S K=true:=by
 have hP:=r.eP;subst hP;unfold aKg at hv;split at hv
 ·rename_i hc
  split at hv
  ·rename_i t x ht ha
   unfold nF;rw [hc,ha,ht];simp only [WC,bU,wC];split at hv
   ·rename_i _ _ e hs
    refine cE a hv fun v w rv hv=>?_;rw [aIM hs];exact aHy s rv (fun v w rv h=>k.here s rv h) hv
   ·rename_i _ _ hs hu
    refine cE a hv fun v w rv hv=>?_;rw [aIN hu];exact aHz rv (fun v w rv h=>k.here s rv h) hv
   ·rename_i _ _ kt et hs hu
    refine cE a hv fun v w rv hv=>?_;exact aHC s hu rv k hv
   ·cases hv
  ·cases hv
 ·rename_i hc
  split at hv
  ·rename_i sT xT x y ht ha
   unfold nF;rw [hc,ha,ht];simp only [WC,bU,wC];split at hv
   ·rename_i el hs hx
    split at hv
    ·rename_i info hi
     split at hv
     ·rename_i n z hn hz
      split at hv
      ·rename_i Yh hsz
       have hsz:cQ E.P el=some (n+1):=by
        have:=dI hsz;cases hq:cQ E.P el with
        | none=>rw [hq]at this;simp at this
        | some m=>rw [hq]at this;simp at this;rw [this]
       refine cE a hv fun v w rv hv=>?_;refine cE a hv fun v2 w2 ZG hv=>?_;show RW E.P [sT,xT] w w2 S K=true;rw [Wg hs hx hi hn hz Yh];exact aKx s (by omega) hsz rv ZG k hv
      ·cases hv
     ·cases hv
    ·cases hv
   ·cases hv
  ·cases hv
 ·rename_i hc
  split at hv
  ·rename_i x y ha
   unfold nF;rw [hc,ha];simp only [WC,bU,wC];refine cE a hv fun v w rv hv=>?_;refine cE a hv fun v2 w2 ZG hv=>?_;exact aCw (big:=false) rv ZG (fun v w rv h=>k.here s rv h) hv
  ·cases hv
 ·rename_i hc
  split at hv
  ·rename_i x y ha
   unfold nF;rw [hc,ha];simp only [WC,bU,wC];refine cE a hv fun v w rv hv=>?_;refine cE a hv fun v2 w2 ZG hv=>?_;exact aCw (big:=true) rv ZG (fun v w rv h=>k.here s rv h) hv
  ·cases hv
 ·rename_i hc
  split at hv
  ·rename_i t x ht ha
   unfold nF;rw [hc,ha,ht];simp only [WC,bU,wC];split at hv
   ·rename_i el hs
    split at hv
    ·rename_i m zero hsz hz
     split at hv
     ·rename_i hl hf
      refine cE a hv fun v w rv hv=>?_;exact aEu s hs hsz hz hl hf rv (fun h' S' f s' hv=>k c h' S' YA (.tuple #[]) (.refl c) f s' (.tuple (a':=[]) rfl fun k v w e=>by simp at e) hv) hv
     ·cases hv
    ·cases hv
   ·cases hv
  ·cases hv
 ·rename_i hc
  split at hv
  ·rename_i dT ts x y ht ha
   unfold nF;rw [hc,ha,ht];simp only [WC,bU,wC];split at hv
   ·rename_i el hs
    split at hv
    ·rename_i m hsz
     refine cE a hv fun v w rv hv=>?_;refine cE a hv fun v2 w2 ZG hv=>?_;exact aHA (ts:=ts) s hs hsz rv ZG k hv
    ·cases hv
   ·cases hv
  ·cases hv
 ·cases hv
 ·rename_i f hc
  unfold nF;rw [hc];refine Gw a hv fun vs ws ra hv=>?_;refine cE a hv fun v w rv hv=>?_;unfold lJ at hv;split at hv
  ·cases rv with
   | func la ld ha hd=>
    show(FV _ ws fun l=>FV l _ fun l=>E.call _ l S K)=true;rw [nI,nI];exact r.aF8 _ s ((mA.app ⟨la,ha⟩ ra).app ⟨ld,hd⟩) k hv
  ·cases rv with
   | yield e=>exact r.eR _ _ s e ra k hv
  ·cases hv
 ·rename_i rc m hc
  unfold nF;rw [hc];refine Gw a hv fun vs ws ra hv=>?_;refine cE a hv fun v w rv hv=>?_;unfold aRk at hv;split at hv
  ·rename_i t v'
   split at hv
   ·rename_i g hg
    cases rv with
    | iface rv=>
     show(match KX E.P t m with | some g=>E.call g _ S K | none=>false)=true;rw [hg];exact r.aF8 _ s (.cons rv ra) k hv
   ·cases hv
  ·cases hv
theorem OG{A:VA}{A':bA} (a:AR c S C A A'){x:Option Operand}{k:Option V->Prop}{k':Option Value->Bool} (hv:(evO x).f A k) (hk:∀o o',OR' c S C o o'->k o->k' o'=true):Cj A' x k'=true:=by
 cases x with
 | none=>exact hk _ _ .none hv
 | some x=>exact cE a hv fun v w rv hv=>hk _ _ (.some rv) hv
theorem aEv{A:VA}{A':bA} (s:VS P B Sb c h S) (a:AR c S (dN B c h) A A'){Ev:VE}{t:TypeId}{x:Operand}{lo hi mx:Option Operand}{Kv:KV}{K:VK} (k:∀v w,fO c S (dN B c h) v w->Kv v h->K w S=true) (hv:(aEk P t x lo hi mx).f Ev A h Kv):
 wA A' x (fun x=>Cj A' lo fun lo=>Cj A' hi fun hi=>Cj A' mx fun mx=>vI P t x lo hi mx S fun v=>K v S)=true:=by
 unfold aEk at hv;split at hv
 ·rename_i el he
  split at hv
  ·rename_i size hs
   refine cE a hv fun v w rv hv=>?_;refine OG a hv fun o1 o1' r1 hv=>?_;refine OG a hv fun o2 o2' r2 hv=>?_;refine OG a hv fun o3 o3' r3 hv=>?_;exact aKB s he hs rv r1 r2 r3 k hv
  ·cases hv
 ·split at hv
  ·rename_i hu
   split at hv
   ·refine cE a hv fun v w rv hv=>?_
    refine OG a hv fun o1 o1' r1 hv=>?_;refine OG a hv fun o2 o2' r2 hv=>?_;exact aKE hu rv r1 r2 k hv
   ·cases hv
  ·rename_i len el hu
   split at hv
   ·rename_i size hs
    refine cE a hv fun v w rv hv=>?_;refine OG a hv fun o1 o1' r1 hv=>?_;refine OG a hv fun o2 o2' r2 hv=>?_;refine OG a hv fun o3 o3' r3 hv=>?_;exact aKD hu hs rv r1 r2 r3 k hv
   ·cases hv
  ·cases hv
theorem Rv{A:VA}{A':bA} (s:VS P B Sb c h S) (a:AR c S (dN B c h) A A'){Ev:VE}{t:TypeId}{x y:Operand}{Kv:KV}{K:VK} (k:KR P B Sb c h S Kv K) (hv:(Dh P t x y).f Ev A h Kv):
 wA A' x (fun l=>wA A' y fun c=>xW P t l c S K)=true:=by
 unfold Dh at hv;split at hv
 ·rename_i el he
  split at hv
  ·rename_i info zero hi hz
   split at hv
   ·rename_i n hl hn hf
    refine cE a hv fun v w rv hv=>?_;refine cE a hv fun v2 w2 ZG hv=>?_;exact aM0 s he hi hz hl hn hf rv ZG k hv
   ·cases hv
  ·cases hv
 ·cases hv
theorem aCy{A:VA}{A':bA} (s:VS P B Sb c h S) (a:AR c S (dN B c h) A A'){Ev:VE}{t:TypeId}{x ix:Operand}{ok:Bool}{Kv:KV}{K:VK} (k:KR P B Sb c h S Kv K) (hv:(aAA P t x ix ok).f Ev A h Kv):
 wA A' x (fun x=>wA A' ix fun ix=>YV P t x ix ok S K)=true:=by
 unfold aAA at hv;split at hv
 ·rename_i kt et ht
  split at hv
  ·rename_i sh z hs hz
   split at hv
   ·rename_i zv hzv
    refine cE a hv fun v w rv hv=>?_;refine cE a hv fun v2 w2 ZG hv=>?_;exact aHD s ht hs hz hzv rv ZG k hv
   ·cases hv
  ·cases hv
 ·cases hv
theorem Rw{A:VA}{A':bA} (s:VS P B Sb c h S) (a:AR c S (dN B c h) A A'){Ev:VE}{t:TypeId}{m x y:Operand}{Kv:KV}{K:VK} (k:KR P B Sb c h S Kv K) (hv:(aAB P t m x y).f Ev A h Kv):
 wA A' m (fun m=>wA A' x fun x=>wA A' y fun y=>FZ P t m x y S fun S=>K undef S)=true:=by
 unfold aAB at hv;split at hv
 ·rename_i kt et ht
  split at hv
  ·rename_i sh hs
   refine cE a hv fun v w rv hv=>?_;refine cE a hv fun v2 w2 ZG hv=>?_;refine cE a hv fun v3 w3 rv3 hv=>?_;exact aEw s ht hs rv ZG rv3 k hv
  ·cases hv
 ·cases hv
theorem Gy{Ev:VE}{E:Env} (r:ER P B Sb Ev E){A:VA}{A':bA} (s:VS P B Sb c h S) (a:AR c S (dN B c h) A A'){o:Oper}{Kv:KV}{K:VK} (k:KR P B Sb c h S Kv K) (hv:(opV P o).f Ev A h Kv):AN E o A' S K=true:=by
 have kh:∀v w,fO c S (dN B c h) v w->Kv v h->K w S=true:=fun v w rv hk=>k.here s rv hk;unfold opV at hv;have hP:=r.eP;subst hP;split at hv<;>rename_i Pl<;>try (unfold AN;rw [Pl])
 ·exact cE a hv kh
 ·exact cE a hv kh
 ·refine cE a hv fun v w rv hv=>?_
  refine cE a hv fun v1 w1 rv1 hv=>?_;refine cE a hv fun v2 w2 ZG hv=>?_;rw [aF]at hv;unfold Wo at hv;split at hv
  ·rename_i b hva hvb
   cases rv;cases b with
   | true=>exact kh _ _ rv1 hv
   | false=>exact kh _ _ ZG hv
  ·cases hv
 ·split at hv
  ·rename_i z hz
   split at hv
   ·rename_i hf
    show WE E.P _ S K=true;rw [aBS hz hf];exact aEo s k hv
   ·cases hv
  ·cases hv
 ·exact cE a hv fun v w rv hv=>aKs s rv k hv
 ·have hx:(opX E.P o).f E A' S K=AN E o A' S K:=XK E o A' S K
  unfold AN at hx;rw [Pl]at hx;simp only at hx ⊢;rw [<-hx];unfold opX;rw [Pl];simp only;split at hv
  ·rename_i zero fields hz hu
   try simp only [hz,hu]
   split at hv
   ·rename_i pl hp
    try simp only [hp]
    split at hv
    ·rename_i hf ha
     try simp only [hf,ha]
     exact Dj a hv fun l l' hl hv=>Rs s hl kh hv
    ·cases hv
   ·cases hv
  ·rename_i zero n elem hz hu
   try simp only [hz,hu]
   split at hv
   ·rename_i size hs
    try simp only [hs]
    split at hv
    ·rename_i hf
     try simp only [hf]
     exact Dj a hv fun l l' hl hv=>Rs s hl kh hv
    ·cases hv
   ·cases hv
  ·cases hv
 ·have hx:(opX E.P o).f E A' S K=AN E o A' S K:=XK E o A' S K
  unfold AN at hx;rw [Pl]at hx;simp only at hx ⊢;rw [<-hx];unfold opX;rw [Pl];simp only;split at hv
  ·rename_i elem hs
   try simp only [hs]
   split at hv
   ·rename_i size zero hz My
    try simp only [hz,My]
    split at hv
    ·rename_i h1 h2
     try simp only [h1,h2]
     split at hv
     ·rename_i hf
      try simp only [hf]
      rw [HD];refine Dj a hv fun l l' hl hv=>?_;have:=aCs (Sb:=Sb) (B:=B) s hl k hv;unfold Zt at this
      rwa [HD]at this
     ·cases hv
    ·cases hv
   ·cases hv
  ·cases hv
 ·split at hv
  ·rename_i h1
   refine cE a hv fun v w rv hv=>?_;show PT E.P _ w S K=true;rw [Is h1];exact aF7 s rv kh hv
  ·rename_i n h1 h2
   refine cE a hv fun v w rv hv=>?_;show PT E.P _ w S K=true;rw [Iu h1 h2];exact aCr s (by omega) rv kh hv
  ·cases hv
 ·split at hv
  ·rename_i n h1
   refine cE a hv fun v w rv hv=>?_;refine cE a hv fun v2 w2 ZG hv=>?_;show Ch E.P _ w w2 S _=true;rw [aBR h1];refine aMY s rv ZG (fun h' S' f s' hk=>?_) hv;exact k c h' S' YA undef (.refl c) f s' (.tuple (a':=[]) rfl fun k v w e=>by simp at e) hk
  ·cases hv
 ·refine cE a hv fun v w rv hv=>?_
  show aMa E.P w (fun v=>K v S)=true;exact aKy rv kh hv
 ·split at hv
  ·refine cE a hv fun v w rv hv=>?_
   refine cE a hv fun v2 w2 ZG hv=>?_;rw [<-SU];exact aKG rv ZG kh hv
  ·refine cE a hv fun v w rv hv=>?_
   refine cE a hv fun v2 w2 ZG hv=>?_;rw [<-SU];exact aKz s.Gs rv ZG kh hv
 ·exact cE a hv fun v w rv hv=>aMZ rv kh hv
 ·split at hv
  ·rename_i j kk h1 h2
   refine cE a hv fun v w rv hv=>?_;rw [aFl h1 h2];exact aKw rv kh hv
  ·cases hv
 ·split at hv
  ·rename_i t x hv0 hi
   refine cE a hv fun v w rv hv=>?_;unfold aCm at hi;split at hi
   ·cases hi
   ·rename_i d hd hu
    have hw:=kh _ _ (.iface (t:=t) rv) hv
    try simp only [hu]
    cases d<;>first | exact hw | exact(hd _ rfl).elim
   ·cases hi
  ·cases hv
 ·split at hv
  ·refine Gw a hv fun vs ws ra hv=>?_
   refine Gw a hv fun vs2 ws2 ra2 hv=>?_;exact kh _ _ (.func ra.len ra2.len ra.rd ra2.rd) hv
  ·split at hv
   ·rename_i x h1 h2
    try simp only [h1,h2]
    exact cE a hv fun v w rv hv=>kh _ _ (.LC rv) hv
   ·cases hv
  ·cases hv
 ·split at hv
  ·rename_i fd hf
   split at hv
   ·rename_i n hn
    refine cE a hv fun v w rv hv=>?_;rw [Fh hf hn];exact aKt rv kh hv
   ·cases hv
  ·cases hv
 ·split at hv
  ·rename_i fd hf
   split at hv
   ·rename_i h1
    refine cE a hv fun v w rv hv=>?_;rw [Qk hf h1];exact aEp rv kh hv
   ·rename_i n h1 h2
    refine cE a hv fun v w rv hv=>?_;rw [Qm hf h1 h2];exact aCt rv kh hv
   ·cases hv
  ·cases hv
 ·split at hv
  ·rename_i el he
   split at hv
   ·rename_i n hn
    refine cE a hv fun v w rv hv=>?_;refine cE a hv fun v2 w2 ZG hv=>?_;rw [Fj he hn];exact aKu s rv ZG kh hv
   ·cases hv
  ·cases hv
 ·split at hv
  ·rename_i hu
   refine cE a hv fun v w rv hv=>?_;refine cE a hv fun v2 w2 ZG hv=>?_;rw [aBU hu];exact aEq rv ZG kh hv
  ·cases hv
 ·split at hv
  ·rename_i t x lo hi mx _ hb
   have:=aEv s a kh hv;unfold aNY at hb;cases mx<;>cases hi<;>first | exact this | cases hb
  ·cases hv
 ·exact Rv s a k hv
 ·exact Le s k hv
 ·split at hv
  ·rename_i kv ht
   refine cE a hv fun v w rv hv=>?_;exact aAH s rv ht k hv
  ·cases hv
 ·split at hv
  ·rename_i kv ht
   refine cE a hv fun v w rv hv=>?_;exact aCz s ht rv k hv
  ·cases hv
 ·refine cE a hv fun v w rv hv=>?_
  exact aEx s rv k hv
 ·refine cE a hv fun v w rv hv=>?_
  exact aCA s rv k hv
 ·exact aCy s a k hv
 ·exact Rw s a k hv
 ·exact Rw s a k hv
 ·refine cE a hv fun v w rv hv=>?_
  show aIS _ w (fun v=>K v S)=true;exact aKv rv kh hv
 ·exact aHB r s a k hv
 ·cases hv
end
section
variable{P:Program}{B:Nat->Prop}{Sb:St}{c c' d:Cx}{h h':Hp}{S S':St}{C C':Nat->Prop}
def KSR (P:Program) (B:Nat->Prop) (Sb:St) (c:Cx) (h:Hp) (S:St) (kv:KSV) (k:bA->St->Bool):Prop:=
 ∀c' h' S' A A',c.le c'->FB (dN B c h) S S' (dN B c' h')->VS P B Sb c' h' S'->AR c' S' (dN B c' h') A A'->kv A h'->k A' S'=true
theorem KSR.mono{kv:KSV}{k:bA->St->Bool} (q:KSR P B Sb c h S kv k) (l:c.le c') (f:FB (dN B c h) S S' (dN B c' h')):KSR P B Sb c' h' S' kv k:=
 fun c2 h2 S2 A A' l2 f2=>q c2 h2 S2 A A' (l.trans l2) (f.trans f2)
theorem Rx (s:VS P B Sb c h S){v:V}{w:Value} (r:fO c S C v w) (ho:Nq v=true) (n:Nat):Kf n w w=true:=by
 have RO:∀b o n m,Es (.slice (some ⟨b,o,none⟩) n m) (.slice (some ⟨b,o,none⟩) n m)=true:=fun b o n m=>by
  show((Nat.beq b b&&Nat.beq o o)&&(Nat.beq n n&&Nat.beq m m))=true;simp
 have hs0:∀b o n m,Es (.slice (some ⟨b,o,some 0⟩) n m) (.slice (some ⟨b,o,some 0⟩) n m)=true:=fun b o n m=>by
  show((Nat.beq b b&&Nat.beq o o)&&(Nat.beq n n&&Nat.beq m m))=true;simp
 have hse:∀b o s,Es (.slice (some ⟨b,o,some (s+2)⟩) 0 0) (.slice (some ⟨b,o,some (s+2)⟩) 0 0)=true:=fun b o s=>by
  show((Nat.beq b b&&Nat.beq o o)&&Nat.beq s s)=true;simp
 have Vz:∀b o,Es (.pointer (some ⟨b,o,none⟩)) (.pointer (some ⟨b,o,none⟩))=true:=fun b o=>by
  show(Nat.beq b b&&Nat.beq o o)=true;simp
 have hmp:∀b,Es (.map (some b)) (.map (some b))=true:=fun b=>by
  show Nat.beq b b=true;simp
 cases r with
 | @int k z=>cases n<;>exact aG8 k z
 | @bool b=>cases n<;>cases b<;>rfl
 | str=>cases n<;>(show Ov _ _=true;rw [SC];simp)
 | list ht hd=>
  cases hd with
  | nil=>cases n<;>rfl
  | emp=>cases n<;>exact hse _ _ _
  | @row b o n' cc sp _ _ _ _ AW _ _ _ _ _ _=>
   match sp,AW with
   | none,_=>cases n<;>exact RO _ _ _ _
   | some 0,_=>cases n<;>exact hs0 _ _ _ _
 | nU=>cases n<;>exact Vz _ _
 | wM=>cases n<;>exact Vz _ _
 | nil=>cases n<;>rfl
 | acc e=>obtain⟨b,rfl⟩:=s.Gs _ _ _ e;cases n<;>exact hs0 _ _ _ _
 | own=>cases n<;>exact RO _ _ _ _
 | IN=>cases n<;>exact hs0 _ _ _ _
 | ptr=>cases n<;>exact Vz _ _
 | Ma=>cases n<;>rfl
 | Uv=>cases n<;>rfl
 | Je=>cases n<;>rfl
 | Ri=>cases n<;>rfl
 | yZ=>cases n<;>exact hmp _
 | _=>cases ho
theorem Nu{p:V->Bool}{q:Value->Prop}{a:List V}{a':List Value} (r:mA c S C a a') (hp:a.all p=true) (hq:∀v w,fO c S C v w->p v=true->q w):∀w∈a',q w:=by
 intro w hw;obtain⟨k,hk⟩:=Bt hw;have hlt:=(dK.1 hk).1;have hl:=r.len;exact hq a[k] w (r.rd k a[k] w (aQ (by omega)) hk) (dL.1 hp _ (cJ (by omega)))
theorem Ry{f:Value->Value->Bool}:∀{l:List Value},(∀w∈l,f w w=true)->KF f l l=true:=by
 intro l;induction l with
 | nil=>intro _;rfl
 | cons x l ih=>
  intro h;show(f x x&&KF f l l)=true;rw [h x (.head _),ih fun y hy=>h y (.tail _ hy)];rfl
theorem aCB (s:VS P B Sb c h S){v:V}{w:Value} (r:fO c S C v w) (ho:Nr v=true):aBp w w=true:=by
 unfold Nr at ho;split at ho
 ·rename_i f a d
  rw [dR]at ho;cases r with
  | @func _ _ _ a' d' la ld ha hd=>
   show(Nat.beq f f&&(KF (Kf 2) a' a'&&KF (Kf 2) d' d'))=true;rw [Ry (Nu (⟨la,ha⟩:mA c S C a a') ho.1 fun v w r o=>Rx s r o 2),Ry (Nu (⟨ld,hd⟩:mA c S C d d') ho.2 fun v w r o=>Rx s r o 2)];simp
 ·exact Rx s r ho 3
theorem aCC (s:VS P B Sb c h S){v:V}{w:Value} (r:fO c S C v w) (ho:Ns v=true):Kg w w=true:=by
 unfold Ns at ho;split at ho
 ·rename_i cs
  cases r with
  | @agg _ a' la ha=>
   show Vv a' a'=true;have rY:=Nu (⟨la,ha⟩:mA c S C cs a') ho fun v w r o=>aCB s r o;clear la ha;induction a' with
   | nil=>rfl
   | cons x l ih=>
    show(aBp x x&&Vv l l)=true;rw [rY x (.head _),ih fun y hy=>rY y (.tail _ hy)];rfl
 ·rename_i oX
  have h0:=aCB s r ho;cases w<;>first | exact h0 | (cases r<;>first | exact aX rfl (oX _) | (rename_i e;obtain⟨b,e⟩:=s.Gs _ _ _ e;cases e) | (rename_i ht hd;cases hd))
theorem aKH (s:VS P B Sb c h S){v:V}{w:Value} (r:fO c S C v w) (ho:BY v=true):UB w w=true:=by
 unfold BY at ho;split at ho
 ·rename_i cs
  cases r with
  | @tuple _ a' la ha=>
   show Ii a' a'=true;have rY:=Nu (⟨la,ha⟩:mA c S C cs a') ho fun v w r o=>aCC s r o;clear la ha;induction a' with
   | nil=>rfl
   | cons x l ih=>
    show(Kg x x&&Ii l l)=true;rw [rY x (.head _),ih fun y hy=>rY y (.tail _ hy)];rfl
 ·rename_i oX
  have h0:=aCC s r ho;cases w<;>first | exact h0 | (cases r<;>first | exact aX rfl (oX _) | (rename_i e;obtain⟨b,e⟩:=s.Gs _ _ _ e;cases e) | (rename_i ht hd;cases hd))
theorem Rz{ops:Array Oper}{o:Oper}{A:bA}{k:Bool->Bool} (hg:o.guard=none):DO ops o A k=k true:=by
 unfold DO;rw [hg]
theorem aF9{ops:Array Oper}{o o':Oper}{A:bA}{k:Bool->Bool}{j:Nat}{w:Bool}{g:Tmp} (hg:o.guard=some (j,w)) (hj:ops[j]? =some o') (hd:o'.dst=some g):DO ops o A k=YU A.tmps g fun v=>Ku w v k:=by
 unfold DO;rw [hg];simp only [hj,hd];rfl
theorem Xe{w:Bool}{v:V}{u:Value} (r:fO c S C v u){k:Bool->Prop} (hv:aKc w v k):∃b,k b/\∀K:Bool->Bool,Ku w u K=K b:=by
 cases r with
 | @bool b=>cases b<;>cases w<;>exact⟨_,hv,fun K=>rfl⟩
 | @tuple a a' la ha=>
  cases a with
  | nil=>exact⟨false,hv,fun K=>rfl⟩
  | cons x l=>cases hv
 | _=>cases hv
theorem aKI{A:VA}{A':bA} (a:AR c S (dN B c h) A A') (s:VS P B Sb c h S){o:Oper}{kv:KSV}{k:bA->St->Bool} (hk:KSR P B Sb c h S kv k){v:V}{w:Value} (r:fO c S (dN B c h) v w)
 (hv:match o.dst with | some d=>Rr A d v (fun A=>kv A h) | none=>kv A h):mV A' o.dst w (fun A=>k A S)=true:=by
 cases hd:o.dst with
 | none=>rw [hd]at hv;exact hk c h S A A' (.refl c) (.refl _ S) s a hv
 | some d=>rw [hd]at hv;exact Xc a r hv fun X X' x hx=>hk c h S X X' (.refl c) (.refl _ S) s x hx
theorem aPG:fO c S C YA undef:= .tuple (a':=[]) rfl fun k v w e=>by simp at e
theorem Gz{Ev:VE}{E:Env} (r:ER P B Sb Ev E){A:VA}{A':bA} (s:VS P B Sb c h S) (a:AR c S (dN B c h) A A'){ops:Array Oper}{o:Oper}{kv:KSV}{k:bA->St->Bool} (hk:KSR P B Sb c h S kv k) (hv:(doV P ops o).f Ev A h kv):Ck E ops o A' S k=true:=by
 have beh:∀{c' h' S' v w},c.le c'->FB (dN B c h) S S' (dN B c' h')->VS P B Sb c' h' S'->fO c' S' (dN B c' h') v w->(match o.dst with | some d=>Rr A d v (fun A=>kv A h') | none=>kv A h')->mV A' o.dst w (fun A=>k A S')=true:=
  fun l f s' rv hv=>aKI (a.mono l f) s' (hk.mono l f) rv hv
 unfold doV at hv;unfold Ck;cases hg:o.guard with
 | none=>
  rw [hg]at hv;rw [Rz hg];simp only at hv;show AN E o A' S (fun v S=>mV A' o.dst v fun A=>k A S)=true;unfold aNZ at hv;cases hd:o.dst with
  | none=>
   rw [hd]at hv;exact Gy r s a (fun c' h' S' v w l f s' rv hv=>by have:=beh l f s' rv (by rw [hd];exact hv);rwa [hd]at this) hv
  | some d=>
   rw [hd]at hv;exact Gy r s a (fun c' h' S' v w l f s' rv hv=>by have:=beh l f s' rv (by rw [hd];exact hv);rwa [hd]at this) hv
 | some jw=>
  obtain⟨j,w⟩:=jw;rw [hg]at hv;simp only at hv;cases hj:ops[j]? with
  | none=>simp only [hj]at hv
  | some o'=>
   simp only [hj]at hv;cases hg':o'.dst with
   | none=>simp only [hg']at hv
   | some g=>
    simp only [hg']at hv;rw [aF9 hg hj hg']
    have key:∀(v:V) (u:Value) (q:KV),(∀{c' h' S' v w},c.le c'->FB (dN B c h) S S' (dN B c' h')->VS P B Sb c' h' S'->fO c' S' (dN B c' h') v w->q v h'->mV A' o.dst w (fun A=>k A S')=true)->fO c S (dN B c h) v u->PF w v (fun k=>(opV P o).f Ev A h k) h q->
     Ku w u (fun b=>gE b (AN E o A' S fun v S=>mV A' o.dst v fun A=>k A S) (mV A' o.dst undef fun A=>k A S))=true:=by
     intro v u q hq rv hv;obtain⟨b,hb,e⟩:=Xe rv hv;rw [e];cases b with
     | true=>exact Gy r s a (fun c' h' S' v w l f s' rv hv=>hq l f s' rv hv) hb
     | false=>exact hq (.refl c) (.refl _ S) s aPG hb
    cases hd:o.dst with
    | none=>
     rw [hd]at hv;refine EO a hv fun v u rv hv=>?_;rw [aF]at hv;have:=key v u _ (fun l f s' rv hv=>beh l f s' rv (by rw [hd];exact hv)) rv hv
     rwa [hd]at this
    | some dd=>
     rw [hd]at hv;refine EO a hv fun v u rv hv=>?_;rw [aF]at hv;have:=key v u _ (fun l f s' rv hv=>beh l f s' rv (by rw [hd];exact hv)) rv hv
     rwa [hd]at this
theorem aKJ{Ev:VE}{E:Env} (r:ER P B Sb Ev E){ops:Array Oper}:∀{l:List Oper} {c:Cx} {h:Hp} {S:St} {A:VA} {A':bA} {kv:KSV} {k:bA->St->Bool},VS P B Sb c h S->AR c S (dN B c h) A A'->KSR P B Sb c h S kv k->(opsV P ops l).f Ev A h kv->ZT E ops l A' S k=true:=by
 intro l;induction l with
 | nil=>intro c h S A A' kv k s a hk hv;exact hk c h S A A' (.refl c) (.refl _ S) s a hv
 | cons o l ih=>
  intro c h S A A' kv k s a hk hv;have hv:(doV P ops o).f Ev A h (fun A S=>(opsV P ops l).f Ev A S kv):=hv;show Ck E ops o A' S (ZT E ops l · · k)=true;exact Gz r s a (fun c' h' S' X X' le f s' x hv=>ih s' x (hk.mono le f) hv) hv
theorem YF{Ev:VE}{E:Env} (r:ER P B Sb Ev E){ops:Array Oper}{A:VA}{A':bA} (s:VS P B Sb c h S) (a:AR c S (dN B c h) A A'){p:Prop}{b:Bool} (hb:p->b=true):∀{l:List Nat},(Ac P ops l).f Ev A h p->zU E ops A' S l b=true:=by
 intro l;induction l with
 | nil=>intro hv;exact hb hv
 | cons i l ih=>
  intro hv;rw [Ij]
  have e1:Ac P ops (i::l)=match ops[i]? with
   | some o=>match o.dst with
    | some d=>match o.guard with
     | none=>⟨fun E A S k=>Ux A.tmps d fun u=>(opV P o).f E A S fun v _=>aW v u ((Ac P ops l).f E A S k)⟩
     | some (j,w)=>match ops[j]? with
      | some o'=>match o'.dst with
       | some g=>⟨fun E A S k=>Ux A.tmps d fun u=>Ux A.tmps g fun b=>UK E.most (TF w b u (fun k=>(opV P o).f E A S fun v _=>aW v u k) ((Ac P ops l).f E A S k))⟩
       | none=>⟨fun _ _ _ _=>False⟩
      | none=>⟨fun _ _ _ _=>False⟩
    | none=>⟨fun _ _ _ _=>False⟩
   | none=>⟨fun _ _ _ _=>False⟩:=rfl
  rw [e1]at hv;cases hi:ops[i]? with
  | none=>rw [hi]at hv;cases hv
  | some o=>
   rw [hi]at hv;simp only at hv ⊢;cases hd:o.dst with
   | none=>rw [hd]at hv;cases hv
   | some dd=>
    rw [hd]at hv;simp only at hv ⊢
    have run:∀{u:V} {uw:Value},fO c S (dN B c h) u uw->((opV P o).f Ev A h fun v _=>aW v u ((Ac P ops l).f Ev A h p))->AN E o A' S (fun v _=>match UB v uw with | true=>zU E ops A' S l b | false=>false)=true:=by
     intro u uw ru hv;refine Gy r s a (fun c' h' S' v w le f s' rv hv=>?_) hv;obtain⟨rfl,ho,hv⟩:=hv;have:=rv.fn (ru.mono le f);subst this;rw [aKH s' rv ho];exact ih hv
    cases hg:o.guard with
    | none=>
     simp only [hg]at hv;refine EO a hv fun u uw ru hv=>?_;rw [Rz hg];exact run ru hv
    | some jw=>
     obtain⟨j,w⟩:=jw;simp only [hg]at hv;cases hj:ops[j]? with
     | none=>simp only [hj]at hv
     | some o'=>
      simp only [hj]at hv;cases hg':o'.dst with
      | none=>simp only [hg']at hv
      | some g=>
       simp only [hg']at hv;refine EO a hv fun u uw ru hv=>?_;rw [aF9 hg hj hg'];refine EO a hv fun q qw rq hv=>?_;rw [aF]at hv;obtain⟨bb,hbb,e⟩:=Xe rq hv;rw [e];cases bb with
       | true=>exact run ru hbb
       | false=>
        have hbb:aRl u ((Ac P ops l).f Ev A h p):=hbb;cases ru with
        | @tuple a a' la ha=>
         cases a with
         | nil=>
          have:a'=[]:=sO (by simpa using la.symm);subst this;exact ih hbb
         | cons x l=>cases hbb
        | _=>cases hbb
theorem Sa{Ev:VE}{E:Env} (r:ER P B Sb Ev E){ops:Array Oper}{i:Nat}{o:Oper}{A:VA}{A':bA} (s:VS P B Sb c h S) (a:AR c S (dN B c h) A A'){Kv:KV}{K:VK} (k:KR P B Sb c h S Kv K) (hv:(aCn P ops i o).f Ev A h Kv):IX E ops i o A' S K=true:=by
 unfold aCn at hv;unfold IX;rw [r.eP];cases hc:fD P ops i with
 | none=>rw [hc]at hv;exact Gy r s a k hv
 | some j=>rw [hc]at hv;cases hv
theorem ZM{Ev:VE}{E:Env} (r:ER P B Sb Ev E){ops:Array Oper}:∀{l:List Nat} {c:Cx} {h:Hp} {S:St} {A:VA} {A':bA} {kv:KSV} {k:bA->St->Bool},VS P B Sb c h S->AR c S (dN B c h) A A'->KSR P B Sb c h S kv k->(UL P ops l).f Ev A h kv->oH E ops l A' S k=true:=by
 intro l;induction l with
 | nil=>intro c h S A A' kv k s a hk hv;exact hk c h S A A' (.refl c) (.refl _ S) s a hv
 | cons i l ih=>
  intro c h S A A' kv k s a hk hv
  have e1:UL P ops (i::l)=match ops[i]? with
   | some o=>match o.dst with
    | some d=>⟨fun E A S k=>(aCn P ops i o).f E A S fun v S=>Rr A d v fun A=>(UL P ops l).f E A S k⟩
    | none=>⟨fun E A S k=>(aCn P ops i o).f E A S fun _ S=>(UL P ops l).f E A S k⟩
   | none=>⟨fun _ _ _ _=>False⟩:=rfl
  have e2:oH E ops (i::l) A' S k=match ops[i]? with
   | some o=>IX E ops i o A' S fun v S=>mV A' o.dst v fun A=>oH E ops l A S k
   | none=>false:=rfl
  rw [e1]at hv;rw [e2];cases hi:ops[i]? with
  | none=>rw [hi]at hv;cases hv
  | some o=>
   rw [hi]at hv;simp only at hv ⊢;cases hd:o.dst with
   | none=>
    rw [hd]at hv;exact Sa r s a (fun c' h' S' v w le f s' rv hv=>ih s' (a.mono le f) (hk.mono le f) hv) hv
   | some d=>
    rw [hd]at hv;exact Sa r s a (fun c' h' S' v w le f s' rv hv=>Xc (a.mono le f) rv hv fun X X' x hx=>ih s' x (hk.mono le f) hx) hv
theorem Sd{Ev:VE}{E:Env} (r:ER P B Sb Ev E){ops:Array Oper}{A:VA}{A':bA} (s:VS P B Sb c h S) (a:AR c S (dN B c h) A A'){p:Prop}{b:Bool} (hb:p->b=true):∀{l:List (Nat×List Nat)},(aAC P ops l).f Ev A h p->VG E ops A' S l b=true:=by
 intro l;induction l with
 | nil=>intro hv;exact hb hv
 | cons q l ih=>
  intro hv
  have e1:aAC P ops (q::l)=match ops[q.1]? with
   | some o=>⟨fun E A S k=>aPB A o (((UL P ops q.2).f E A S fun A S=>(aCn P ops q.1 o).f E A S fun _ _=>True)/\(aAC P ops l).f E A S k)⟩
   | none=>⟨fun _ _ _ _=>False⟩:=rfl
  have e2:VG E ops A' S (q::l) b=match ops[q.1]? with
   | some o=>aDu A' o (gE (oH E ops q.2 A' S fun A S=>IX E ops q.1 o A S fun _ _=>true) (VG E ops A' S l b) false)
   | none=>false:=rfl
  rw [e1]at hv;rw [e2];cases hi:ops[q.1]? with
  | none=>rw [hi]at hv;cases hv
  | some o=>
   rw [hi]at hv;simp only at hv ⊢;unfold aPB at hv;unfold aDu;cases hd:o.dst with
   | none=>rw [hd]at hv;cases hv
   | some dd=>
    rw [hd]at hv;simp only at hv ⊢;obtain⟨hg,h1,h2⟩:=aKp _ _ hv
    ·rw [nH,a.abs dd hg]
     have hl:(oH E ops q.2 A' S fun A S=>IX E ops q.1 o A S fun _ _=>true)=true:=ZM r s a (fun c' h' S' X X' le f s' x hv=>Sa r s' x (fun _ _ _ _ _ _ _ _ _ _=>rfl) hv) h1;show gE (oH E ops q.2 A' S fun A S=>IX E ops q.1 o A S fun _ _=>true) (VG E ops A' S l b) false=true;rw [hl];exact ih h2
theorem YG{Ev:VE}{E:Env} (r:ER P B Sb Ev E){ops:Array Oper}:∀{l:List zJ} {c:Cx} {h:Hp} {S:St} {A:VA} {A':bA} {kv:KSV} {k:bA->St->Bool},VS P B Sb c h S->AR c S (dN B c h) A A'->KSR P B Sb c h S kv k->(OF P ops l).f Ev A h kv->mO E ops l A' S k=true:=by
 intro l;induction l with
 | nil=>intro c h S A A' kv k s a hk hv;cases hv
 | cons st l ih=>
  intro c h S A A' kv k s a hk hv;cases st with
  | take i=>
   have e1:OF P ops (.take i::l)=match ops[i]? with
    | some o=>⟨fun E A S k=>(doV P ops o).f E A S fun A S=>(OF P ops l).f E A S k⟩
    | none=>⟨fun _ _ _ _=>False⟩:=rfl
   have e2:mO E ops (.take i::l) A' S k=match ops[i]? with
    | some o=>Ck E ops o A' S fun A S=>mO E ops l A S k
    | none=>false:=rfl
   rw [e1]at hv;rw [e2];cases hi:ops[i]? with
   | none=>rw [hi]at hv;cases hv
   | some o=>
    rw [hi]at hv;exact Gz r s a (fun c' h' S' X X' le f s' x hv=>ih s' x (hk.mono le f) hv) hv
  | Vy BX nJ D q GH=>
   have e1:OF P ops (.Vy BX nJ D q GH::l)=match ops[q]? with
    | some o=>⟨fun E A S k=>(Ac P ops BX).f E A S ((aAC P ops nJ).f E A S ((UL P ops D).f E A S fun A S=>(doV P ops o).f E A S fun A S=>(Ac P ops GH).f E A S ((OF P ops l).f E A S k)))⟩
    | none=>⟨fun _ _ _ _=>False⟩:=rfl
   have e2:mO E ops (.Vy BX nJ D q GH::l) A' S k=match ops[q]? with
    | some o=>zU E ops A' S BX (VG E ops A' S nJ (oH E ops D A' S fun A S=>Ck E ops o A S fun A S=>zU E ops A S GH (mO E ops l A S k)))
    | none=>false:=rfl
   rw [e1]at hv;rw [e2];cases hi:ops[q]? with
   | none=>rw [hi]at hv;cases hv
   | some o=>
    rw [hi]at hv;refine YF r s a (fun hv=>?_) hv;refine Sd r s a (fun hv=>?_) hv;refine ZM r s a (fun c' h' S' X X' le f s' x hv=>?_) hv;refine Gz r s' x (fun c2 h2 S2 Y Y' fF f2 s2 y hv=>?_) hv;refine YF r s2 y (fun hv=>?_) hv;exact ih s2 y ((hk.mono le f).mono fF f2) hv
  | fin BX nJ D=>
   have hv:(Ac P ops BX).f Ev A h ((aAC P ops nJ).f Ev A h ((UL P ops D).f Ev A h kv)):=hv;show zU E ops A' S BX (VG E ops A' S nJ (oH E ops D A' S k))=true;refine YF r s a (fun hv=>?_) hv;refine Sd r s a (fun hv=>?_) hv;exact ZM r s a hk hv
theorem aAI{Ev:VE}{E:Env} (r:ER P B Sb Ev E){ops:Array Oper}:∀{l:List zJ} {c:Cx} {h:Hp} {S:St} {A:VA} {A':bA} {kv:KSV} {k:bA->St->Bool},VS P B Sb c h S->AR c S (dN B c h) A A'->KSR P B Sb c h S kv k->(ME P ops l).f Ev A h kv->yT E ops l A' S k=true:=by
 intro l;induction l with
 | nil=>intro c h S A A' kv k s a hk hv;exact hk c h S A A' (.refl c) (.refl _ S) s a hv
 | cons st l ih=>
  intro c h S A A' kv k s a hk hv;cases st with
  | take i=>
   have e1:ME P ops (.take i::l)=match ops[i]? with
    | some o=>⟨fun E A S k=>(doV P ops o).f E A S fun A S=>(ME P ops l).f E A S k⟩
    | none=>⟨fun _ _ _ _=>False⟩:=rfl
   have e2:yT E ops (.take i::l) A' S k=match ops[i]? with
    | some o=>Ck E ops o A' S fun A S=>yT E ops l A S k
    | none=>false:=rfl
   rw [e1]at hv;rw [e2];cases hi:ops[i]? with
   | none=>rw [hi]at hv;cases hv
   | some o=>
    rw [hi]at hv;exact Gz r s a (fun c' h' S' X X' le f s' x hv=>ih s' x (hk.mono le f) hv) hv
  | Vy BX nJ D q GH=>
   have e1:ME P ops (.Vy BX nJ D q GH::l)=match ops[q]? with
    | some o=>⟨fun E A S k=>(Ac P ops BX).f E A S ((aAC P ops nJ).f E A S ((UL P ops D).f E A S fun A S=>(doV P ops o).f E A S fun A S=>(Ac P ops GH).f E A S ((ME P ops l).f E A S k)))⟩
    | none=>⟨fun _ _ _ _=>False⟩:=rfl
   have e2:yT E ops (.Vy BX nJ D q GH::l) A' S k=match ops[q]? with
    | some o=>zU E ops A' S BX (VG E ops A' S nJ (oH E ops D A' S fun A S=>Ck E ops o A S fun A S=>zU E ops A S GH (yT E ops l A S k)))
    | none=>false:=rfl
   rw [e1]at hv;rw [e2];cases hi:ops[q]? with
   | none=>rw [hi]at hv;cases hv
   | some o=>
    rw [hi]at hv;refine YF r s a (fun hv=>?_) hv;refine Sd r s a (fun hv=>?_) hv;refine ZM r s a (fun c' h' S' X X' le f s' x hv=>?_) hv;refine Gz r s' x (fun c2 h2 S2 Y Y' fF f2 s2 y hv=>?_) hv;refine YF r s2 y (fun hv=>?_) hv;exact ih s2 y ((hk.mono le f).mono fF f2) hv
  | fin BX nJ D=>cases hv
end
section
variable{P:Program}{B:Nat->Prop}{Sb:St}{c c' d:Cx}{h h':Hp}{S S':St}{C C':Nat->Prop}
theorem AR.del{A:VA}{A':bA} (a:AR c S C A A') (d:Nat):AR c S C ⟨⟨A.tmps.t.del d,A.tmps.n⟩,A.g⟩ {A' with tmps:=⟨A'.tmps.t.del d,A'.tmps.n⟩}:=by
 refine⟨a.n,a.g,a.marks,fun i v e=>?_,fun i e=>?_⟩
 ·have e:(A.tmps.t.del d).get i=some v:=e
  rw [Eu]at e;show ∃w,(A'.tmps.t.del d).get i=some w/\_;rw [Eu];by_cases hi:i=d
  ·rw [aK hi]at e;cases e
  ·rw [aG hi]at e ⊢;exact a.got i v e
 ·have e:(A.tmps.t.del d).get i=none:=e
  rw [Eu]at e;show(A'.tmps.t.del d).get i=none;rw [Eu];by_cases hi:i=d
  ·rw [aK hi]
  ·rw [aG hi]at e ⊢;exact a.abs i e
theorem Xf{ops:Array Oper}{k:VA->Prop}{k':bA->Bool} (hk:∀X X',AR c S C X X'->k X->k' X'=true):∀{l:List Nat} {A:VA} {A':bA},AR c S C A A'->aCo ops l A k->WZ ops l A' k'=true:=by
 intro l;induction l with
 | nil=>intro A A' a hv;exact hk A A' a hv
 | cons i l ih=>
  intro A A' a hv
  have e1:aCo ops (i::l) A k=match ops[i]? with
   | some o=>match o.dst with
    | some d=>match A with | ⟨⟨t,n⟩,g⟩=>aKf t d fun t=>aCo ops l ⟨⟨t,n⟩,g⟩ k
    | none=>False
   | none=>False:=rfl
  have e2:WZ ops (i::l) A' k'=match ops[i]? with
   | some o=>match o.dst with
    | some d=>aIt A'.tmps.t d fun t=>WZ ops l {A' with tmps:=⟨t,A'.tmps.n⟩} k'
    | none=>false
   | none=>false:=rfl
  rw [e1]at hv;rw [e2];cases hi:ops[i]? with
  | none=>simp only [hi]at hv
  | some o=>
   simp only [hi]at hv ⊢;cases hd:o.dst with
   | none=>simp only [hd]at hv
   | some d=>
    simp only [hd]at hv ⊢;rw [aMW]at hv;rw [aE9];exact ih (a.del d) hv
theorem aEy{w:Bool}{v:V}{k:Prop} (h:aF4 w v k):v= .bool w/\k:=by
 unfold aF4 at h;split at h
 ·rename_i b
  cases w<;>cases b<;>first | exact⟨rfl,h⟩ | exact h.elim
 ·exact h.elim
theorem aEz{Ev:VE}{E:Env} (r:ER P B Sb Ev E):∀{p:XH} {ops:Array Oper} {c:Cx} {h:Hp} {S:St} {A:VA} {A':bA} {kv:KSV} {k:bA->St->Bool},VS P B Sb c h S->AR c S (dN B c h) A A'->KSR P B Sb c h S kv k->(aEl P p ops).f Ev A h kv->XI E p ops A' S k=true:=by
 intro p;induction p with
 | fin l=>intro ops c h S A A' kv k s a hk hv;exact YG r s a hk hv
 | cut l g t b p ih=>
  intro ops c h S A A' kv k s a hk hv;have hv:(ME P ops l).f Ev A h (fun A S=>Ux A.tmps t fun v=>aF4 b v ((aEl P p (fB ops g b)).f Ev A S kv)):=hv;show yT E ops l A' S (fun A S=>Fg A t b (XI E p (fB ops g b) A S k))=true;refine aAI r s a (fun c' h' S' X X' le f s' x hv=>?_) hv;unfold Fg;refine EO x hv fun v w rv hv=>?_;obtain⟨e,hv2⟩:=aEy hv;subst e;cases rv;have:=ih (ops:=fB ops g b) s' x (hk.mono le f) hv2;cases b<;>exact this
theorem aKK{Ev:VE}{E:Env} (r:ER P B Sb Ev E){ops:Array Oper}{draw:Bool}{A:VA}{A':bA} (s:VS P B Sb c h S) (a:AR c S (dN B c h) A A'){kv:KSV}{k:bA->St->Bool} (hk:KSR P B Sb c h S kv k) (hv:(aMU P ops draw).f Ev A h kv):(aG5 P ops draw).f E A' S k=true:=by
 have hP:=r.eP;subst hP;rw [aFo];cases draw with
 | false=>exact aKJ r s a hk hv
 | true=>
  show drG E ops A' S k=true;unfold aMU at hv;simp only at hv;unfold drG;cases hp:Fd E.P ops with
  | none=>
   simp only [hp]at hv ⊢;cases xN:LE ops with
   | false=>simp only [xN]at hv
   | true=>
    simp only [xN]at hv ⊢;cases WG:Ff E.P (ops.size+1) ops ⟨List.replicate ops.size false⟩ []with
    | none=>simp only [WG]at hv
    | some p=>
     simp only [WG]at hv ⊢;exact Xf (fun X X' x hx=>aEz r s x hk hx) a hv
  | some l=>
   simp only [hp]at hv ⊢;cases hl:QC l with
   | nil=>
    simp only [hl]at hv;exact YG r s a hk hv
   | cons x ls=>
    simp only [hl]at hv;exact Xf (fun X X' x hx=>YG r s x hk hx) a hv
def CKR (P:Program) (B:Nat->Prop) (Sb:St) (c:Cx) (h:Hp) (S:St) (Kv:CV) (K:Cl):Prop:=
 ∀c' h' S' A A' e,c.le c'->FB (dN B c h) S S' (dN B c' h')->VS P B Sb c' h' S'->AR c' S' (dN B c' h') A A'->Kv e A h'->K e A' S'=true
def LKR (P:Program) (B:Nat->Prop) (Sb:St) (c:Cx) (h:Hp) (S:St) (Kv:zH->List V->Nat->Hp->Prop) (K:zH->List Value->Nat->List Nat->St->Bool):Prop:=
 ∀c' h' S' vs ws n e,c.le c'->FB (dN B c h) S S' (dN B c' h')->VS P B Sb c' h' S'->mA c' S' (dN B c' h') vs ws->Kv e vs n h'->∀marks,Mb c' S' (dN B c' h') marks->K e ws n marks S'=true
def RoV (c:Cx) (r r':Option Nat):Prop:=(r=none/\r'=none)\/∃l b,r=some l/\r'=some b/\c.Z l=some b
theorem RoV.mono{r r':Option Nat} (q:RoV c r r') (l:c.le c'):RoV c' r r':=by
 rcases q with q | ⟨i,b,h1,h2,h3⟩
 ·exact .inl q
 ·exact .inr ⟨i,b,h1,h2,l.Z _ _ h3⟩
def aN1 (P:Program) (B:Nat->Prop) (Sb:St) (Ev:VE) (E:Env) (r r':Option Nat) (lv:LpV) (lx:LpT):Prop:=
 ∀{c:Cx} {h:Hp} {S:St} {vs:List V} {ws:List Value} {n:Nat} {marks:List Nat} {Kv:zH->List V->Nat->Hp->Prop} {K:zH->List Value->Nat->List Nat->St->Bool},VS P B Sb c h S->RoV c r r'->Mb c S (dN B c h) marks->mA c S (dN B c h) vs ws->LKR P B Sb c h S Kv K->lv Ev vs n h Kv->lx E r' ws n marks S K=true
theorem CKR.mono{Kv:CV}{K:Cl} (q:CKR P B Sb c h S Kv K) (l:c.le c') (f:FB (dN B c h) S S' (dN B c' h')):CKR P B Sb c' h' S' Kv K:=
 fun c2 h2 S2 A A' e l2 f2=>q c2 h2 S2 A A' e (l.trans l2) (f.trans f2)
theorem LKR.mono{Kv:zH->List V->Nat->Hp->Prop}{K:zH->List Value->Nat->List Nat->St->Bool} (q:LKR P B Sb c h S Kv K) (l:c.le c') (f:FB (dN B c h) S S' (dN B c' h')):LKR P B Sb c' h' S' Kv K:=
 fun c2 h2 S2 vs ws n e l2 f2=>q c2 h2 S2 vs ws n e (l.trans l2) (f.trans f2)
theorem QZ{A:VA}{A':bA} (a:AR c S C A A'):∀{l:List Nat} {k:List V->Prop} {k':List Value->Bool},QW l A k->(∀vs ws,mA c S C vs ws->k vs->k' ws=true)->EB l A' k'=true:=by
 intro l;induction l with
 | nil=>intro k k' hv hk;exact hk [] [] .nil hv
 | cons i l ih=>
  intro k k' hv hk;have hv:Ux A.tmps i (fun v=>QW l A fun vs=>k (v::vs)):=hv;show YU A'.tmps i (fun v=>EB l A' fun vs=>k' (v::vs))=true;exact EO a hv fun v w rv hv=>ih hv fun vs ws rs hv=>hk _ _ (.cons rv rs) hv
theorem aHE{A:VA}:∀{l:List Nat} {k:List V->Prop},QW l A k->∃vs,k vs/\vs.length=l.length/\∀(j i:Nat) (v:V),l[j]? =some i->vs[j]? =some v->A.tmps.t.get i=some v:=by
 intro l;induction l with
 | nil=>intro k hv;exact⟨[],hv,rfl,fun j i v h=>by simp at h⟩
 | cons i l ih=>
  intro k hv;obtain⟨v,e,hv⟩:=aCq _ _ _ (show Ux A.tmps i (fun v=>QW l A fun vs=>k (v::vs))from hv);obtain⟨vs,h1,h2,h3⟩:=ih hv;refine⟨v::vs,h1,by simp [h2],fun j x u hx hu=>?_⟩;cases j with
  | zero=>simp at hx hu;subst hx hu;exact e
  | succ j=>simp at hx hu;exact h3 j x u hx hu
theorem aHF{g:Nat}{marks:List Nat}{k:VA->Prop}{k':bA->Bool} (hk:∀X X',AR c S C X X'->k X->k' X'=true):∀{l:List Nat} {vs:List V} {ws:List Value} {T:VTm} {T':Tm},mA c S C vs ws->AR c S C ⟨T,g⟩ ⟨T',marks,g⟩->
 iD (β:=List V->VTm->Prop) (fun _ T=>k ⟨T,g⟩) (fun i _ ih vs T=>match vs with | v::vs=>Bg v T i fun T=>ih vs T | []=>False) l vs T->
 iD (β:=List Value->Tm->Bool) (fun _ T=>k' ⟨T,marks,g⟩) (fun i _ ih vs T=>match vs with | v::vs=>uU v T i fun T=>ih vs T | []=>false) l ws T'=true:=by
 intro l;induction l with
 | nil=>intro vs ws T T' _ a hv;exact hk _ _ a hv
 | cons i l ih=>
  intro vs ws T T' rs a hv;rw [bU]at hv ⊢;cases vs with
  | nil=>cases hv
  | cons v vs=>
   obtain⟨w,ws',rfl,rv,rs⟩:=rs.cons_inv;obtain⟨h1,h2⟩:=ZL hv;show uU w T' i _=true;rw [Gv (by rw [show T'.n=T.n from a.n.symm];exact h1)];exact ih rs (a.put rv) h2
theorem AR.leaf{n g:Nat}{marks:List Nat} (m:Mb c S C marks):AR c S C ⟨⟨.leaf,n⟩,g⟩ ⟨⟨.leaf,n⟩,marks,g⟩:=⟨rfl,rfl,m,fun i v e=>(by cases e),fun i _=>rfl⟩
theorem TL{l:List Nat}{vs:List V}{ws:List Value}{n g:Nat}{k:VA->Prop}{k':bA->Bool}{marks:List Nat} (m:Mb c S C marks) (rs:mA c S C vs ws) (hv:TI l vs n g k) (hk:∀X X',AR c S C X X'->k X->k' X'=true):LN l ws n g marks k'=true:=aHF hk rs (.leaf m) hv
variable{tb:tD}
theorem aPH (s:VS P B Sb c h S) (o:jD):VS P B Sb c h (S.new o)/\FB (dN B c h) S (S.new o) (dN B c h):=by
 have fr:FB (dN B c h) S (S.new o) (dN B c h):=⟨RR _,fun j hj _=>iG (Nat.ne_of_lt hj),fun b l=> .inl l⟩;refine⟨⟨s.base.trans (.new S _),s.bB,fun i o' e eg=>?_,fun i vs t n e=>?_,s.inj,s.Gs,s.room,s.YE,fun i vs t n m b e e3=>⟨(s.Gb i vs t n m b e e3).1,sS (s.Gb i vs t n m b e e3).2⟩,fun i vs t n b ws e' olds e e3 e4=>s.old i vs t n b ws e' olds e e3 (by rw [iG (by have:=(s.Gb i vs t n n b e e3).2;omega)]at e4;exact e4)⟩,fr⟩
 ·obtain⟨b,a,a1,a2,a3,a4,a5⟩:=s.ob i o' e eg
  exact⟨b,a,a1,a2,sS a3,by rw [iG (by omega)];exact a4,a5.mono (.refl c) fr⟩
 ·obtain⟨b,ws,olds,sz,a1,a2,a3,a4,a5,a6⟩:=s.gD i vs t n e
  exact⟨b,ws,olds,sz,a1,a2,sS a3,by rw [iG (by omega)];exact a4,a5.mono (.refl c) fr,a6⟩
theorem aCD{k:jD->Bool}{b:Nat}{a:jD} (e:S.obj b=some a):rV S.h b k=k a:=by
 rw [nH];have e:S.h.get b=some a:=e;rw [e]
theorem aEA{l:Nat}{p:Prop} (hv:SY l h p):∃ls vs n ps as bo st pe,h l=some (.loop ls vs n ps as bo st pe)/\p:=by
 unfold SY at hv;split at hv
 ·rename_i e;exact⟨_,_,_,_,_,_,_,_,e,hv⟩
 ·cases hv
theorem aM1{X X':bA}{Kv:CV}{K:Cl}{A:VA}{pe:Option Code}{kn:bA} (e:X=X') (hn:kn=X') (h1:Kv .normal A h->K .normal X' S=true) (h2:Kv .ret A h->K .ret X' S=true) (h3:∀i,Kv (.exit i) A h->K (.exit i) X' S=true)
 (hv:UJ pe (Kv .normal A h) (Kv .ret A h) (fun id=>Kv (.exit id) A h)):(match(generalizing:=false) pe with | none=>K .normal X S | some .ret=>K .ret X S | some (.exit id)=>K (.exit id) X S | _=>false)=true:=by
 subst e;unfold UJ at hv;split at hv
 ·exact h1 hv
 ·exact h2 hv
 ·exact h3 _ hv
 ·cases hv
theorem Lf{Ev:VE}{E:Env} (r:ER P B Sb Ev E){A:VA}{A':bA} (s:VS P B Sb c h S) (a:AR c S (dN B c h) A A'){ls:List Nat}{vs:List V} (hl:vs.length=ls.length) (hg:∀(j i:Nat) (v:V),ls[j]? =some i->vs[j]? =some v->A.tmps.t.get i=some v){g:FuncId}{fa fc:List V}{fa' fc':List Value}
 (ra:mA c S (dN B c h) fa fa') (rc:mA c S (dN B c h) fc fc') {ps:List Tmp} {as bo:Code} {Kv:CV} {K:Cl} (k:CKR P B Sb c h S Kv K)
 (hv:PH Ev (.func g fa fc) ls vs A.tmps.n ps as bo h fun pe h'=>UJ pe (Kv .normal A h') (Kv .ret A h') fun id=>Kv (.exit id) A h'):
 (zT S (.loop A'.tmps ps as bo .ready none) fun l S=>FV fa' [.func (.yield l) #[] #[]] fun as=>FV as fc' fun as=>E.call g as S fun _ S=>
  rV S.h l fun o=>match o with
   | .loop tm ps as bo st pe=>match st with
    | .busy=>false
    | _=>tK S l (.loop tm ps as bo .exhausted pe) fun S=>match pe with
     | none=>K .normal A' S
     | some .ret=>K .ret A' S
     | some (.exit id)=>K (.exit id) A' S
     | _=>false
   | _=>false)=true:=by
 obtain⟨l,h0,h1,h2⟩:=s.fresh;have hv:=hv l h0;rw [jH]
 obtain⟨s1,le,fr,hb⟩:=s.aF6 h0 h1 h2 (o:= .loop ls vs A.tmps.n ps as bo .ready none) (ao:= .loop A'.tmps ps as bo .ready none) rfl (fun d S' C' le f=>⟨_,rfl,a.n,hl,fun j i v e1 e2=>by
  obtain⟨w,g1,g2⟩:=a.got i v (hg j i v e1 e2);exact⟨w,g1,g2.mono le f⟩⟩)
 rw [nI,nI];have ry:fO (c.putZ l S.n) (S.new (.loop A'.tmps ps as bo .ready none)) (dN B (c.putZ l S.n) (aJ h l (.loop ls vs A.tmps.n ps as bo .ready none))) (.yield l) (.func (.yield S.n) #[] #[]):= .yield hb;refine r.aF8 g s1 (((ra.mono le fr).app (.cons ry .nil)).app (rc.mono le fr)) ?_ hv;intro c' h' S' v w l2 f2 s2 rv hv;unfold Wv at hv;split at hv
 ·rename_i ls' vs' n' Tk as' bo' st pe e
  obtain⟨b,ao,b1,b2,b3,b4,b5⟩:=s2.ob l _ e rfl;have hbb:=l2.Z _ _ hb;rw [hbb]at b1;injection b1 with b1;subst b1;obtain⟨T,rfl,b6,b7,b8⟩:=b5;show(rV S'.h S.n _)=true;rw [aCD b4];simp only
  have fin:∀{p:Prop},(UJ pe (Kv .normal A (aJ h' l (.loop ls' vs' n' Tk as' bo' .exhausted pe))) (Kv .ret A (aJ h' l (.loop ls' vs' n' Tk as' bo' .exhausted pe))) fun id=>Kv (.exit id) A (aJ h' l (.loop ls' vs' n' Tk as' bo' .exhausted pe)))->
   (tK S' S.n (.loop T Tk as' bo' .exhausted pe) fun S=>match(generalizing:=false) pe with
    | none=>K .normal A' S
    | some .ret=>K .ret A' S
    | some (.exit id)=>K (.exit id) A' S
    | _=>false)=true:=by
   intro _ hv;rw [iB]
   obtain⟨s3,f3⟩:=s2.Xb e rfl hbb (o:= .loop ls' vs' n' Tk as' bo' .exhausted pe) (ao:= .loop T Tk as' bo' .exhausted pe) rfl (fun S' C' f=>⟨T,rfl,b6,b7,fun j i v e1 e2=>by
    obtain⟨w,g1,g2⟩:=b8 j i v e1 e2;exact⟨w,g1,g2.mono (.refl _) f⟩⟩)
   have DC:=le.trans l2;have frA:=(fr.trans f2).trans f3;have aA:=a.mono DC frA;refine aM1 (X:=A') (X':=A') (Kv:=Kv) (K:=K) (kn:=A') rfl rfl (fun hv=>k _ _ _ A A' .normal DC frA s3 aA hv) (fun hv=>k _ _ _ A A' .ret DC frA s3 aA hv) (fun i hv=>k _ _ _ A A' (.exit i) DC frA s3 aA hv) hv
  split at hv
  ·cases hv
  ·rename_i TV
   split
   ·exact aX rfl TV
   ·exact fin (p:=True) hv
 ·cases hv
theorem aEB{Ev:VE}{E:Env} (r:ER P B Sb Ev E){ro ro':Option Nat}{f:Operand}{ps:Array Tmp}{as bo:Code}{A:VA}{A':bA}{Kv:CV}{K:Cl} (s:VS P B Sb c h S) (uV:RoV c ro ro') (a:AR c S (dN B c h) A A') (k:CKR P B Sb c h S Kv K) (hv:(aAF tb ro f ps as bo).f Ev A h Kv):Cm E ro' f ps as bo A' S K=true:=by
 unfold aAF at hv;unfold Cm;refine cE a hv fun fv fw rf hv=>?_;obtain⟨vs,hv,hl,hg⟩:=aHE hv;rcases uV with ⟨rfl,rfl⟩ | ⟨l,b,rfl,rfl,hb⟩
 ·have hv:PH Ev fv (aAE tb bo) vs A.tmps.n ps.toList as bo h _:=hv
  cases rf with
  | @func g fa fc fa' fc' la lc ha hc=>
   simp only;rw [jH];obtain⟨s1,f1⟩:=aPH s .defers
   have m1:Mb c (S.new .defers) (dN B c h) (S.n::A'.marks):=by
    have m:=a.marks.mono (.refl c) f1;refine⟨m.n0,Hx.2 ⟨fun hx=>?_,m.nd⟩,fun d hd=>?_⟩
    ·exact Nat.lt_irrefl _ (a.marks.ok _ hx).2.1
    ·rcases cC.1 hd with rfl | hd
     ·exact⟨a.marks.n0,xR _,fun x=>Nat.lt_irrefl _ (s.aHw x),vM⟩
     ·exact m.ok d hd
   have a0:=a.mono (.refl c) f1;have a1:AR c (S.new .defers) (dN B c h) A ⟨A'.tmps,S.n::A'.marks,A'.g⟩:=⟨a0.n,a0.g,m1,a0.got,a0.abs⟩;exact Lf r s1 a1 hl hg ((⟨la,ha⟩:mA _ _ _ fa fa').mono (.refl c) f1) ((⟨lc,hc⟩:mA _ _ _ fc fc').mono (.refl c) f1) (fun c' h' S' X X' e l2 f2=>k c' h' S' X X' e l2 (f1.trans f2)) hv
  | _=>cases hv
 ·have hv:SY l h (PH Ev fv (aAE tb bo) vs A.tmps.n ps.toList as bo h _):=hv
  obtain⟨_,_,_,_,_,_,_,_,e,hv⟩:=aEA hv;cases rf with
  | @func g fa fc fa' fc' la lc ha hc=>
   simp only;obtain⟨b',ao,b1,b2,b3,b4,b5⟩:=s.ob l _ e rfl;rw [hb]at b1;injection b1 with b1;subst b1;obtain⟨T,rfl,_⟩:=b5;rw [aCD b4];exact Lf r s a hl hg ⟨la,ha⟩ ⟨lc,hc⟩ k hv
  | _=>cases hv
theorem ZN{Ev:VE}{E:Env} (r:ER P B Sb Ev E){ro ro':Option Nat}{lv:Code->LpV}{lx:Code->LpT} (hl:∀a,aN1 P B Sb Ev E ro ro' (lv a) (lx a)):∀(q:Code) {c:Cx} {h:Hp} {S:St} {A:VA} {A':bA} {Kv:CV} {K:Cl},
 VS P B Sb c h S->RoV c ro ro'->AR c S (dN B c h) A A'->CKR P B Sb c h S Kv K->(tG P tb ro lv q).f Ev A h Kv->(qA P tb lx q).f E ro' A' S K=true:=by
 intro q;induction q with
 | skip=>intro c h S A A' Kv K s uV a k hv;exact k c h S A A' .normal (.refl c) (.refl _ S) s a hv
 | label l=>intro c h S A A' Kv K s uV a k hv;exact k c h S A A' .normal (.refl c) (.refl _ S) s a hv
 | ret=>intro c h S A A' Kv K s uV a k hv;exact k c h S A A' .ret (.refl c) (.refl _ S) s a hv
 | exit i=>intro c h S A A' Kv K s uV a k hv;exact k c h S A A' (.exit i) (.refl c) (.refl _ S) s a hv
 | goto l=>intro c h S A A' Kv K s uV a k hv;cases hv
 | refuse l=>intro c h S A A' Kv K s uV a k hv;cases hv
 | rangeFunc f ps as bo _ _=>
  intro c h S A A' Kv K s uV a k hv;have hv:(aAF tb ro f ps as bo).f Ev A h Kv:=hv;exact aEB r s uV a k hv
 | region i ops draw=>
  intro c h S A A' Kv K s uV a k hv;have hv:(aMU P ops draw).f Ev A h (fun A S=>Kv .normal A S):=hv;show(aG5 P ops draw).f E A' S (fun A S=>K .normal A S)=true;exact aKK r s a (fun c' h' S' X X' l f s' x hv=>k c' h' S' X X' .normal l f s' x hv) hv
 | seq x y ihx ihy=>
  intro c h S A A' Kv K s uV a k hv;refine ihx s uV a ?_ (show(tG P tb ro lv x).f Ev A h (aF5 P (IY tb y) (tG P tb ro lv y) Ev Kv)from hv);intro c' h' S' X X' e l f s' x hv;cases e with
  | normal=>
   unfold aF5 at hv;show aBX P (IY tb y) (qA P tb lx y) E ro' K .normal X' S'=true;unfold aBX;simp only at hv ⊢;cases hj:IY tb y with
   | none=>simp only [hj]at hv ⊢;exact ihy s' (uV.mono l) x (k.mono l f) hv
   | some ls=>
    simp only [hj]at hv ⊢;refine QZ x hv fun vs ws rs hv=>?_;unfold aKi at hv;unfold aFp;rw [r.eM]at hv;cases hm:E.most with
    | zero=>rw [hm]at hv;cases hv
    | succ m=>
     rw [hm]at hv;obtain⟨h2,hle,hv⟩:=hv;obtain⟨s2,f2⟩:=s'.drop hle;have hv:TI ls vs X.tmps.n P.globals.size (fun A=>(tG P tb ro lv y).f Ev A h2 Kv):=hv;rw [x.n]at hv;show LN ls ws X'.tmps.n P.globals.size X'.marks (fun A=>(qA P tb lx y).f E ro' A S' K)=true;exact TL (x.marks.mono (.refl _) f2) (rs.mono (.refl _) f2) hv fun Y Y' y hv=>ihy s2 (uV.mono l) y ((k.mono l f).mono (.refl _) f2) hv
  | exit i=>exact k c' h' S' X X' (.exit i) l f s' x hv
  | ret=>exact k c' h' S' X X' .ret l f s' x hv
 | cond b x y ihx ihy=>
  intro c h S A A' Kv K s uV a k hv;have hv:(AT b).f A (fun v=>iQ v ((tG P tb ro lv x).f Ev A h Kv) ((tG P tb ro lv y).f Ev A h Kv)):=hv;show(AY b).f A' (fun v=>match v with | .bool b=>gE b ((qA P tb lx x).f E ro' A' S K) ((qA P tb lx y).f E ro' A' S K) | _=>false)=true;rw [lH];refine cE a hv fun v w rv hv=>?_;cases rv with
  | @bool b=>
   cases b with
   | true=>exact ihx s uV a k hv
   | false=>exact ihy s uV a k hv
  | _=>cases hv
 | block i x ih=>
  intro c h S A A' Kv K s uV a k hv;refine ih s uV a ?_ (show(tG P tb ro lv x).f Ev A h (aEm i Kv)from hv);intro c' h' S' X X' e l f s' x hv;cases e with
  | normal=>exact k c' h' S' X X' .normal l f s' x hv
  | ret=>exact k c' h' S' X X' .ret l f s' x hv
  | exit j=>
   show(match Nat.beq j i with | true=>K .normal X' S' | false=>K (.exit j) X' S')=true;have hv:Bf j i (Kv .normal X h') (Kv (.exit j) X h'):=hv;unfold Bf at hv;cases hj:Nat.beq j i with
   | true=>rw [hj]at hv;exact k c' h' S' X X' .normal l f s' x hv
   | false=>rw [hj]at hv;exact k c' h' S' X X' (.exit j) l f s' x hv
 | scope x ih=>
  intro c h S A A' Kv K s uV a k hv;exact ih s uV a k hv
 | loop x ih=>
  intro c h S A A' Kv K s uV a k hv;have hv:QW (zV tb x) A (fun vs=>lv x Ev vs A.tmps.n h (aHv P tb x Kv)):=hv;show EB (zV tb x) A' (fun vs=>lx x E ro' vs A'.tmps.n A'.marks S (aOR P tb x K))=true;refine QZ a hv fun vs ws rs hv=>?_;rw [<-a.n];refine hl x s uV a.marks rs ?_ hv;intro c' h' S' vs ws n e l f s' rs hv marks m;exact TL m rs hv fun X X' x hx=>k c' h' S' X X' e l f s' x hx
theorem aAJ{Ev:VE}{E:Env} (r:ER P B Sb Ev E){ro ro':Option Nat}:∀(m:Nat) (a:Code),aN1 P B Sb Ev E ro ro' (Ab P tb ro m a) (lpX P tb m a):=by
 intro m;induction m with
 | zero=>intro a c h S vs ws n marks Kv K s uV mk rs k hv;cases hv
 | succ m ih=>
  intro a
  have go:∀(j:Nat) {c:Cx} {h:Hp} {S:St} {vs:List V} {ws:List Value} {n:Nat} {marks:List Nat} {Kv:zH->List V->Nat->Hp->Prop} {K:zH->List Value->Nat->List Nat->St->Bool},VS P B Sb c h S->RoV c ro ro'->Mb c S (dN B c h) marks->mA c S (dN B c h) vs ws->LKR P B Sb c h S Kv K->ZH P tb a (tG P tb ro (Ab P tb ro m) a) Ev Kv j vs n h->Fp P tb a (qA P tb (lpX P tb m) a) E ro' K j ws n marks S=true:=by
   intro j;induction j with
   | zero=>intro c h S vs ws n marks Kv K s uV mk rs k hv;cases hv
   | succ j ihj=>
    intro c h S vs ws n marks Kv K s uV mk rs k hv;obtain⟨h2,hle,hv⟩:=hv;obtain⟨s2,f2⟩:=s.drop hle;show LN (zV tb a) ws n P.globals.size marks (fun A=>(qA P tb (lpX P tb m) a).f E ro' A S (Zx tb a (Fp P tb a (qA P tb (lpX P tb m) a) E ro' K j) K))=true;refine TL (mk.mono (.refl _) f2) (rs.mono (.refl _) f2) hv fun X X' x hv=>?_;refine ZN r ih a s2 uV x ?_ hv;intro c' h' S' Y Y' e l f s' y hv;have kk:=(k.mono (.refl _) f2).mono l f;cases e with
    | normal=>
     have hv:QW (zV tb a) Y (fun vs=>ZH P tb a (tG P tb ro (Ab P tb ro m) a) Ev Kv j vs Y.tmps.n h'):=hv;show EB (zV tb a) Y' (fun vs=>Fp P tb a (qA P tb (lpX P tb m) a) E ro' K j vs Y'.tmps.n Y'.marks S')=true;refine QZ y hv fun vs ws rs hv=>?_;rw [<-y.n];exact ihj s' (uV.mono l) y.marks rs kk hv
    | exit i=>
     have hv:QW (Fo tb a (.exit i)) Y (fun vs=>Kv (.exit i) vs Y.tmps.n h'):=hv;show EB (Fo tb a (.exit i)) Y' (fun vs=>K (.exit i) vs Y'.tmps.n Y'.marks S')=true;refine QZ y hv fun vs ws rs hv=>?_;rw [<-y.n];exact kk c' h' S' vs ws _ _ (.refl _) (.refl _ S') s' rs hv _ y.marks
    | ret=>
     have hv:QW (Fo tb a .ret) Y (fun vs=>Kv .ret vs Y.tmps.n h'):=hv;show EB (Fo tb a .ret) Y' (fun vs=>K .ret vs Y'.tmps.n Y'.marks S')=true;refine QZ y hv fun vs ws rs hv=>?_;rw [<-y.n];exact kk c' h' S' vs ws _ _ (.refl _) (.refl _ S') s' rs hv _ y.marks
  intro c h S vs ws n marks Kv K s uV mk rs k hv;have hv:ZH P tb a (tG P tb ro (Ab P tb ro m) a) Ev Kv Ev.most vs n h:=hv;rw [r.eM]at hv;exact go _ s uV mk rs k hv
theorem aKL{k:VTm->Prop}{k':Tm->Bool}{g:Nat}{marks:List Nat} (hk:∀T T',AR c S C ⟨T,g⟩ ⟨T',marks,g⟩->k T->k' T'=true):∀{vs:List V} {ws:List Value} {i:Nat} {T:VTm} {T':Tm},mA c S C vs ws->AR c S C ⟨T,g⟩ ⟨T',marks,g⟩->
 iD (β:=Nat->VTm->Prop) (fun _ T=>k T) (fun a _ ih i T=>Bg a T i fun T=>ih (Nat.succ i) T) vs i T->
 iD (β:=Nat->Tm->Bool) (fun _ T=>k' T) (fun a _ ih i T=>uU a T i fun T=>bV (Nat.succ i) fun i=>ih i T) ws i T'=true:=by
 intro vs;induction vs with
 | nil=>intro ws i T T' rs a hv;rw [rs.sB];exact hk _ _ a hv
 | cons v vs ih=>
  intro ws i T T' rs a hv;obtain⟨w,ws',rfl,rv,rs⟩:=rs.cons_inv;rw [bU]at hv ⊢;obtain⟨h1,h2⟩:=ZL hv;rw [Gv (by rw [show T'.n=T.n from a.n.symm];exact h1),bH];exact ih rs (a.put rv) h2
theorem aHG{k:VTm->Prop}{k':Tm->Bool}{g:Nat}{marks:List Nat} (hk:∀T T',AR c S C ⟨T,g⟩ ⟨T',marks,g⟩->k T->k' T'=true):∀{ps:List Tmp} {vs:List V} {ws:List Value} {T:VTm} {T':Tm},mA c S C vs ws->AR c S C ⟨T,g⟩ ⟨T',marks,g⟩->aKk ps vs T k->aBn ps ws T' k'=true:=by
 intro ps;induction ps with
 | nil=>
  intro vs ws T T' rs a hv;cases vs with
  | nil=>rw [rs.sB];exact hk _ _ a hv
  | cons v vs=>cases hv
 | cons p ps ih=>
  intro vs ws T T' rs a hv;cases vs with
  | nil=>cases hv
  | cons v vs=>
   obtain⟨w,ws',rfl,rv,rs⟩:=rs.cons_inv;have hv:Bg v T p (fun T=>aKk ps vs T k):=hv;obtain⟨h1,h2⟩:=ZL hv;show uU w T' p (fun T=>aBn ps ws' T k')=true;rw [Gv (by rw [show T'.n=T.n from a.n.symm];exact h1)];exact ih rs (a.put rv) h2
def Cx.at (c:Cx) (n:Nat):Cx:=⟨c.Z,c.G,c.Yz,n⟩
theorem Cx.at0 (c:Cx) (n:Nat):c.le0 (c.at n):=⟨fun _ _ e=>e,fun _ _ _ e=>e,fun _ _ e=>e⟩
theorem Fc.refl:Fc C S S C:=⟨bO _,fun _ _ _ _ _ _ e=>e,fun _ h=> .inl h⟩
theorem VS.at (s:VS P B Sb c h S) (n:Nat):VS P B Sb (c.at n) h S:=by
 refine⟨s.base,s.bB,fun i o e eg=>?_,fun i vs t m e=>?_,s.inj,s.Gs,s.room,s.YE,s.Gb,s.old⟩
 ·obtain⟨b,a,a1,a2,a3,a4,a5⟩:=s.ob i o e eg
  exact⟨b,a,a1,a2,a3,a4,a5.uI (c.at0 n) .refl⟩
 ·obtain⟨b,ws,olds,sz,a1,a2,a3,a4,a5,a6⟩:=s.gD i vs t m e
  exact⟨b,ws,olds,sz,a1,a2,a3,a4,a5.uI (c.at0 n) .refl,a6⟩
def kill (l:List Nat) (S:St):St:=l.foldl (fun S d=>S.set d .dead) S
theorem Dk:∀(l:List Nat) (S:St),(kill l S).n=S.n:=by
 intro l;induction l with
 | nil=>intro S;rfl
 | cons d l ih=>intro S;exact ih _
theorem GT:∀(l:List Nat) (S:St) {b:Nat},b∉l->(kill l S).obj b=S.obj b:=by
 intro l;induction l with
 | nil=>intro S b _;rfl
 | cons d l ih=>
  intro S b hb;have:=ih (S.set d .dead) (b:=b) (fun h=>hb (.tail _ h));refine Eq.trans this ?_;exact lO fun e=>hb (e▸ .head _)
theorem aHH:∀(l:List Nat) (S:St) (k:St->Bool),l.Nodup->(∀d∈l,S.obj d=some .defers)->PA l S k=k (kill l S):=by
 intro l;induction l with
 | nil=>intro S k _ _;rfl
 | cons d l ih=>
  intro S k hn ho;show(rV S.h d fun o=>match o with | .defers=>tK S d .dead fun S=>PA l S k | _=>false)=_;rw [aCD (ho d (.head _))];simp only;rw [iB];obtain⟨h1,h2⟩:=Hx.1 hn;exact ih _ k h2 fun x hx=>by rw [lO (fun e:x=d=>h1 (e▸hx))];exact ho x (.tail _ hx)
theorem aGa{l:List Nat} (hd:∀d∈l,S.obj d=some .defers):Fc C S (kill l S) C:=by
 refine⟨Ce (Dk l S).symm,fun b h1 h2 vs e ck ho=>?_,fun _ h=> .inl h⟩;rw [GT l S (fun hb=>by rw [hd b hb]at ho;cases ho)];exact ho
theorem VS.kill (s:VS P B Sb c h S){l:List Nat} (hd:∀d∈l,Sb.n<=d/\¬dN B c h d/\S.obj d=some .defers):VS P B Sb c h (Am.kill l S):=by
 have fc:Fc (dN B c h) S (Am.kill l S) (dN B c h):=aGa fun d hx=>(hd d hx).2.2;have l0:c.le0 c:=⟨fun _ _ e=>e,fun _ _ _ e=>e,fun _ _ e=>e⟩;refine⟨⟨by rw [Dk];exact s.base.n,fun j hj=>?_⟩,s.bB,fun i o e eg=>?_,fun i vs t m e=>?_,s.inj,s.Gs,s.room,s.YE,fun i vs t n m b e e3=>by rw [Dk];exact s.Gb i vs t n m b e e3,fun i vs t n b ws e' olds e e3 e4=>s.old i vs t n b ws e' olds e e3 (by rw [GT l S (fun hx=>(hd b hx).2.1 (.inr ⟨i,.inr ⟨vs,t,n,n,e,e3⟩⟩))]at e4;exact e4)⟩
 ·rw [GT l S (fun hx=>by have:=(hd j hx).1;omega)]
  exact s.base.same j hj
 ·obtain⟨b,a,a1,a2,a3,a4,a5⟩:=s.ob i o e eg
  have hb:b∉l:=fun hx=>(hd b hx).2.1 (.inr ⟨i,.inl ⟨o,e,eg,a1⟩⟩);exact⟨b,a,a1,a2,by rw [Dk];exact a3,by rw [GT l S hb];exact a4,a5.uI l0 fc⟩
 ·obtain⟨b,ws,olds,sz,a1,a2,a3,a4,a5,a6⟩:=s.gD i vs t m e
  have hb:b∉l:=fun hx=>(hd b hx).2.1 (.inr ⟨i,.inr ⟨vs,t,m,m,e,a1⟩⟩);exact⟨b,ws,olds,sz,a1,a2,by rw [Dk];exact a3,by rw [GT l S hb];exact a4,a5.uI l0 fc,a6⟩
theorem aAK (s:VS P B Sb c h S){A:VA}{A':bA} (a:AR c S (dN B c h) A A'):∀{rs:List ResultVar} {k:List V->Prop} {k':List Value->Bool},MF P rs A h k->(∀vs ws,mA c S (dN B c h) vs ws->k vs->k' ws=true)->tV P rs A' S k'=true:=by
 intro rs;induction rs with
 | nil=>intro k k' hv hk;exact hk [] [] .nil hv
 | cons x rs ih=>
  intro k k' hv hk;cases x with
  | tmp t=>
   have hv:Ux A.tmps t (fun v=>MF P rs A h fun vs=>k (v::vs)):=hv;show YU A'.tmps t (fun v=>tV P rs A' S fun vs=>k' (v::vs))=true;exact EO a hv fun v w rv hv=>ih hv fun vs ws rs hv=>hk _ _ (.cons rv rs) hv
  | cell x t=>
   have e1:MF P (.cell x t::rs) A h k=match xV P t,cQ P t with
    | some false,_=>Ux A.tmps x fun a=>aU a h fun v _=>MF P rs A h fun vs=>k (v::vs)
    | some true,some (n+1)=>Ux A.tmps x fun a=>bJ (n+1) a h fun v _=>MF P rs A h fun vs=>k (v::vs)
    | _,_=>False:=rfl
   rw [e1]at hv;show YU A'.tmps x (fun a=>PT P t a S fun v _=>tV P rs A' S fun vs=>k' (v::vs))=true;split at hv
   ·rename_i h1
    refine EO a hv fun v w rv hv=>?_;rw [Is h1];exact aF7 s rv (fun u y ru hu=>ih hu fun vs ws rs hv=>hk _ _ (.cons ru rs) hv) hv
   ·rename_i n h1 h2
    refine EO a hv fun v w rv hv=>?_;rw [Iu h1 h2];exact aCr s (by omega) rv (fun u y ru hu=>ih hu fun vs ws rs hv=>hk _ _ (.cons ru rs) hv) hv
   ·cases hv
theorem Se (s:VS P B Sb c h S){v:V}{w:Value} (rv:fO c S (dN B c h) v w){Kv:KV}{K:VK} (k:KR P B Sb c h S Kv K) (hv:bE v h Kv):K w S=true:=by
 obtain⟨h',u,hle,hf,hv⟩:=hv;obtain⟨d,O,le,s2,f2,r2⟩:=aPF s hle rv hf;exact k d h' S _ w le f2 s2 r2 (hv O)
theorem aM2{tb:FuncId->tD}{Ev:VE}{E:Env} (r:ER P B Sb Ev E) (f:FuncId){args:List V}{ws:List Value}{Kv:KV}{K:VK} (s:VS P B Sb c h S) (ra:mA c S (dN B c h) args ws) (k:KR P B Sb c h S Kv K) (hv:jU P tb f Ev args h Kv):fnX P tb f E ws S K=true:=by
 unfold jU at hv;unfold fnX;cases hf:P.funcs[f]? with
 | none=>simp only [hf]at hv
 | some fn=>
  simp only [hf]at hv ⊢;cases hb:fn.body with
  | none=>simp only [hb]at hv
  | some q=>
   simp only [hb]at hv ⊢;rw [bH];have m0:Mb (c.at S.n) S (dN B c h) []:=⟨bO _,.nil,fun d hd=>by cases hd⟩;refine aKL (c:=c.at S.n) (g:=P.globals.size) (fun T T' a hv=>?_) (ra.uI (c.at0 _) .refl) (.leaf m0) hv;refine ZN r (aAJ r FH) q (s.at S.n) (.inl ⟨rfl,rfl⟩) a ?_ hv;intro c' h' S' X X' e l f s' x hv
   have fin:MF P fn.results.toList X h' (fun vs=>match vs with | [v]=>bE v h' Kv | vs=>bE (.tuple vs) h' Kv)->PA X'.marks S' (fun S=>tV P fn.results.toList X' S fun vs=>match vs with | [v]=>K v S | vs=>K (.tuple ⟨vs⟩) S)=true:=by
    intro hv;have hm:=x.marks;have hn0:c'.n0=S.n:=l.n0;rw [aHH X'.marks S' _ hm.nd fun d hd=>(hm.ok d hd).2.2.2];have s1:VS P B Sb c' h' (kill X'.marks S'):=s'.kill fun d hd=>⟨by have:=(hm.ok d hd).1;have:=s.base.n;omega,(hm.ok d hd).2.2.1,(hm.ok d hd).2.2.2⟩;have s2:VS P B Sb (c'.at c.n0) h' (kill X'.marks S'):=s1.at c.n0;have fF:c.le (c'.at c.n0):=⟨fun i b e=>l.Z i b e,fun i n v e=>l.G i n v e,fun i v e=>l.Yz i v e,rfl⟩
    have f2:FB (dN B c h) S (kill X'.marks S') (dN B c' h'):=by
     refine⟨by rw [Dk];exact f.n,fun b h1 h2=>?_,f.sub⟩;rw [GT _ _ fun hx=>by have:=(hm.ok b hx).1;omega];exact f.same b h1 h2
    have fc:Fc (dN B c' h') S' (kill X'.marks S') (dN B c' h'):=aGa fun d hd=>(hm.ok d hd).2.2.2
    have x2:AR c' (kill X'.marks S') (dN B c' h') X ⟨X'.tmps,[],X'.g⟩:=
     ⟨x.n,x.g,⟨by rw [Dk];exact hm.n0,.nil,fun d hd=>by cases hd⟩,fun i v e=>let⟨w,p,q⟩:=x.got i v e;⟨w,p,(q.uI ⟨fun _ _ e=>e,fun _ _ _ e=>e,fun _ _ e=>e⟩ fc)⟩,x.abs⟩
    show tV P fn.results.toList ⟨X'.tmps,[],X'.g⟩ (kill X'.marks S') (fun vs=>match vs with | [v]=>K v (kill X'.marks S') | vs=>K (.tuple ⟨vs⟩) (kill X'.marks S'))=true;refine aAK s1 x2 hv fun vs ws rs hv=>?_;have rs:mA (c'.at c.n0) (kill X'.marks S') (dN B (c'.at c.n0) h') vs ws:=rs.uI (c'.at0 c.n0) .refl;have kk:KR P B Sb (c'.at c.n0) h' (kill X'.marks S') Kv K:=fun c2 h2 S2 v w l2 f3=>k c2 h2 S2 v w (fF.trans l2) (f2.trans f3)
    match vs,ws,rs,hv with
    | [v],ws,rs,hv=>
     obtain⟨w,ws',rfl,rv,rs⟩:=rs.cons_inv;rw [rs.sB];exact Se s2 rv kk hv
    | [],ws,rs,hv=>
     rw [rs.sB];exact Se s2 (.tuple (a':=[]) rfl fun k v w e=>by simp at e) kk hv
    | a::b::vs,ws,rs,hv=>
     obtain⟨w,ws',rfl,rv,rs⟩:=rs.cons_inv;obtain⟨w2,ws2,rfl,ZG,rs⟩:=rs.cons_inv;exact Se s2 (.tuple (mA.cons rv (.cons ZG rs)).len (mA.cons rv (.cons ZG rs)).rd) kk hv
   cases e with
   | normal=>exact fin hv
   | ret=>exact fin hv
   | exit i=>cases hv
theorem aKM{T:Tm}{g:Nat}:∀{ls:List Nat} {vs:List V},vs.length=ls.length->(∀(j i:Nat) (v:V),ls[j]? =some i->vs[j]? =some v->∃w,T.t.get i=some w/\fO c S C v w)->∃ws,mA c S C vs ws/\∀k':List Value->Bool,EB ls ⟨T,[],g⟩ k'=k' ws:=by
 intro ls;induction ls with
 | nil=>
  intro vs hl _;obtain rfl:vs=[]:=sO (by simpa using hl);exact⟨[],.nil,fun k'=>rfl⟩
 | cons i ls ih=>
  intro vs hl hg;cases vs with
  | nil=>simp at hl
  | cons v vs=>
   obtain⟨w,e,rv⟩:=hg 0 i v rfl rfl;obtain⟨ws,rs,hk⟩:=ih (vs:=vs) (by simpa using hl) fun j x u h1 h2=>hg (j+1) x u (by simpa using h1) (by simpa using h2);refine⟨w::ws,.cons rv rs,fun k'=>?_⟩;show YU T i (fun v=>EB ls ⟨T,[],g⟩ fun vs=>k' (v::vs))=_;unfold YU;rw [nH,e];exact hk _
theorem Jp{l b:Nat}{st:LoopState}{pe:Option Code}{bb:Bool}{Kv:KV}{K:VK} (s:VS P B Sb c h S) (hb:c.Z l=some b) (k:KR P B Sb c h S Kv K) (hv:JR l st pe bb h Kv):
 ∃T ps as bo Mz pe',S.obj b=some (.loop T ps as bo Mz pe')/\K (.bool bb) (S.set b (.loop T ps as bo st pe))=true:=by
 unfold JR at hv;split at hv
 ·rename_i ls vs n ps as bo Mz pe' e
  obtain⟨b',ao,b1,b2,b3,b4,b5⟩:=s.ob l _ e rfl;rw [hb]at b1;injection b1 with b1;subst b1;obtain⟨T,rfl,b6,b7,b8⟩:=b5
  obtain⟨s3,f3⟩:=s.Xb e rfl hb (o:= .loop ls vs n ps as bo st pe) (ao:= .loop T ps as bo st pe) rfl (fun S' C' f=>⟨T,rfl,b6,b7,fun j i v e1 e2=>by
   obtain⟨w,g1,g2⟩:=b8 j i v e1 e2;exact⟨w,g1,g2.mono (.refl _) f⟩⟩)
  exact⟨T,ps,as,bo,Mz,pe',b4,k _ _ _ _ _ (.refl _) f3 s3 .bool hv⟩
 ·cases hv
theorem aEC{tb:FuncId->tD}{Ev:VE}{E:Env} (r:ER P B Sb Ev E) (l b:Nat){args:List V}{ws:List Value}{Kv:KV}{K:VK} (s:VS P B Sb c h S) (hb:c.Z l=some b) (ra:mA c S (dN B c h) args ws) (k:KR P B Sb c h S Kv K) (hv:Dg P tb Ev l args h Kv):Qp P tb E b ws S K=true:=by
 unfold Dg at hv;split at hv
 ·rename_i ls vs n ps as bo st pe e
  obtain⟨rfl,hv⟩:=hv;obtain⟨b',ao,b1,b2,b3,b4,b5⟩:=s.ob l _ e rfl;rw [hb]at b1;injection b1 with b1;subst b1;obtain⟨T,rfl,rfl,b7,b8⟩:=b5;unfold Qp;rw [aCD b4];simp only;have m0:Mb (c.at S.n) S (dN B c h) []:=⟨bO _,.nil,fun d hd=>by cases hd⟩;obtain⟨us,rs,hus⟩:=aKM (g:=P.globals.size) b7 b8;rw [hus];unfold YD at hv;refine TL (c:=c.at S.n) m0 (rs.uI (c.at0 _) .refl) hv fun X X' x hv=>?_;refine aHG (g:=P.globals.size) (marks:=[]) (fun T1 T1' a hv=>?_) (ra.uI (c.at0 _) .refl) (show AR (c.at S.n) S (dN B c h) ⟨X.tmps,P.globals.size⟩ ⟨X'.tmps,[],P.globals.size⟩from⟨x.n,rfl,m0,x.got,x.abs⟩) hv
  have back:∀{c':Cx} {h':Hp} {S':St},(c.at S.n).le c'->FB (dN B c h) S S' (dN B c' h')->KR P B Sb (c'.at c.n0) h' S' Kv K:=by
   intro c' h' S' l1 f1 c2 h2 S2 v w l2 f2;have l3:c.le (c'.at c.n0):=⟨fun i b e=>l1.Z i b e,fun i n v e=>l1.G i n v e,fun i v e=>l1.Yz i v e,rfl⟩;exact k c2 h2 S2 v w (l3.trans l2) (f1.trans f2)
  refine ZN r (aAJ r FH) as (s.at S.n) (.inr ⟨l,b,rfl,rfl,hb⟩) a ?_ hv;intro c' h' S' Y Y' e' l1 f1 s' y hv;cases e' with
  | exit i=>cases hv
  | ret=>cases hv
  | normal=>
   have hv:Be l h' (fun S=>(tG P (tb (Iw T.n bo)) (some l) (Ab P (tb (Iw T.n bo)) (some l) FH) bo).f Ev Y S (aRv l Kv)):=hv;have TV:c'.Z l=some b:=l1.Z _ _ hb;unfold Be at hv;split at hv
   ·rename_i ls2 vs2 n2 ps2 as2 bo2 pe2 e2
    obtain⟨b',ao,q1,q2,q3,q4,q5⟩:=s'.ob l _ e2 rfl;rw [TV]at q1;injection q1 with q1;subst q1;obtain⟨T2,rfl,q6,q7,q8⟩:=q5
    show(rV S'.h b fun o=>match o with
     | .loop tm ps as bo' .ready pe=>tK S' b (.loop tm ps as bo' .busy pe) fun S=>(qA P (tb (Iw T.n bo)) (lpX P (tb (Iw T.n bo)) FH) bo).f E (some b) Y' S (aMg b K)
     | _=>false)=true
    rw [aCD q4];simp only;rw [iB]
    obtain⟨s3,f3⟩:=s'.Xb e2 rfl TV (o:= .loop ls2 vs2 n2 ps2 as2 bo2 .busy pe2) (ao:= .loop T2 ps2 as2 bo2 .busy pe2) rfl (fun S' C' f=>⟨T2,rfl,q6,q7,fun j i v e1 e2=>by
     obtain⟨w,g1,g2⟩:=q8 j i v e1 e2;exact⟨w,g1,g2.mono (.refl _) f⟩⟩)
    refine ZN r (aAJ r FH) bo s3 (.inr ⟨l,b,rfl,rfl,TV⟩) (y.mono (.refl _) f3) ?_ hv;intro c2 h2 S2 z0 z0' e3 l2 f2 s2 z hv;have NN:c2.Z l=some b:=l2.Z _ _ TV;have kk:=back (l1.trans l2) ((f1.trans f3).trans f2);unfold aMg;cases e3 with
    | normal=>
     obtain⟨T3,ps3,as3,bo3,st3,pe3,g1,g2⟩:=Jp (s2.at c.n0) NN kk hv;rw [aCD g1];simp only;rw [iB];exact g2
    | ret=>
     obtain⟨T3,ps3,as3,bo3,st3,pe3,g1,g2⟩:=Jp (s2.at c.n0) NN kk hv;rw [aCD g1];simp only;rw [iB];exact g2
    | exit i=>
     obtain⟨T3,ps3,as3,bo3,st3,pe3,g1,g2⟩:=Jp (s2.at c.n0) NN kk hv;rw [aCD g1];simp only;rw [iB];exact g2
   ·cases hv
 ·cases hv
def aNK (P:Program) (B:Nat->Prop) (Sb:St) (ovv:OvV) (ov:FuncId->Option (List Value->St->VK->Bool)):Prop:=
 (∀f,ovv f=none->ov f=none)/\∀f g,ovv f=some g->∃g',ov f=some g'/\∀{args:List V} {ws:List Value} {c:Cx} {h:Hp} {S:St} {Kv:KV} {K:VK},VS P B Sb c h S->mA c S (dN B c h) args ws->KR P B Sb c h S Kv K->g args h Kv->g' ws S K=true
theorem aKN{tb:FuncId->tD}{ovv:OvV}{ov:FuncId->Option (List Value->St->VK->Bool)} (ho:aNK P B Sb ovv ov) (most:Nat):∀n,ER P B Sb (aAz P tb ovv most n) (aG9 P tb ov most n):=by
 intro n;induction n with
 | zero=>exact⟨rfl,rfl,fun f args ws c h S Kv K s ra k hv=>(by cases hv),fun l b args ws c h S Kv K s hb ra k hv=>(by cases hv)⟩
 | succ n ih=>
  refine⟨rfl,rfl,fun f args ws c h S Kv K s ra k hv=>?_,fun l b args ws c h S Kv K s hb ra k hv=>aEC ih l b s hb ra k hv⟩;have hv:(match ovv f with | some g=>g args h Kv | none=>jU P tb f (aAz P tb ovv most n) args h Kv):=hv;show(match ov f with | some g=>g ws S K | none=>fnX P tb f (aG9 P tb ov most n) ws S K)=true;cases hf:ovv f with
  | none=>
   rw [hf]at hv;rw [ho.1 f hf];exact aM2 ih f s ra k hv
  | some g=>
   rw [hf]at hv;obtain⟨g',e,hg⟩:=ho.2 f g hf;rw [e];exact hg s ra k hv
end
section
variable (P:Program) (T:tD) (r:Option Nat) (E:VE)
theorem Uw (m:Nat) (k k':Nat->Code->CV->Prop) (h:∀D c K,k D c K=pW m False fun _=>k' D c K):∀(p:List Dir) (D:Nat) (c:Code) (ms:List Nat) (K:CV),uH P T r E p D c ms K k=pW m False fun _=>uH P T r E p D c ms K k':=by
 have hf:(False:Prop)=pW m False fun _=>False:=by cases m<;>rfl
 intro p;induction p with
 | nil=>intro D c ms K;exact h D c K
 | cons q p ih=>
  intro D c ms K
  cases q<;>cases c<;>first
   | exact hf
   | exact ih _ _ _ _
   | (cases D with
      | zero=>exact hf
      | succ D=>cases ms with
       | nil=>exact hf
       | cons m ms=>exact ih _ _ _ _)
end
section
variable{P:Program}{tb:FuncId->tD}
theorem Gu (f:FuncId) (E:VE) (p:List Dir) (ms:List Nat) (vs:List V) (S:Hp) (K:KV) (hm:E.most≠0):Wx P tb f E p ms vs S K=Wy P tb f E p ms vs S K:=by
 obtain⟨m,hm⟩:=bG hm;unfold Wx Wy;cases P.funcs[f]? with
 | none=>rfl
 | some fn=>
  simp only;cases fn.body with
  | none=>rfl
  | some c=>
   simp only
   rw [Uw P (tb f) none E E.most _ (fun D c K=>match IY (tb f) c with
    | some l=>cS S fun S=>TI l vs fn.ntmps P.globals.size fun A=>(tG P (tb f) none (Ab P (tb f) none D) c).f E A S K
    | none=>False) (fun D c K=>by
     cases IY (tb f) c with
     | none=>rw [hm];rfl
     | some l=>rfl),hm]
   rfl
theorem QP{E:VE}{l n:Nat}{ls:List Nat}{vs args:List V}{ps:List Tmp}{as bo:Code}{st:LoopState}{pe:Option Code}{S:Hp}{K:KV} (h:S l=some (.loop ls vs n ps as bo st pe)) (e:ls=Au tb n bo) (hr:YD P tb E n ps as bo l vs args S K):Dg P tb E l args S K:=by
 unfold Dg;simp only [h];exact⟨e,hr⟩
theorem aL{v:V}{S:Hp}{K:KV} (h:K v S):bE v S K:=⟨S,fun _=>v,fun _ _ h=>h,fun _=> .one (.mI v),fun _=>h⟩
theorem aE{S:Hp}{k:Hp->Prop} (h:k S):cS S k:=⟨S,fun _ _ h=>h,h⟩
theorem uE{S:Hp}{k:Hp->Prop} (S':Hp) (l:bP S' S) (h:k S'):cS S k:=⟨S',l,h⟩
theorem VE.Wz{E:VE}{c:FuncId}{args:List V}{S:Hp}{K:KV} (h:E.C c args S K):E.call c args S K:=
 ⟨S,fun _=>args,fun _ _ h=>h,fun _=>⟨rfl,fun j v u a b=>by rw [a]at b;injection b with b;subst b;exact .mI v⟩,fun _=>h⟩
theorem aHp{ov:OvV}{most n:Nat}{f:FuncId} (h:ov f=none) (args:List V) (S:Hp) (K:KV):(aAz P tb ov most (n+1)).C f args S K=jU P tb f (aAz P tb ov most n) args S K:=by
 show(match(generalizing:=false) ov f with | some g=>g args S K | none=>jU P tb f (aAz P tb ov most n) args S K)=_;rw [h]
theorem aMS{ov:OvV}{most n:Nat}{f:FuncId}{g:List V->Hp->KV->Prop} (h:ov f=some g) (args:List V) (S:Hp) (K:KV):(aAz P tb ov most (n+1)).C f args S K=g args S K:=by
 show(match(generalizing:=false) ov f with | some g=>g args S K | none=>jU P tb f (aAz P tb ov most n) args S K)=_;rw [h]
end
end Go.Am
namespace Go.Proofs.JJ
def ZX:Nat->Nat->Nat->Nat->Nat->Nat
 | 0,out,_,_,_=>out
 | f+1,out,a,e,m=>match Nat.beq e 0 with
  | true=>out
  | false=>ZX f (match Nat.beq (e%2) 1 with | true=>out*a%m | false=>out) (a*a%m) (e / 2) m
theorem Wj (f out a m:Nat):ZX f out a 0 m=out:=by cases f<;>rfl
theorem Wk{f out a e m:Nat} (h:0<e):ZX (f+1) out a e m=ZX f (if e%2=1 then out*a%m else out) (a*a%m) (e / 2) m:=by
 have e1:Nat.beq e 0=false:=by cases e with | zero=>omega | succ e=>rfl
 show(match Nat.beq e 0 with | true=>out | false=>_)=_;rw [e1];by_cases h2:e%2=1
 ·have e2:Nat.beq (e%2) 1=true:=by rw [h2];rfl
  simp only [e2,if_pos h2]
 ·have e2:Nat.beq (e%2) 1=false:=by have:e%2=0:=by omega
                                    rw [this];rfl
  simp only [e2,if_neg h2]
def iJ (a b m:Nat):Nat:=(a%m+m-b%m)%m
def DB:Nat->Nat->Nat->Nat->Nat->Nat->Nat×Nat
 | 0,r,_,x,_,_=>(r,x)
 | f+1,r,s,x,y,m=>match Nat.beq s 0 with
  | true=>(r,x)
  | false=>DB f s (r%s) y (iJ x (r / s*y%m) m) m
theorem Wl (f r x y m:Nat):DB f r 0 x y m=(r,x):=by cases f<;>rfl
theorem aHb{f r s x y m:Nat} (h:0<s):DB (f+1) r s x y m=DB f s (r%s) y (iJ x (r / s*y%m) m) m:=by
 have e1:Nat.beq s 0=false:=by cases s with | zero=>omega | succ s=>rfl
 show(match Nat.beq s 0 with | true=>_ | false=>_)=_;rw [e1]
end Go.Proofs.JJ
namespace Go.Am
open Go.RowKit Go.MapKept
section
variable{P:Program}{S S' S0:Hp}{K:KV}
theorem eS{i:Nat}{a b:Ob}:aJ (aJ S i a) i b=aJ S i b:=by
 funext j
 unfold aJ;by_cases h:j=i
 ·rw [aK h,aK h]
 ·rw [aG h,aG h,aG h]
theorem aCk{i:Nat}{a:Ob} (h:S i=some a):aJ S i a=S:=by
 funext j
 unfold aJ;by_cases e:j=i
 ·rw [aK e,e,h]
 ·rw [aG e]
theorem bP.refl (S:Hp):bP S S:=fun _ _ h=>h
theorem bP.trans{a b c:Hp} (h:bP a b) (k:bP b c):bP a c:=fun i o e=>k i o (h i o e)
theorem bP.aI{i:Nat}{a:Ob} (h:S i=none):bP S (aJ S i a):=fun j o e=>by
 unfold aJ;by_cases h1:j=i
 ·subst h1;rw [h]at e;cases e
 ·rw [aG h1];exact e
@[simp] theorem aTp {i o:Nat} {vs:List V} {t:TypeId} (h:S i=some (.row vs t)):aU (.ptr i o) S K=Gq vs o fun v=>K v S:=by
  show(match S i with | some (.row vs _)=>Gq vs o fun v=>K v S | _=>False)=_;rw [h]
@[simp] theorem qB {n i o:Nat} {vs:List V} {t:TypeId} (h:S i=some (.row vs t)):bJ n (.ptr i o) S K=YB vs o n fun l=>K (.agg l) S:=by
  show(match S i with | some (.row vs _)=>YB vs o n fun l=>K (.agg l) S | _=>False)=_;rw [h]
theorem tX{O:Tag}{cs:List Dt}{o:Nat}:aU (.nU O cs o) S K=Gq cs o fun d=>K (T (.sub O o) d) S:=rfl
theorem TC{n:Nat}{O:Tag}{cs:List Dt}{o:Nat}:bJ n (.nU O cs o) S K=YB cs o n fun l=>K (.agg (Tl O o l)) S:=rfl
theorem aZ{off i o:Nat}{k:V->Prop}:aS off (.ptr i o) k=k (.ptr i (o+off)):=rfl
theorem GQ{off o:Nat}{O:Tag}{cs:List Dt}{k:V->Prop}:aS off (.nU O cs o) k=k (.nU O cs (o+off)):=rfl
theorem cX{i o:Nat}{k:V->Prop}:nB P (.ptr i o) k=k (.ptr i o):=rfl
theorem Ro{b:Bool}{p q:Prop}:iQ (.bool b) p q=if b then p else q:=by cases b<;>rfl
theorem aM{w:Bool}{op:KV->Prop}{k:KV}:PF w (.bool w) op S k=op k:=by cases w<;>rfl
theorem eU{O:Tag}{cs:List Dt}{n:Nat}{k:V->Prop}:bK (.list O cs n) k=k (.int .i64 (.ofNat n)):=rfl
theorem gW{size n:Nat}{O:Tag}{cs:List Dt}{j:IntKind}{i:Nat} (h:i<n){k:V->Prop}:cI size (.list O cs n) (.int j (.ofNat i)) k=k (.nU O cs (i*size)):=by
 show(i<n/\_)=_;simp [h]
theorem cP{α:Type}{l:List α}{i:Nat}{a:α} (h:l[i]? =some a){k:α->Prop}:Gq l i k=k a:=by unfold Gq;rw [h]
theorem dG{α:Type}{l:List α}{o n:Nat} (h:o+n<=l.length){k:List α->Prop}:YB l o n k=k ((l.drop o).take n):=by unfold YB;simp [h]
theorem bP.none{a b:Hp} (h:bP a b){i:Nat} (e:b i=none):a i=none:=by
 cases q:a i with
 | none=>rfl
 | some o=>rw [h i o q]at e;cases e
theorem aJi{i j:Nat}{a:Ob} (e:aJ S i a j=none):j≠i/\S j=none:=by
 by_cases h:j=i
 ·subst h;rw [aB]at e;cases e
 ·rw [aC h]at e;exact⟨h,e⟩
theorem HZ{el:TypeId}{n:Nat}{zero:List Value}{z cs:List V} (hz:LR zero=some z) (My:z.length=n) (hc:cs.length=n) (ho:cs.all fV=true) (hk:∀j,S j=none->K (.own j 0 1 1) (aJ S j (.row cs el))):aP el 1 zero [(0,n,.agg cs)] S K:=by
 unfold aP sC;rw [hz];show iN [(0,n,.agg cs)] (List.replicate 1 z).flatten _;unfold iN;refine⟨ho,hc,by simp [My],?_⟩;unfold iN;have:aY 0 cs (List.replicate 1 z).flatten=cs:=by simp [aY,hc,<-My]
 rw [this];exact hk
theorem LQ{size i m c:Nat}{vs:List V}{t:TypeId} (h:S i=some (.row vs t)) (hl:vs.length=m*size){k:Nat->List V->Prop} (hk:k m vs):Um size (.own i 0 m c) S k:=by
 unfold Um;simp only [h];rw [dG (by omega),xS,mF (by omega)];exact hk
theorem rT{t:TypeId}{k:IntKind}{x y:Int}{K:V->Prop}:aH P .lss t (.int k x) (.int k y) K=K (.bool (decide (x<y))):=by simp [aH,yW,UD]
theorem KQ{t:TypeId}{k:IntKind}{x y:Int}{K:V->Prop}:aH P .leq t (.int k x) (.int k y) K=K (.bool (decide (x<=y))):=by simp [aH,yW,UD]
theorem QJ{t:TypeId}{k:IntKind}{x y:Int}{K:V->Prop}:aH P .gtr t (.int k x) (.int k y) K=K (.bool (decide (y<x))):=by simp [aH,yW,UD]
theorem CR{t:TypeId}{k:IntKind}{x y:Int}{K:V->Prop}:aH P .geq t (.int k x) (.int k y) K=K (.bool (decide (y<=x))):=by simp [aH,yW,UD]
theorem KO{t:TypeId}{k:IntKind}{x y:Int}{K:V->Prop}:aH P .eql t (.int k x) (.int k y) K=K (.bool (decide (x=y))):=by simp [aH,yW,UD]
theorem QK{t:TypeId}{k:IntKind}{x y:Int}{K:V->Prop}:aH P .neq t (.int k x) (.int k y) K=K (.bool (!decide (x=y))):=by simp [aH,yW,UD]
theorem KP{t:TypeId}{k:IntKind}{x y:Int}{K:V->Prop}:aH P .add t (.int k x) (.int k y) K=K (.int k (tC k (x+y))):=by simp [aH,yW,UD]
theorem Iz{t:TypeId}{k:IntKind}{x y:Int}{K:V->Prop}:aH P .sub t (.int k x) (.int k y) K=K (.int k (tC k (x-y))):=by simp [aH,yW,UD]
theorem Wn{t:TypeId}{k:IntKind}{x y:Int}{K:V->Prop}:aH P .mul t (.int k x) (.int k y) K=K (.int k (tC k (x*y))):=by simp [aH,yW,UD]
theorem aHk{t:TypeId}{k:IntKind}{x y:Int} (hy:y≠0){K:V->Prop}:aH P .rem t (.int k x) (.int k y) K=K (.int k (x.tmod y)):=by simp [aH,yW,UD,hy]
theorem wrap_small{n:Int} (h0: -9223372036854775808<=n) (h1:n<=9223372036854775807):tC .i64 n=n:=by
 rw [KZ,Ex _ _ (by simpa [IntKind.min,IntKind.bits,IntKind.signed]using h0) (by simpa [IntKind.max,IntKind.bits,IntKind.signed]using h1)]
theorem aEi{i:Nat} (h:i<4611686018427387904):tC .i64 (Int.ofNat i+Int.ofNat 1)=Int.ofNat (i+1):=by
 rw [wrap_small]<;>simp<;>omega
end
def Deep (P:Program) (tb:FuncId->tD) (ov:OvV) (M:Nat):Nat->VE->Prop
 | 0,x=>x.most=M
 | n+1,x=>x.most=M/\(∀f g,ov f=some g->x.C f=g)/\∃y,Deep P tb ov M n y/\(∀f,ov f=none->∀args S K,x.C f args S K=jU P tb f y args S K)/\∀l args S K,x.R l args S K=Dg P tb y l args S K
section
variable{P:Program}{tb:FuncId->tD}{ov:OvV}{M:Nat}{x:VE}{S:Hp}{K:KV}
theorem Deep.most{n:Nat} (h:Deep P tb ov M n x):x.most=M:=by cases n with | zero=>exact h | succ n=>exact h.1
theorem Deep.call{n:Nat} (hx:Deep P tb ov M (n+1) x){f:FuncId} (hf:ov f=none){args:List V} (h:∀y,Deep P tb ov M n y->jU P tb f y args S K):x.call f args S K:=by
 obtain⟨h1,h2,y,h3,h4,_⟩:=hx;exact VE.Wz (by rw [h4 f hf];exact h y h3)
theorem Deep.round{n:Nat} (hx:Deep P tb ov M (n+1) x){l:Nat}{args:List V} (h:∀y,Deep P tb ov M n y->Dg P tb y l args S K):x.R l args S K:=by
 obtain⟨h1,h2,y,h3,h4,h5⟩:=hx;rw [h5];exact h y h3
theorem Deep.JB{n:Nat} (hx:Deep P tb ov M (n+1) x){f:FuncId}{g:List V->Hp->KV->Prop} (hf:ov f=some g){args:List V} (h:g args S K):x.call f args S K:=by
 obtain⟨h1,h2,_⟩:=hx;exact VE.Wz (by rw [h2 f g hf];exact h)
theorem aHq (n:Nat):Deep P tb ov M n (aAz P tb ov M n):=by
 induction n with
 | zero=>rfl
 | succ n ih=>exact⟨rfl,fun f g h=>by funext args S K;exact aMS h args S K,_,ih,fun f h args S K=>aHp h args S K,fun l args S K=>rfl⟩
theorem NX{i o:Nat}{vs:List V}{t:TypeId}{v:V} (h:S i=some (.row vs t)) (ho:fV v=true) (hl:o<vs.length){k:Hp->Prop} (hk:k (aJ S i (.row (aY o [v] vs) t))):mB 1 (.ptr i o) v S k:=by
 unfold mB;simp only [h];unfold wN;cases v<;>first | (cases ho;done) | exact⟨rfl,by omega,hk⟩
theorem bL{v:V}{S':Hp} (l:bP S' S) (h:K v S'):bE v S K:=⟨S',fun _=>v,l,fun _=> .one (.mI v),fun _=>h⟩
theorem bX{t:TypeId}{cs:List V} (ho:cs.all fV=true) (hk:∀i,S i=none->K (.ptr i 0) (aJ S i (.row cs t))):iE t (.agg cs) S K:=⟨ho,hk⟩
theorem cB{z:List Value}{l:List V}{t:TypeId} (hz:LR z=some l) (hk:∀i,S i=none->K (.ptr i 0) (aJ S i (.row l t))):cN z t S K:=by
 unfold cN sC;rw [hz];exact hk
theorem aFM{t:TypeId}{i o:Nat} (h:Fw P t=some .ptr){k:V->Prop} (hk:k (.bool false)):aH P .eql t (.ptr i o) .Ma k:=⟨rfl,h,.inr rfl,(fun e=>by cases e),hk⟩
theorem Rp{sh:KSh}{z a:V}{ok:Bool}{m:Nat}{es:List (V×V)} (hm:S m=some (.map es)) (ha:TG sh a) (ho:∀e∈es,TG sh e.1) (h1:∀v,YC es a=some v->K (aAy ok v true) S) (h2:YC es a=none->K (aAy ok z false) S):Rl sh z ok (.yZ m) a S K:=by
 unfold Rl;simp only [hm];exact⟨ha,ho,h1,h2⟩
theorem gO{n i:Nat}{vs cs:List V}{t:TypeId} (h:S i=some (.row vs t)) (ho:cs.all fV=true) (hc:cs.length=n) (hl:vs.length=n){k:Hp->Prop} (hk:k (aJ S i (.row cs t))):mB n (.ptr i 0) (.agg cs) S k:=by
 unfold mB;simp only [h];refine⟨ho,hc,by omega,?_⟩;have:aY 0 cs vs=cs:=by simp [aY,hc,<-hl]
 rw [this];exact hk
theorem dZ{n i:Nat}{vs:List V}{t:TypeId} (h:S i=some (.row vs t)) (hl:vs.length=n) (hk:K (.agg vs) S):bJ n (.ptr i 0) S K:=by
 rw [qB h,dG (by omega),xS,mF (by omega)];exact hk
theorem dB{i:Nat}{vs:List V}{v:V}{k:V->Prop} (h:vs[i]? =some v) (hk:k v):uG i (.tuple vs) k:=by
 show Gq vs i k;rw [cP h];exact hk
theorem IF{w:Bool}{op:KV->Prop}{k:KV}:PF w YA op S k=k YA S:=by cases w<;>rfl
theorem kY{w:Bool}{u:V}{op:Prop->Prop}{k:Prop}:TF w (.bool w) u op k=op k:=by cases w<;>rfl
theorem oQ{op:Prop->Prop}{k:Prop}:TF true (.bool false) YA op k=k:=rfl
theorem yI{op:Prop->Prop}{k:Prop}:TF false (.bool true) YA op k=k:=rfl
theorem CX{w:Bool}{op:Prop->Prop}{k:Prop}:TF w YA YA op k=k:=by cases w<;>rfl
end
section
variable{P:Program}{S S' S0:Hp}{K:KV}{x:VE}
theorem LP{size n b:Nat}{j:IntKind}{i:Nat} (h:i<n){k:V->Prop}:cI size (.acc b n) (.int j (.ofNat i)) k=k (.wM b n (i*size)):=by
 show(i<n/\_)=_;simp [h]
theorem Rq{size n b o q c:Nat}{j:IntKind}{i:Nat} (h:i<q){k:V->Prop}:cI size (.IN b n o q c) (.int j (.ofNat i)) k=k (.wM b n (o+i*size)):=by
 show(i<q/\_)=_;simp [h]
theorem Jl{b n:Nat}{k:V->Prop}:bK (.acc b n) k=k (.int .i64 (.ofNat n)):=rfl
theorem Xa{b n o q c:Nat}{k:V->Prop}:bK (.IN b n o q c) k=k (.int .i64 (.ofNat q)):=rfl
theorem aCl{i n o:Nat}{vs:List V}{t:TypeId}{v:V} (h:S i=some (.gD vs t n)) (hv:vs[o]? =some v) (hk:K v S):aU (.wM i n o) S K:=by
 unfold aU;simp only [h];exact⟨trivial,by rw [cP hv];exact hk⟩
theorem aRq{i n o:Nat}{vs:List V}{t:TypeId}{v:V} (h:S i=some (.gD vs t n)) (ho:fV v=true) (hl:o<vs.length){k:Hp->Prop} (hk:k (aJ S i (.gD (aY o [v] vs) t n))):mB 1 (.wM i n o) v S k:=by
 unfold mB;simp only [h];unfold wN;cases v<;>first | (cases ho;done) | exact⟨trivial,rfl,by omega,hk⟩
theorem aAj{el size i n a:Nat}{vs:List V}{j:IntKind} (h:S i=some (.gD vs el n)) (hl:a<n){k:V->Prop} (hk:k (.IN i n (a*size) (n-a) (n-a))):LW el size (.acc i n) (some (.int j (.ofNat a))) none none S k:=by
 unfold LW;simp only [h];refine⟨trivial,trivial,?_⟩;show a<=n/\n<=n/\n<=n/\(a<n->k _)/\_;refine⟨by omega,by omega,by omega,fun _=>?_,fun e=>aX e (by omega)⟩;rw [dX];exact hk
theorem aMT{el size i n a:Nat}{vs:List V}{j:IntKind} (h:S i=some (.gD vs el n)) (h0:0<n) (hl:a<=n){k:V->Prop} (hk:k (.IN i n 0 a n)):LW el size (.acc i n) none (some (.int j (.ofNat a))) none S k:=by
 unfold LW;simp only [h];refine⟨trivial,trivial,?_⟩;show 0<=a/\a<=n/\n<=n/\(0<n->k _)/\_;refine⟨by omega,by omega,by omega,fun _=>?_,fun e=>aX e (by omega)⟩;simpa using hk
theorem aJt{el size i n:Nat}{vs:List V}{j:IntKind} (h:S i=some (.gD vs el n)){k:V->Prop} (hk:k (.emp i n)):LW el size (.acc i n) (some (.int j (.ofNat n))) none none S k:=by
 unfold LW;simp only [h];refine⟨trivial,trivial,?_⟩;show n<=n/\n<=n/\n<=n/\(n<n->k _)/\_;exact⟨by omega,by omega,by omega,fun e=>aX e (by omega),fun _=>hk⟩
theorem aEj{zero:List Value}{z vs:List V}{i n o q c:Nat}{t:TypeId} (h:S i=some (.gD vs t n)) (hz:LR zero=some z) (hq:0<q) (hl:o+(List.replicate q z).flatten.length<=vs.length){k:Hp->Prop} (hk:k (aJ S i (.gD (aY o (List.replicate q z).flatten vs) t n))):Df zero (.IN i n o q c) S k:=by
 obtain⟨p,rfl⟩:=bG (Nat.ne_of_gt hq);unfold Df sC;simp only [hz,h];exact⟨trivial,hl,hk⟩
def del (S:Hp) (i:Nat):Hp:=fun j=>if j=i then none else S j
theorem aAg{i:Nat}:bP (del S i) S:=fun j o e=>by
 unfold del at e;by_cases h:j=i
 ·rw [aK h]at e;cases e
 ·rw [aG h]at e;exact e
theorem LT{i:Nat}:del S i i=none:=aK rfl
theorem XQ{l n:Nat}{ls:List Nat}{vs:List V}{ps:List Tmp}{as bo:Code}{pe:Option Code} (h:S l=some (.loop ls vs n ps as bo .ready pe)){k:Hp->Prop} (hk:k (aJ S l (.loop ls vs n ps as bo .busy pe))):Be l S k:=by
 unfold Be;simp only [h];exact hk
theorem XR{l n:Nat}{ls:List Nat}{vs:List V}{ps:List Tmp}{as bo:Code}{st Mz:LoopState}{pe pe':Option Code}{b:Bool} (h:S l=some (.loop ls vs n ps as bo st pe)) (hk:K (.bool b) (aJ S l (.loop ls vs n ps as bo Mz pe'))):JR l Mz pe' b S K:=by
 unfold JR;simp only [h];exact hk
theorem XS{l n:Nat}{ls:List Nat}{vs:List V}{ps:List Tmp}{as bo:Code}{st:LoopState}{pe:Option Code} (h:S l=some (.loop ls vs n ps as bo st pe)) (hs:st≠ .busy){k:Option Code->Hp->Prop} (hk:k pe (aJ S l (.loop ls vs n ps as bo .exhausted pe))):Wv l S k:=by
 unfold Wv;simp only [h];cases st<;>first | exact aX rfl hs | exact hk
theorem QQ{g n:Nat}{a c:List V}{ls:List Nat}{vs:List V}{ps:List Tmp}{as bo:Code}{k:Option Code->Hp->Prop} (hk:∀l,S l=none->x.call g (a++[.yield l]++c) (aJ S l (.loop ls vs n ps as bo .ready none)) fun _ S=>Wv l S k):PH x (.func g a c) ls vs n ps as bo S k:=hk
theorem Fy{kn kr:Prop}{ke:Nat->Prop}:UJ none kn kr ke=kn:=rfl
theorem GM{vs:List V}{o:Nat}{v:V} (h:o<vs.length):aY o [v] vs=vs.set o v:=by
 unfold aY;apply xQ;intro j;rw [Of];by_cases h1:j<o
 ·rw [aG (by omega),BK,gV (by rw [mG];omega),sR,aK h1]
 ·by_cases h2:j=o
  ·subst h2
   rw [aK rfl,aK h,gV (by simp;omega),kQ (by rw [mG];omega),mG];rw [show j-min j vs.length=0 by omega];rfl
  ·rw [aG (by omega),kQ (by simp;omega),rH]
   simp only [jZ,mG,oN,Xv];rw [show o+(0+1)+(j-(min o vs.length+(0+1)))=j by omega]
end
section
variable{P:Program}{S S':Hp}{K:KV}{x:VE}
theorem aV{off i:Nat}{k:V->Prop}:aS off (.ptr i 0) k=k (.ptr i off):=by show k (.ptr i (0+off))=_;rw [dX]
theorem cK{v:V}{p:Prop} (h:BY v=true):aW v v p=p:=propext ⟨fun q=>q.2.2,fun q=>⟨rfl,h,q⟩⟩
theorem cM{k:IntKind}{z:Int}{p:Prop}:aW (.int k z) (.int k z) p=p:=cK rfl
theorem lR{b:Bool}{k:V->Prop}:VJ .not (.bool b) k=k (.bool (!b)):=rfl
theorem gX{v:V}{cs:List Dt}{n:Nat} (l:bP S' S) (h:Dx S' S v (.list cs n)) (hk:∀O,K (.list O cs n) S'):bE v S K:=
 ⟨S',fun O=> .list (O 0) cs n,l,fun _=> .one (.ZE h),fun _=>hk _⟩
end
end Go.Am
namespace Go.Mq
def RN:BitVec 64:=0x9E3779B97F4A7C15#64
def m1:BitVec 64:=0xBF58476D1CE4E5B9#64
def m2:BitVec 64:=0x94D049BB133111EB#64
def XM (s:BitVec 64):BitVec 64:=
 let a:=(s ^^^ (s >>> 30))*m1
 let b:=(a ^^^ (a >>> 27))*m2
 b ^^^ (b >>> 31)
def i1:BitVec 64:=0x96de1b173f119089#64
def i2:BitVec 64:=0x319642b2d24d8ec3#64
theorem aQV:m1*i1=1#64:=by decide
theorem aQW:m2*i2=1#64:=by decide
theorem aO2 (z:BitVec 64) (k:Nat) (h:64<=3*k):(z ^^^ (z >>> k)) ^^^ ((z ^^^ (z >>> k)) >>> k) ^^^ ((z ^^^ (z >>> k)) >>> (2*k))=z:=by
 apply BitVec.eq_of_getLsbD_eq;intro i hi;simp only [BitVec.getLsbD_xor,BitVec.getLsbD_ushiftRight];have e1:z.getLsbD (2*k+(k+i))=false:=BitVec.getLsbD_of_ge _ _ (by omega);have e2:k+(2*k+i)=2*k+(k+i):=by omega
 have e3:k+(k+i)=2*k+i:=by omega
 rw [e2,e1,e3];cases z.getLsbD i<;>cases z.getLsbD (k+i)<;>cases z.getLsbD (2*k+i)<;>rfl
def unB (y:BitVec 64):BitVec 64:=
 let b:=y ^^^ (y >>> 31) ^^^ (y >>> 62)
 let b:=b*i2
 let a:=b ^^^ (b >>> 27) ^^^ (b >>> 54)
 let a:=a*i1
 a ^^^ (a >>> 30) ^^^ (a >>> 60)
theorem aJc (s:BitVec 64):unB (XM s)=s:=by
 unfold unB XM;simp only;rw [aO2 _ 31 (by omega),BitVec.mul_assoc,aQW,BitVec.mul_one,aO2 _ 27 (by omega),BitVec.mul_assoc,aQV,BitVec.mul_one,aO2 _ 30 (by omega)]
def aB1 (x:BitVec 64):Prop:=18446744073709551610<=x.toNat
theorem aO3 (x:BitVec 64) (h:aB1 x):x=0xfffffffffffffffa#64\/x=0xfffffffffffffffb#64\/x=0xfffffffffffffffc#64\/x=0xfffffffffffffffd#64\/x=0xfffffffffffffffe#64\/x=0xffffffffffffffff#64:=by
 unfold aB1 at h;have hl:=x.isLt;have:x.toNat=18446744073709551610\/x.toNat=18446744073709551611\/x.toNat=18446744073709551612\/x.toNat=18446744073709551613\/x.toNat=18446744073709551614\/x.toNat=18446744073709551615:=by omega
 rcases this with h | h | h | h | h | h
 ·exact .inl (BitVec.eq_of_toNat_eq h)
 ·exact .inr (.inl (BitVec.eq_of_toNat_eq h))
 ·exact .inr (.inr (.inl (BitVec.eq_of_toNat_eq h)))
 ·exact .inr (.inr (.inr (.inl (BitVec.eq_of_toNat_eq h))))
 ·exact .inr (.inr (.inr (.inr (.inl (BitVec.eq_of_toNat_eq h)))))
 ·exact .inr (.inr (.inr (.inr (.inr (BitVec.eq_of_toNat_eq h)))))
theorem once (s:BitVec 64) (h:aB1 (XM s)):¬aB1 (XM (s+RN)):=by
 have e:=aJc s;rcases aO3 _ h with q | q | q | q | q | q
 all_goals
  rw [q]at e;rw [<-e];unfold aB1;decide
end Go.Mq
namespace Go.Am
open Go.RowKit Go.MapKept
theorem mapM_some{α β:Type}{f:α->Option β}:∀{l:List α} {xs:List β},l.mapM f=some xs->xs.length=l.length/\∀(i:Nat) (a:α),l[i]? =some a->∃x,xs[i]? =some x/\f a=some x:=by
 intro l;induction l with
 | nil=>intro xs h;simp at h;subst h;exact⟨rfl,fun i a h=>by simp at h⟩
 | cons b l ih=>
  intro xs h;rw [Hy]at h;cases hb:f b with
  | none=>rw [hb]at h;cases h
  | some y=>
   rw [hb]at h;cases hl:l.mapM f with
   | none=>rw [hl]at h;cases h
   | some ys=>
    rw [hl]at h;have h:some (y::ys)=some xs:=h;injection h with h;subst h;obtain⟨i1,i2⟩:=ih hl;refine⟨by simp [i1],fun i a ha=>?_⟩;cases i with
    | zero=>simp at ha;subst ha;exact⟨y,rfl,hb⟩
    | succ i=>simpa using i2 i a (by simpa using ha)
def aDz (P:Program) (g:TypeId->Option (List It)):List Field->Nat->Option (List It)
 | [],_=>some []
 | fd::fs,off=>if fd.offset=off then match g fd.type,cQ P fd.type with
  | some its,some m=>if m=its.length then(aDz P g fs (off+m)).map (its++ ·)else none
  | _,_=>none else none
def aDA (P:Program):Nat->TypeId->Option (List It)
 | 0,_=>none
 | f+1,t=>match P.underlying t with
  | some .bool=>some [.is]
  | some (.int .u64)=>some [.num]
  | some (.int .u8)=>some [.kind]
  | some (.int .i64)=>some [.int]
  | some .string=>some [.text]
  | some (.slice e)=>match aDA P f e,cQ P e,P.bytesOf e with
   | some (i::its),some m,by0+1=>if m=its.length+1/\aDB (i::its)<=by0+1 then(match i,its with | .num,[]=>some [.Ip] | i,its=>some [.list (i::its)])else none
   | _,_,_=>none
  | some (.struct fs)=>match aDz P (aDA P f) fs.toList 0,cQ P t with
   | some its,some m=>if m=its.length then some its else none
   | _,_=>none
  | _=>none
def Lay (P:Program) (w:World) (U:Rn) (S:St):Prop:=Rel P w U S w/\∀i o,S.obj i=some o->o.reads=true
section
variable{P:Program}{w:World}
theorem Lay.add{U:Rn}{S:St} (h:Lay P w U S) (vs:List Value) (e:TypeId) (L:Loc){cs:Array Value}{t:TypeId}{fz:Nat×Nat} (hb:w.heap[L.b]? =some (.cells cs t fz))
 (hc:∀(j:Nat) (v:Value),vs[j]? =some v->∃v',cs[L.s+j]? =some v'/\VR U v v') (hm:cQ P e=some L.m) (hz:∀j,j<vs.length->¬(fz.1<=L.s+j/\L.s+j<fz.2)):
 Lay P w (U.put S.n L) (S.new (.cells vs e .rs))/\Ext U (U.put S.n L):=by
 obtain⟨h,hr⟩:=h;have TX:=h.dom S.n (bO _);have he:Ext U (U.put S.n L):=Rn.SI TX
 have wB:∀j M,U.put S.n L j=some M->(j=S.n/\M=L)\/(j≠S.n/\U j=some M):=fun j M hj=>by
  unfold Rn.put at hj;by_cases e:j=S.n
  ·rw [aK e]at hj;injection hj with hj;exact .inl ⟨e,hj.symm⟩
  ·rw [aG e]at hj;exact .inr ⟨e,hj⟩
 have vJ:∀j x,(S.new (.cells vs e .rs)).obj j=some x->(j=S.n/\x= .cells vs e .rs)\/(j≠S.n/\S.obj j=some x):=fun j x hx=>by
  rw [YY]at hx;by_cases e:j=S.n
  ·rw [aK e]at hx;injection hx with hx;exact .inl ⟨e,hx.symm⟩
  ·rw [aG e]at hx;exact .inr ⟨e,hx⟩
 have XE:∀j x,(S.new (.cells vs e .rs)).obj j=some x->x.reads=true:=fun j x hx=>by
  rcases vJ j x hx with ⟨_,rfl⟩ | ⟨_,hx⟩
  ·rfl
  ·exact hr j x hx
 have hlt:L.b<w.heap.size:=(sQ.1 hb).1;refine⟨⟨⟨fun g hg=>let⟨M,h1,h2⟩:=h.Pe g hg;⟨M,he _ _ h1,h2⟩,fun j x hx=>?_,fun j hj=>?_,fun j x hx=>?_,fun j M hj=>?_,fun i j a b M N Tt ha TV _ _ _ _ _=> .inl ⟨XE i a ha,XE j b TV⟩,fun j us e' olds hj i hi=>?_,h.base⟩,XE⟩,he⟩
 ·rcases vJ j x hx with ⟨rfl,rfl⟩ | ⟨_,hx⟩
  ·exact⟨L,cs,t,fz,Rn.mW _ _ _,hb,fun j v hv=>let⟨v',a,b⟩:=hc j v hv;⟨v',a,b.mono he⟩,hm,hz⟩
  ·exact(h.PB j x hx).frame he fun _ _=>rfl
 ·have Yn:S.n+1<=j:=hj
  unfold Rn.put;rw [aG (by omega)];exact h.dom j (by omega)
 ·rcases vJ j x hx with ⟨rfl,_⟩ | ⟨_,hx⟩
  ·exact xR _
  ·exact sS (h.lt j x hx)
 ·rcases wB j M hj with ⟨_,rfl⟩ | ⟨_,hM⟩
  ·exact hlt
  ·exact h.loc j M hM
 ·have:=XE j _ hj
  simp [jD.reads]at this
def vL (P:Program) (w:World) (cs:List Value) (its:List It):Prop:=
 ∀(U:Rn) (S:St),Lay P w U S->∃U' S' vs ds,Ext U U'/\Lay P w U' S'/\ST S S'/\lZ U' vs cs/\RdA S' (fun _=>False) its vs ds
theorem ST.none{S S':St} (h:ST S S'):FB (fun _=>False) S S' (fun _=>False):=h.fr _
theorem vL.plain{v:Value}{it:It}{d:D} (hf:bW v=true) (hr:∀S,Rd S (fun _=>False) it v d):vL P w [v] [it]:=fun U S h=>
 ⟨U,S,[v],[d],.refl U,h,.refl S,.cons (.flat hf) (.nil U),rfl,rfl,fun j it' v' d' a b c=>by
  cases j with
  | zero=>simp at a b c;subst a b c;exact hr S
  | succ j=>simp at a⟩
theorem vL.append{a b:List Value}{x y:List It} (h:vL P w a x) (k:vL P w b y):vL P w (a++b) (x++y):=fun U S hl=>by
 obtain⟨U1,S1,v1,d1,e1,l1,x1,r1,s1⟩:=h U S hl;obtain⟨U2,S2,v2,d2,e2,l2,x2,r2,s2⟩:=k U1 S1 l1;refine⟨U2,S2,v1++v2,d1++d2,e1.trans e2,l2,x1.trans x2,(r1.mono e2).append r2,by simp [s1.len,s2.len],by simp [s1.Zh,s2.Zh],fun j it v d p q r=>?_⟩;have s1':=s1.fr x2.none;by_cases hj:j<x.length
 ·rw [gV hj]at p
  rw [gV (by rw [s1.len];exact hj)]at q;rw [gV (by rw [s1.Zh];exact hj)]at r;exact s1'.rd j it v d p q r
 ·rw [kQ (by omega)]at p
  rw [kQ (by rw [s1.len];omega),s1.len]at q;rw [kQ (by rw [s1.Zh];omega),s1.Zh]at r;exact s2.rd _ it v d p q r
theorem aL4{its:List It}:∀{css:List (List Value)},(∀cs∈css,vL P w cs its)->∀(U:Rn) (S:St),Lay P w U S->∃(U':Rn) (S':St) (vss:List (List Value)) (ZW:List (List D)),Ext U U'/\Lay P w U' S'/\ST S S'/\vss.length=css.length/\ZW.length=css.length/\
 (∀(k:Nat) (vs cs:List Value),vss[k]? =some vs->css[k]? =some cs->lZ U' vs cs)/\∀(k:Nat) (vs:List Value) (ds:List D),vss[k]? =some vs->ZW[k]? =some ds->RdA S' (fun _=>False) its vs ds:=by
 intro css;induction css with
 | nil=>intro _ U S h;exact⟨U,S,[],[],.refl U,h,.refl S,rfl,rfl,by simp,by simp⟩
 | cons cs css ih=>
  intro rY U S h;obtain⟨U1,S1,v1,d1,e1,l1,x1,r1,s1⟩:=rY cs (.head _) U S h;obtain⟨U2,S2,vss,ZW,e2,l2,x2,n1,n2,r2,s2⟩:=ih (fun c hc=>rY c (.tail _ hc)) U1 S1 l1;refine⟨U2,S2,v1::vss,d1::ZW,e1.trans e2,l2,x1.trans x2,by simp [n1],by simp [n2],fun k vs cs' a b=>?_,fun k vs ds a b=>?_⟩
  ·cases k with
   | zero=>simp at a b;subst a b;exact r1.mono e2
   | succ k=>exact r2 k vs cs' (by simpa using a) (by simpa using b)
  ·cases k with
   | zero=>simp at a b;subst a b;exact s1.fr x2.none
   | succ k=>exact s2 k vs ds (by simpa using a) (by simpa using b)
theorem Ko{α:Type}{m:Nat}:∀{l:List (List α)},(∀x∈l,x.length=m)->∀(k j:Nat),j<m->l.flatten[k*m+j]? =(l[k]?).bind (·[j]?):=by
 intro l;induction l with
 | nil=>intro _ k j _;simp
 | cons x l ih=>
  intro h k j hj;have hx:=h x (.head _);cases k with
  | zero=>
   rw [OT,gV (by omega)];simp
  | succ k=>
   rw [OT,kQ (by rw [hx,KU];omega),hx];rw [show(k+1)*m+j-m=k*m+j by rw [KU];omega,ih (fun y hy=>h y (.tail _ hy)) k j hj];simp
theorem aBL{α:Type}{m:Nat}:∀{l:List (List α)},(∀x∈l,x.length=m)->l.flatten.length=l.length*m:=by
 intro l;induction l with
 | nil=>intro _;simp
 | cons x l ih=>intro h;rw [OT,jZ,h x (.head _),ih fun y hy=>h y (.tail _ hy),oN,KU];omega
end
section
variable{P:Program}{w:World}
theorem Kp{a:Addr}{n:Nat}{cs:List Value} (h:w.cells? 0 a n=some cs) (hn:0<n):∃c t fz,w.heap[a.block]? =some (.cells c t fz)/\a.spot=none:=by
 unfold World.cells? at h;rw [aK (BP _)]at h;obtain⟨_,h2⟩:=mapM_some h;obtain⟨x,_,hx⟩:=h2 0 0 (by simp [hn]);have hx:w.cell? a=some x:=by simpa [Addr.add]using hx
 unfold World.cell? at hx;cases hb:w.heap[a.block]? with
 | none=>rw [hb]at hx;cases hx
 | some o=>
  rw [hb]at hx;cases o with
  | cells c t fz=>
   simp only at hx;cases hs:a.spot with
   | none=>exact⟨c,t,fz,rfl,rfl⟩
   | some s=>rw [hs]at hx;simp at hx
  | _=>cases hx
theorem aGZ{b off n:Nat}{cs:List Value}{c:Array Value}{t:TypeId}{fz:Nat×Nat} (h:w.cells? 0 ⟨b,off,none⟩ n=some cs) (hb:w.heap[b]? =some (.cells c t fz)):cs.length=n/\∀(j:Nat) (v:Value),cs[j]? =some v->c[off+j]? =some v:=by
 unfold World.cells? at h;rw [aK (BP _)]at h;obtain⟨h1,h2⟩:=mapM_some h;have h1:cs.length=n:=by simpa using h1
 refine⟨h1,fun j v hv=>?_⟩;have hj:j<n:=by rw [<-h1];exact(dK.1 hv).1
 obtain⟨x,hx,hc⟩:=h2 j j (by simp [hj]);rw [hv]at hx;injection hx with hx;subst hx;rw [rX]at hc;unfold World.cell? at hc;rw [hb]at hc;simpa using hc
variable{H:Type}{enc:TypeId×Value->H}
theorem aBM{e:TypeId}{x:Nat}:∀{l:List (DataW H)} {d:DataW H},d∈l->x∈d.weights P e->x∈DataW.weightsAll P e l:=by
 intro l;induction l with
 | nil=>intro d h;cases h
 | cons y l ih=>
  intro d h hx;rw [DataW.weightsAll];rcases cC.1 h with rfl | h
  ·exact BM.2 (.inl hx)
  ·exact BM.2 (.inr (ih h hx))
theorem aG0{g:TypeId->Option (List It)}:∀{fs:List Field} {off:Nat} {its:List It},aDz P g fs off=some its->∀(cs:List Value) (F:TypeId->List Value->Option (DataW H×List MemPlace)) (xs:List (DataW H×List MemPlace)),
 (fs.mapM fun f=>F f.type ((cs.drop f.offset).take (P.cellsOf f.type)))=some xs->cs.length=off+its.length->
 (∀(k:Nat) (f:Field) (x:DataW H×List MemPlace),fs[k]? =some f->xs[k]? =some x->∀(i:List It) (c:List Value),g f.type=some i->F f.type c=some x->vL P w c i)->vL P w (cs.drop off) its:=by
 intro fs;induction fs with
 | nil=>
  intro off its h cs F xs _ hl _;unfold aDz at h;injection h with h;subst h;rw [pH (by simp at hl;omega)];exact fun U S hl=>⟨U,S,[],[],.refl U,hl,.refl S,.nil U,rfl,rfl,fun j it v d a=>by simp at a⟩
 | cons f fs ih=>
  intro off its h cs F xs hx hl rY;unfold aDz at h;split at h
  ·rename_i aGz
   split at h
   ·rename_i i m hg hm
    split at h
    ·rename_i hmi
     cases hr:aDz P g fs (off+m)with
     | none=>rw [hr]at h;cases h
     | some rest=>
      rw [hr]at h;have h:some (i++rest)=some its:=h;injection h with h;subst h;obtain⟨x1,x2⟩:=mapM_some hx;obtain⟨x,Nf,hF⟩:=x2 0 f rfl
      have hcm:P.cellsOf f.type=m:=by
       unfold Program.cellsOf;unfold cQ at hm;rw [hm];rfl
      rw [hcm,aGz]at hF;have h1:vL P w ((cs.drop off).take m) i:=rY 0 f x rfl Nf i _ hg hF
      have hxs:∃ys,xs=x::ys:=by
       cases xs with
       | nil=>simp at Nf
       | cons y ys=>simp at Nf;subst Nf;exact⟨ys,rfl⟩
      obtain⟨ys,rfl⟩:=hxs
      have hys:(fs.mapM fun f=>F f.type ((cs.drop f.offset).take (P.cellsOf f.type)))=some ys:=by
       rw [Hy]at hx;cases ha:F f.type ((cs.drop f.offset).take (P.cellsOf f.type))with
       | none=>rw [ha]at hx;cases hx
       | some y=>
        rw [ha]at hx;cases hb:(fs.mapM fun f=>F f.type ((cs.drop f.offset).take (P.cellsOf f.type)))with
        | none=>rw [hb]at hx;cases hx
        | some zs=>
         rw [hb]at hx;have hx:some (y::zs)=some (x::ys):=hx;injection hx with hx;injection hx with _ hx;rw [hx]
      have h2:=ih hr cs F ys hys (by rw [hl,jZ];omega) fun k f' x' a b=>rY (k+1) f' x' (by simpa using a) (by simpa using b);have:=h1.append h2
      rwa [show(cs.drop off).take m++cs.drop (off+m)=cs.drop off by rw [<-By];exact List.take_append_drop _ _]at this
    ·cases h
   ·cases h
  ·cases h
end
section
variable{P:Program}{w:World}{H:Type}{enc:TypeId×Value->H}
theorem aIB{k:IntKind}{n:Int} (h:(Lit.int k n).wf=true):k.min<=n/\n<=k.max:=by
 unfold Lit.wf at h;simpa using h
theorem aG1{a:Addr}{len cap m:Nat}{e:TypeId}{its:List It}{els:List (DataW H×List MemPlace)}{F:List Value->Option (DataW H×List MemPlace)} (hm:its.length=m) (Lo:0<m) (hsz:cQ P e=some m) (aSF:P.cellsOf e=m) (hlc:len<=cap)
 (hel:(List.range len).mapM (fun i=>(w.cells? 0 (a.add (i*m)) m).bind F)=some els) (hN:len<=140737488355328/\len*aDB its<=140737488355328)
 (AW:cap=0\/∃c t fz,w.heap[a.block]? =some (.cells c t fz)/\a.spot=none)
 (hz:∀i,i<len*m->w.frozen? ⟨a.block,a.off+i,none⟩=false)
 (rY:∀x∈els,∀cs,F cs=some x->vL P w cs its):
 ∀(U:Rn) (S:St),Lay P w U S->∃U' S' v ds,Ext U U'/\Lay P w U' S'/\ST S S'/\VR U' v (.slice (some a) len cap)/\Rd S' (fun _=>False) (.list its) v (.l ds):=by
 intro U S hl;rcases OS cap with hc0 | hc0
 ·have:len=0:=by omega
  subst this hc0;obtain⟨b,o,sp⟩:=a;refine⟨U,S,.slice (some ⟨b,o,some ((match sp with | none=>0 | some k=>k+1)+2)⟩) 0 0,[],.refl U,hl,.refl S,.DQ ?_,.Zi⟩;cases sp<;>rfl
 ·rcases AW with AW | ⟨c,t,fz,hb,aIC⟩
  ·omega
  ·obtain⟨b,o,sp⟩:=a
   have aIC:sp=none:=aIC;subst aIC;obtain⟨h1,h2⟩:=mapM_some hel;have h1:els.length=len:=by simpa using h1
   let css:List (List Value):=(List.range len).map fun i=>(w.cells? 0 ((⟨b,o,none⟩:Addr).add (i*m)) m).getD []
   have aQP:∀i,i<len->∃cs x,css[i]? =some cs/\w.cells? 0 ⟨b,o+i*m,none⟩ m=some cs/\els[i]? =some x/\F cs=some x:=by
    intro i hi;obtain⟨x,hx,hF⟩:=h2 i i (by simp [hi]);rw [rX]at hF;cases wL:w.cells? 0 ⟨b,o+i*m,none⟩ m with
    | none=>rw [wL]at hF;cases hF
    | some cs=>
     rw [wL]at hF;refine⟨cs,x,?_,rfl,hx,hF⟩;show((List.range len).map fun i=>(w.cells? 0 ((⟨b,o,none⟩:Addr).add (i*m)) m).getD [])[i]? =some cs;rw [dJ,VW hi];show some ((w.cells? 0 ((⟨b,o,none⟩:Addr).add (i*m)) m).getD [])=some cs;rw [rX,wL];rfl
   have Du:css.length=len:=by show((List.range len).map _).length=len;simp
   have aSG:∀cs∈css,vL P w cs its:=by
    intro cs wL;obtain⟨i,hi⟩:=Bt wL;have hil:i<len:=by rw [<-Du];exact(dK.1 hi).1
    obtain⟨cs',x,g1,_,g3,g4⟩:=aQP i hil;rw [hi]at g1;injection g1 with g1;subst g1;exact rY x (BJ g3) cs g4
   obtain⟨U1,S1,vss,ZW,e1,l1,x1,n1,n2,r1,s1⟩:=aL4 aSG U S hl
   have hvl:∀vs∈vss,vs.length=m:=by
    intro vs JG;obtain⟨i,hi⟩:=Bt JG;have hil:i<ZW.length:=by rw [n2,<-n1];exact(dK.1 hi).1
    rw [(s1 i vs _ hi (aQ hil)).len,hm]
   have RY:=aBL hvl
   have hA:∀(j:Nat) (v:Value),vss.flatten[j]? =some v->∃v',c[o+j]? =some v'/\VR U1 v v':=by
    intro j v hj
    have hjl:j<len*m:=by
     have:=(dK.1 hj).1;rw [RY,n1,Du]at this;exact this
    have hk:j / m<len:=Nat.div_lt_of_lt_mul (by rw [Nat.mul_comm];exact hjl);have hjm:j%m<m:=gI _ Lo;have ej:j=(j / m)*m+j%m:=by rw [Nat.mul_comm];exact(Nat.div_add_mod j m).symm
    rw [ej,Ko hvl _ _ hjm]at hj;obtain⟨cs,x,g1,g2,g3,g4⟩:=aQP (j / m) hk;cases hvk:vss[j / m]? with
    | none=>rw [hvk]at hj;cases hj
    | some vs=>
     rw [hvk]at hj;have hvr:=r1 _ vs cs hvk g1;obtain⟨v',PY,hr'⟩:=hvr.get hj;obtain⟨_,q2⟩:=aGZ g2 hb;have:=q2 _ _ PY;exact⟨v',by rw [vG,<-ej]at this;exact this,hr'⟩
   have hB:∀j,j<vss.flatten.length->¬(fz.1<=o+j/\o+j<fz.2):=by
    intro j hj;have hjl:j<len*m:=by rw [RY,n1,Du]at hj;exact hj
    have:=hz j hjl;unfold World.frozen? at this;rw [hb]at this;intro⟨q1,q2⟩;simp at this;have:=this q1;omega
   obtain⟨l2,e2⟩:=l1.add vss.flatten e ⟨b,o,0,m⟩ hb hA hsz hB;have x2:=ST.new S1 (.cells vss.flatten e .rs);refine⟨_,_,.slice (some ⟨S1.n,0,none⟩) len cap,ZW,e1.trans e2,l2,x1.trans x2,?_,?_⟩
   ·have:=VR.slice (U:=U1.put S1.n ⟨b,o,0,m⟩) (o:=0) (n:=len) (c:=cap) (Rn.mW U1 S1.n ⟨b,o,0,m⟩)
    exact this
   ·refine .row (e:=e) (ck:= .rs) rfl (xR _) (fun h=>h) vM (.inl rfl) (by rw [n2,Du]) (by rw [RY,n1,Du,hm];omega) (fun ds hds=>?_) hN hlc (fun k ds j it v d a1 a2 a3 a4=>?_)
    ·obtain⟨i,hi⟩:=Bt hds
     have hil:i<vss.length:=by rw [n1,<-n2];exact(dK.1 hi).1
     exact(s1 i _ ds (aQ hil) hi).Zh
    ·have hjm:j<m:=by rw [<-hm];exact(dK.1 a2).1
     rw [hm,dX,Ko hvl k j hjm]at a3;cases hk:vss[k]? with
     | none=>rw [hk]at a3;cases a3
     | some vs=>
      rw [hk]at a3;exact((s1 k vs ds hk a1).fr x2.none).rd j it v d a2 a3 a4
theorem Zk{y:Nat}:∀{fs:List Field} {xs:List (DataW H×List MemPlace)} {j:Nat} {f:Field} {x:DataW H×List MemPlace},fs[j]? =some f->xs[j]? =some x->y∈x.1.weights P f.type->y∈DataW.weightsEach P (fs.map (·.type)) (xs.map (·.1)):=by
 intro fs;induction fs with
 | nil=>intro xs j f x h;simp at h
 | cons g fs ih=>
  intro xs j f x h1 h2 h3;cases xs with
  | nil=>simp at h2
  | cons z xs=>
   rw [Ca,Ca,DataW.weightsEach];cases j with
   | zero=>simp at h1 h2;subst h1 h2;exact BM.2 (.inl h3)
   | succ j=>exact BM.2 (.inr (ih (by simpa using h1) (by simpa using h2) h3))
theorem lay (sp:Nat->Bool) (AW:∀b,sp b=true):∀(F k:Nat) (t:TypeId) (cs:List Value) (d:DataW H) (ps:List MemPlace),DataW.trod enc P w 0 sp true F t cs=some (d,ps)->(∀b off,MemPlace.cell b off∈ps->w.frozen? ⟨b,off,none⟩=false)->
 (∀x∈d.weights P t,x<=reachBytes)->∀its,aDA P k t=some its->vL P w cs its:=by
 intro F;induction F with
 | zero=>intro k t cs d ps h;cases h
 | succ F ih=>
  intro k t cs d ps h hz hw its hi;cases k with
  | zero=>cases hi
  | succ k=>
   unfold aDA at hi;unfold DataW.trod at h;cases hu:P.underlying t with
   | none=>rw [hu]at hi;cases hi
   | some td=>
    rw [hu]at hi h;cases td with
    | bool=>
     injection hi with hi;subst hi
     match cs,h with
     | [.bool b],_=>exact vL.plain rfl fun S=> .is
    | int kd=>
     match cs,h with
     | [.int k' n],h=>
      simp only at h;split at h
      ·rename_i hk
       obtain⟨rfl,hwf⟩:=hk;obtain⟨r1,r2⟩:=aIB hwf;cases k' with
       | u64=>
        injection hi with hi;subst hi;have r1:(0:Int)<=n:=r1;have r2:n<=18446744073709551615:=r2;obtain⟨m,rfl⟩:=aC5 r1;exact vL.plain rfl fun S=> .num (z:=m) (by omega)
       | u8=>
        injection hi with hi;subst hi;have r1:(0:Int)<=n:=r1;have r2:n<=255:=r2;obtain⟨m,rfl⟩:=aC5 r1;exact vL.plain rfl fun S=> .kind (z:=m) (by omega)
       | i64=>
        injection hi with hi;subst hi;have r1:(-9223372036854775808:Int)<=n:=r1;have r2:n<=9223372036854775807:=r2;exact vL.plain rfl fun S=> .int r1 (by omega)
       | _=>cases hi
      ·cases h
    | string=>
     injection hi with hi;subst hi
     match cs,h with
     | [.string s],h=>
      simp only at h;split at h
      ·injection h with h
       injection h with h _;subst h;obtain⟨⟨l⟩⟩:=s;have:=hw l.length (by simp [DataW.weights]);exact vL.plain rfl fun S=> .text (l:=l) (by unfold reachBytes at this;omega)
      ·cases h
    | slice e=>
     simp only at hi;split at hi
     ·rename_i i0 aL5 m by0 hit hsz hby
      split at hi
      ·rename_i hm
       obtain⟨hm,aSH⟩:=hm;have hcell:P.cellsOf e=m:=by unfold Program.cellsOf;unfold cQ at hsz;rw [hsz];rfl
       have aID:(∀(U:Rn) (S:St),Lay P w U S->∃U' S' v ds,Ext U U'/\Lay P w U' S'/\ST S S'/\lZ U' [v] cs/\Rd S' (fun _=>False) (.list (i0::aL5)) v (.l ds))->vL P w cs its:=by
        intro Tj U S hl;obtain⟨U',S',v,ds,g1,g2,g3,g4,g5⟩:=Tj U S hl;refine⟨U',S',[v],[.l ds],g1,g2,g3,g4,?_⟩;split at hi
        ·injection hi with hi;subst hi
         exact⟨rfl,rfl,fun j it v' d' a b c=>by
          cases j with
          | zero=>simp at a b c;subst a b c;exact .Ip g5
          | succ j=>simp at a⟩
        ·injection hi with hi;subst hi
         exact⟨rfl,rfl,fun j it v' d' a b c=>by
          cases j with
          | zero=>simp at a b c;subst a b c;exact g5
          | succ j=>simp at a⟩
       match cs,h,aID with
       | [.slice none 0 0],_,aID=>exact aID fun U S hl=>⟨U,S,_,[],.refl U,hl,.refl S,.cons (.flat rfl) (.nil U),.empty⟩
       | [.slice (some a) len cap],h,aID=>
        simp only at h;split at h
        ·rename_i aQQ
         rw [hcell]at h;cases aL6:(List.range len).mapM (fun i=>(w.cells? 0 (a.add (i*m)) m).bind (DataW.trod enc P w 0 sp true F e))with
         | none=>rw [aL6]at h;cases h
         | some els=>
          rw [aL6]at h;simp only [Hw,AW,if_true]at h;cases yB:(List.range (cap-len)).mapM (fun j=>(w.cells? 0 (a.add ((len+j)*m)) m).bind (DataW.trod enc P w 0 sp true F e))with
          | none=>rw [yB]at h;cases h
          | some rest=>
           rw [yB]at h;injection h with h;injection h with hd WG;subst hd WG;obtain⟨n1,n2⟩:=mapM_some aL6;obtain⟨n3,n4⟩:=mapM_some yB;have n1:els.length=len:=by simpa using n1
           have n3:rest.length=cap-len:=by simpa using n3
           have hwt:(els.length+rest.length)*P.bytesOf e<=reachBytes:=hw _ (by rw [DataW.weights,hu];simp);rw [hby,n1]at hwt
           have aOG:len*aDB (i0::aL5)<=140737488355328:=by
            unfold reachBytes at hwt;have h1:len*aDB (i0::aL5)<=len*by0.succ:=Nat.mul_le_mul_left _ aSH;have h2:len*by0.succ<=(len+rest.length)*by0.succ:=RP _ (Nat.le_add_right _ _);omega
           have aOH:len<=140737488355328:=by
            unfold reachBytes at hwt;have:len<=(len+rest.length)*by0.succ:=zR (Nat.le_add_right _ _) (Nat.le_mul_of_pos_right _ (Oo _));omega
           refine aID fun U S hl=>?_
           obtain⟨U',S',v,ds,g1,g2,g3,g4,g5⟩:=aG1 (F:=DataW.trod enc P w 0 sp true F e) (its:=i0::aL5) (e:=e) (by rw [hm];rfl) (by omega) hsz hcell aQQ.2.1 aL6 ⟨aOH,aOG⟩ (by
            rcases OS cap with h0 | h0
            ·exact .inl h0
            ·right
             rcases OS len with h1 | h1
             ·obtain⟨x,_,hx⟩:=n4 0 0 (VW (by omega))
              cases wL:w.cells? 0 (a.add ((len+0)*m)) m with
              | none=>rw [wL]at hx;cases hx
              | some c0=>
               rw [h1]at wL;simp only [VZ,VY]at wL;exact Kp (by simpa [Addr.add]using wL) (by omega)
             ·obtain⟨x,_,hx⟩:=n2 0 0 (VW (by omega))
              cases wL:w.cells? 0 (a.add (0*m)) m with
              | none=>rw [wL]at hx;cases hx
              | some c0=>
               simp only [VY]at wL;exact Kp (by simpa [Addr.add]using wL) (by omega)) (fun i hi=>by
            refine hz a.block (a.off+i) (BM.2 (.inl ?_));unfold MemPlace.row;refine kS.2 ⟨i,FU.2 ?_,rfl⟩;rw [n1];have:len*m<=(len+rest.length)*m:=RP _ (Nat.le_add_right _ _);omega) (fun x hx cs' hF=>by
            obtain⟨dx,px⟩:=x;refine ih k e cs' dx px hF (fun b off hb=>hz b off (BM.2 (.inr (List.mem_flatMap.2 ⟨(dx,px),BM.2 (.inl hx),hb⟩)))) (fun y hy=>hw y ?_) _ hit;rw [DataW.weights,hu];exact List.mem_cons_of_mem _ (BM.2 (.inl (aBM (kS.2 ⟨(dx,px),hx,rfl⟩) hy)))) U S hl
           exact⟨U',S',v,ds,g1,g2,g3,.cons g4 (.nil U'),g5⟩
        ·cases h
      ·cases hi
     ·cases hi
    | struct fs=>
     simp only at hi h
     have hi:∃m,aDz P (aDA P k) fs.toList 0=some its/\cQ P t=some m/\m=its.length:=by
      split at hi
      ·rename_i aTt m' h1 h2
       split at hi
       ·rename_i h3
        injection hi with hi;subst hi;exact⟨m',h1,h2,h3⟩
       ·cases hi
      ·cases hi
     obtain⟨mm,hi,hsz,hmm⟩:=hi;have hct:P.cellsOf t=mm:=by unfold Program.cellsOf;unfold cQ at hsz;rw [hsz];rfl
     split at h
     ·rename_i hlen
      cases hxs:(fs.toList.mapM fun f=>DataW.trod enc P w 0 sp true F f.type ((cs.drop f.offset).take (P.cellsOf f.type)))with
      | none=>rw [hxs]at h;cases h
      | some xs=>
       rw [hxs]at h;injection h with h;injection h with hd WG;subst hd WG
       have:=aG0 (w:=w) hi cs (fun t c=>DataW.trod enc P w 0 sp true F t c) xs hxs (by omega) (fun j f x hf hx i c hg hF=>by
        obtain⟨dx,px⟩:=x;refine ih k f.type c dx px hF (fun b off hb=>hz b off (List.mem_flatMap.2 ⟨(dx,px),BJ hx,hb⟩)) (fun y hy=>hw y ?_) i hg;rw [DataW.weights,hu];exact Zk hf hx hy)
       rwa [xS]at this
     ·cases h
    | _=>cases hi
end
end Go.Am
namespace Go.Am
open Go.RowKit Go.ChangeShapes
section
variable{H:Type}{enc:TypeId×Value->H}{P:Program}{w:World}{base fuel:Nat}{spare:Nat->Bool}{held:Bool}{t e:TypeId}{k:IntKind}{n:Nat}{cs:List Value}
theorem ints_of_trod{x:DataW H×List MemPlace} (ht:P.underlying t=some (.array n e)) (he:P.underlying e=some (.int k)) (hc:P.cellsOf e=1) (hct:P.cellsOf t=n) (h:DataW.trod enc P w base spare held fuel t cs=some x){ns:List Int}
 (hx:x.1= .agg (ns.map fun i=> .lit (.int k i))):cs=ns.map (Value.int k):=by
 obtain⟨xs,m,rfl,rfl,hlen,hn,hel⟩:=DataW.trod_array ht h;simp only [DataW.agg.injEq]at hx;have hl:xs.length=ns.length:=by have:=kB List.length hx;simpa using this
 apply xQ;intro i;by_cases hi:i<n
 ·have h1:=hel i hi
  have hix:i<xs.length:=by omega
  rw [aQ hix]at h1;obtain⟨j,e1,e2,_⟩:=DataW.trod_int he h1;have h2:=kB (·[i]?) hx;have Th:i<ns.length:=by omega
  simp only [dJ,aQ hix,aQ Th,DK,e2,Option.some.injEq,DataW.lit.injEq,Lit.int.injEq,true_and]at h2;subst h2;rw [hc,jQ]at e1;have h3:cs[i]? =((cs.drop i).take 1)[0]? :=by rw [sR,aK (by omega),rH];simp
  rw [h3,e1];simp [aQ Th]
 ·rw [FT (by omega),FT (by simp;omega)]
end
theorem var?_heap{P:Program}{w:World}{n:String}{g:Nat}{cs:Array Value} (hg:P.globalNamed n=some g) (h:w.var? P n=some cs):∃t fz,w.heap[g]? =some (.cells cs t fz):=by
 simp only [World.var?,hg,Hw]at h;split at h
 ·rename_i c t fr hb
  cases h;exact⟨t,fr,hb⟩
 ·cases h
theorem size_of_shaped{P:Program}{w:World} (h:w.ShapedOpen P){g:Nat} (hg:g<P.globals.size) (hk:(((begin P (fun _ _=>0) default).world.heap[g]?).bind Obj.row?).isSome=true):g<w.heap.size:=by
 obtain⟨⟨zero,t⟩,hz⟩:=Ht.1 hk;obtain⟨cs,hc,_⟩:=h.1 g zero t hg hz;exact(sQ.1 hc).1
end Go.Am
namespace Go.Am
open Go.RowKit
theorem returns_open{H:Type}{enc:TypeId×Value->H}{a:Assume}{C:Checked}{os:Os}{f:FuncId}{fn:Func}{s:ChangeSpec}{X:World->Prop} (hX:∀w w':World,w.heap=w'.heap->X w->X w')
 (own:ownKnob C.prog.godebug=none) (started:os.Started) (aOU:C.prog.inits.idxOf? f=none) (hfn:C.prog.funcs[f]? =some fn)
 (witness:∃(w:World) (tape:Tape) (i:Input),w.os=os/\(w.forCall tape i).Shaped C.prog/\i.vars=[]/\Input.okWide C.prog (w.forCall tape i) .any w.heap.size f i/\
  ((s.pre enc C.prog fn [] false (w.forCall tape i).memory i.args/\X (w.forCall tape i).memory)/\sizedMet enc C.prog fn (OpenSpec.ofChange s) false (w.forCall tape i).memory i.args)/\a.holds C.prog (lone (Frame.enter C.prog f i.args .normal) [] (w.forCall tape i)))
 (aI5:∀(W:World) (base:Nat) (args:Array Value) (ds gs:List (DataW H)) (before:List MemPlace),(∀(j:Nat) t v,fn.params[j]? =some t->args[j]? =some v->Value.okWide C.prog W .any base t v)->DataW.Whole enc C.prog fn.params.toList s.vars false W args.toList ds gs before->
  (DataW.weightsEach C.prog (fn.params.toList++s.plain.varTypes C.prog) (ds++gs)).all (· <=reachBytes)=true->W.ShapedOpen C.prog->X W->
  Calls C.prog f args W fun e W'=>∃v,e= .returned v/\s.post enc C.prog fn false true false false W args v W'):
 ReturnsInHanded a C os f .any (fun w args=>(s.pre enc C.prog fn [] false w args/\X w)/\sizedMet enc C.prog fn (OpenSpec.ofChange s) false w args) (s.post enc C.prog fn false true false false):=by
 refine returnsInHanded_of_calls own started aOU witness ?_;intro w tape i _ hsh _ LJ Pw _;obtain⟨_,_,_,fn',aSQ,_,_,_,_,hval⟩:=LJ;have e:fn'=fn:=Option.some.inj (aSQ.symm.trans hfn);subst e;obtain⟨⟨⟨ds,gs,before,hw,_⟩,hx⟩,hz⟩:=Pw;have hw':=DataW.Whole.of_heap (w':=w.forCall tape i) (by rfl) hw;refine(aI5 (w.forCall tape i) w.heap.size i.args ds gs before hval hw' (hz.weights hw) hsh (hX _ _ (by rfl) hx)).mono fun e W' ⟨v,he,hp⟩=>?_;subst he;exact ChangeSpec.post_blind hp
end Go.Am
