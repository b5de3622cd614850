/- VM: one operation, and calls. -/
import Derived.Test.YtpcbceaggaddfaaGreatDoorGc
import Derived.Maps.RangeWalk
import Derived.Sort.MapsRangeIn
import Derived.Test.YtpcbceaggaddfaaGreatDoorGb
import GoSem.ClaimJoined
import Derived.OpenShut
import Derived.LaidMore
import Derived.SizedLaws
import Derived.Stop.Joined
import Derived.Handed

set_option maxRecDepth 100000
set_option linter.unusedVariables false
namespace Go.Am
open Go.RowKit Go.MapKept
section
variable{P:Program}{B:Nat->Prop}{Sbz:St}{c c' d:Cx}{h h':Hp}{S S':St}{C C':Nat->Prop}
theorem If(s:VS P B Sbz c h S)(l:cP h' h){O:Nat->Tag}(le:c.le d)(e:cY B d h'=cY B c h'){vs us:List V}{ws:List Value}(ht:∀(k:Nat) (w:Value),ws[k]? =some w->ND d S (cY B d h') (O k) w)
 (r:kW c S (cY B c h) vs ws) (hf:FzL h' h O vs us):kW d S (cY B d h') us ws:=by
 have f2:AZ (cY B c h) S S (cY B d h'):=by rw [e];exact(s.drop l).2
 obtain⟨g1,g2⟩:=hf;refine⟨by rw [g1];exact r.len,λk u w e1 e2=>?_⟩;have hk:k<vs.length:=by rw [<-g1];exact(dS.1 e1).1
 have ev:=aP hk;have hr:=r.rd k _ w ev e2;have hz:=g2 k _ u ev e1;cases hz with
 | keep=>exact hr.mono le f2
 | dat hfz=>
  have:=s.frz l hfz hr;exact aM1 (by rw [e];exact this) (ht k w e2)
def aIp:List Value->List Value
 | .agg ⟨a⟩::l=>a++l
 | _=>[]
def aAM:Value->List Value
 | .agg ⟨l⟩=>l
 | .tuple ⟨l⟩=>l++aIp l
 | w=>[w]
theorem aM2(s:VS P B Sbz c h S)(l:cP h' h){v:V}{w:Value}{u:(Nat->Tag)->V}(r:fI c S (cY B c h) v w)(hf:∀O,Fz h' h O v (u O)):
 ∃d O,c.le d/\VS P B Sbz d h' S/\AZ (cY B c h) S S (cY B d h')/\fI d S (cY B d h') (u O) w:=by
 obtain⟨s1,f1⟩:=s.drop l;obtain⟨d,O,le,s2,e,ht⟩:=s1.names (aAM w);have f2:AZ (cY B c h) S S (cY B d h'):=by rw [e];exact f1
 refine⟨d,O,le,s2,f2,?_⟩;have hz:=hf O;generalize u O=x at hz;cases hz with
 | one hz=>
  cases hz with
  | keep=>exact r.mono le f2
  | dat hfz=>
   have hd:=s.frz l hfz r;have hp:aAM w=[w]:=by cases hd<;>rfl
   exact aM1 (by rw [e];exact hd) (ht 0 w (by rw [hp];rfl))
 | agg hz=>
  cases r with
  | agg la ha=>
   have:=If s l le e ht ⟨la,ha⟩ hz;exact .agg this.len this.rd
 | tup hz=>
  cases r with
  | @tuple a a' la ha=>
   have ht:∀(k:Nat) (w:Value),(a'++aIp a')[k]? =some w->ND d S (cY B d h') (O k) w:=ht;have:=If s l le e (ws:=a') (λk w hk=>ht k w (by rw [fB (dS.1 hk).1];exact hk)) ⟨la,ha⟩ hz;exact .tuple this.len this.rd
 | @aQT as bs vs us hl hz=>
  cases r with
  | @tuple _ a' la ha=>
   have ht:∀(k:Nat) (w:Value),(a'++aIp a')[k]? =some w->ND d S (cY B d h') (O k) w:=ht;cases a' with
   | nil=>cases la
   | cons w0 rest=>
    have h0:=ha 0 _ w0 rfl rfl;cases h0 with
    | @agg _ as' la0 ha0=>
     have hr:vs.length=rest.length:=by simpa using la
     have PU:kW c S (cY B c h) (as++vs) (as'++rest):=by
      refine⟨by rw [bH,bH,la0,hr],λk v w e1 e2=>?_⟩;rcases zJ k as.length with hk | hk
      ·rw [fB hk]at e1
       rw [fB (by omega)]at e2;exact ha0 k v w e1 e2
      ·rw [iG hk]at e1
       rw [iG (by omega)]at e2;refine ha (k-as.length+1) v w ?_ ?_
       ·rw [OW];exact e1
       ·rw [OW,la0];exact e2
     have:=If s l le e (O:=λk=>O (k+(vs.length+1))) (ws:=as'++rest) (λk w hk=>ht (k+(vs.length+1)) w (by
      rw [iG (by rw [qS];omega),qS,hr,Nat.add_sub_cancel];exact hk)) PU hz
     have lb:us.length=rest.length:=by
      have:=this.len;rw [bH,bH,hl,la0]at this;omega
     refine .tuple (by rw [qS,qS,lb]) λk v w e1 e2=>?_;cases k with
     | zero=>
      injection e1 with e1;injection e2 with e2;subst e1 e2;refine .agg (by rw [hl,la0]) λk v w e1 e2=>this.rd k v w ?_ ?_
      ·rw [fB (dS.1 e1).1];exact e1
      ·rw [fB (dS.1 e2).1];exact e2
     | succ k=>
      rw [OW]at e1 e2;refine this.rd (bs.length+k) v w ?_ ?_
      ·rw [iG (by omega),aBC];exact e1
      ·rw [iG (by rw [hl,la0];omega),hl,la0,aBC];exact e2
structure ER(P:Program)(B:Nat->Prop)(Sbz:St)(Ev:VE)(E:Env):Prop where
 eP:E.P=P
 eM:Ev.most=E.most
 eC:∀(f:FuncId) {args:List V} {ws:List Value} {c:Cx} {h:Hp} {S:St} {Kv:KV} {K:VK},VS P B Sbz c h S->kW c S (cY B c h) args ws->KR P B Sbz c h S Kv K->Ev.C f args h Kv->E.call f ws S K=true
 eR:∀(l b:Nat) {args:List V} {ws:List Value} {c:Cx} {h:Hp} {S:St} {Kv:KV} {K:VK},VS P B Sbz c h S->c.Z l=some b->kW c S (cY B c h) args ws->KR P B Sbz c h S Kv K->Ev.R l args h Kv->E.round b ws S K=true
theorem ER.aEl{Ev:VE}{E:Env}(r:ER P B Sbz Ev E)(f:FuncId){args:List V}{ws:List Value}{Kv:KV}{K:VK}(s:VS P B Sbz c h S)(ra:kW c S (cY B c h) args ws)(k:KR P B Sbz c h S Kv K)(hv:Ev.call f args h Kv):E.call f ws S K=true:=by
 obtain⟨h',us,l,hf,hv⟩:=hv;obtain⟨s1,f1⟩:=s.drop l;obtain⟨d,O,le,s2,e,ht⟩:=s1.names ws;have f2:AZ (cY B c h) S S (cY B d h'):=by rw [e];exact f1
 exact r.eC f s2 (If s l le e ht ra (hf O)) (λc' h' S' v w a b=>k c' h' S' v w (le.trans a) (f2.trans b)) (hv O)
theorem aFO{Ev:VE}{E:Env}(r:ER P B Sbz Ev E){A:VA}{A':aO}(s:VS P B Sbz c h S)(a:AR c S (cY B c h) A A'){cl:Call}{Kv:KV}{K:VK}(k:KR P B Sbz c h S Kv K)(hv:(aH4 P cl).f Ev A h Kv):mO E A' cl S K=true:=by
 have hP:=r.eP;subst hP;unfold aH4 at hv;split at hv
 ·rename_i hc
  split at hv
  ·rename_i t x ht ha
   unfold mO;rw [hc,ha,ht];simp only [PG,aS,tD];split at hv
   ·rename_i _ _ e hs
    refine bK a hv λv w rv hv=>?_;rw [aG7 hs];exact aFL s rv (λv w rv h=>k.here s rv h) hv
   ·rename_i _ _ hs hu
    refine bK a hv λv w rv hv=>?_;rw [aG8 hu];exact aFM rv (λv w rv h=>k.here s rv h) hv
   ·rename_i _ _ kt et hs hu
    refine bK a hv λv w rv hv=>?_;exact aFP s hu rv k hv
   ·cases hv
  ·cases hv
 ·rename_i hc
  split at hv
  ·rename_i sT xT x y ht ha
   unfold mO;rw [hc,ha,ht];simp only [PG,aS,tD];split at hv
   ·rename_i el hs hx
    split at hv
    ·rename_i info hi
     split at hv
     ·rename_i n z hn hz
      split at hv
      ·rename_i Bt hsz
       have hsz:bP E.P el=some (n+1):=by
        have:=cT hsz;cases hq:bP E.P el with
        | none=>rw [hq]at this;simp at this
        | some m=>rw [hq]at this;simp at this;rw [this]
       refine bK a hv λv w rv hv=>?_;refine bK a hv λv2 w2 XF hv=>?_;show pF E.P [sT,xT] w w2 S K=true;rw [Cl hs hx hi hn hz Bt];exact RE s (by omega) hsz rv XF k hv
      ·cases hv
     ·cases hv
    ·cases hv
   ·cases hv
  ·cases hv
 ·rename_i hc
  split at hv
  ·rename_i x y ha
   unfold mO;rw [hc,ha];simp only [PG,aS,tD];refine bK a hv λv w rv hv=>?_;refine bK a hv λv2 w2 XF hv=>?_;exact aAL (big:=false) rv XF (λv w rv h=>k.here s rv h) hv
  ·cases hv
 ·rename_i hc
  split at hv
  ·rename_i x y ha
   unfold mO;rw [hc,ha];simp only [PG,aS,tD];refine bK a hv λv w rv hv=>?_;refine bK a hv λv2 w2 XF hv=>?_;exact aAL (big:=true) rv XF (λv w rv h=>k.here s rv h) hv
  ·cases hv
 ·rename_i hc
  split at hv
  ·rename_i t x ht ha
   unfold mO;rw [hc,ha,ht];simp only [PG,aS,tD];split at hv
   ·rename_i el hs
    split at hv
    ·rename_i m zero hsz hz
     split at hv
     ·rename_i hl hf
      refine bK a hv λv w rv hv=>?_;exact aCU s hs hsz hz hl hf rv (λh' S' f s' hv=>k c h' S' MZ (.tuple #[]) (.refl c) f s' (.tuple (a':=[]) rfl λk v w e=>by simp at e) hv) hv
     ·cases hv
    ·cases hv
   ·cases hv
  ·cases hv
 ·rename_i hc
  split at hv
  ·rename_i dT ts x y ht ha
   unfold mO;rw [hc,ha,ht];simp only [PG,aS,tD];split at hv
   ·rename_i el hs
    split at hv
    ·rename_i m hsz
     refine bK a hv λv w rv hv=>?_;refine bK a hv λv2 w2 XF hv=>?_;exact aFN (ts:=ts) s hs hsz rv XF k hv
    ·cases hv
   ·cases hv
  ·cases hv
 ·cases hv
 ·rename_i f hc
  unfold mO;rw [hc];refine ZM a hv λvs ws ra hv=>?_;refine bK a hv λv w rv hv=>?_;unfold fK at hv;split at hv
  ·cases rv with
   | func la ld ha hd=>
    show(zN _ ws λl=>zN l _ λl=>E.call _ l S K)=true;rw [lE,lE];exact r.aEl _ s ((kW.app ⟨la,ha⟩ ra).app ⟨ld,hd⟩) k hv
  ·cases rv with
   | yield e=>exact r.eR _ _ s e ra k hv
  ·cases hv
 ·rename_i rc m hc
  unfold mO;rw [hc];refine ZM a hv λvs ws ra hv=>?_;refine bK a hv λv w rv hv=>?_;unfold aOX at hv;split at hv
  ·rename_i t v'
   split at hv
   ·rename_i g hg
    cases rv with
    | iface rv=>
     show(match GK E.P t m with | some g=>E.call g _ S K | none=>false)=true;rw [hg];exact r.aEl _ s (.cons rv ra) k hv
   ·cases hv
  ·cases hv
theorem JH{A:VA}{A':aO}(a:AR c S C A A'){x:Option Operand}{k:Option V->Prop}{k':Option Value->Bool}(hv:(evO x).f A k)(hk:∀o o',OR' c S C o o'->k o->k' o'=true):VC A' x k'=true:=by
 cases x with
 | none=>exact hk _ _ .none hv
 | some x=>exact bK a hv λv w rv hv=>hk _ _ (.some rv) hv
theorem aCV{A:VA}{A':aO}(s:VS P B Sbz c h S)(a:AR c S (cY B c h) A A'){Ev:VE}{t:TypeId}{x:Operand}{lo hi mx:Option Operand}{Kv:KV}{K:VK}(k:∀v w,fI c S (cY B c h) v w->Kv v h->K w S=true)(hv:(aCL P t x lo hi mx).f Ev A h Kv):
 tC A' x (λx=>VC A' lo λlo=>VC A' hi λhi=>VC A' mx λmx=>sJ P t x lo hi mx S λv=>K v S)=true:=by
 unfold aCL at hv;split at hv
 ·rename_i el he
  split at hv
  ·rename_i size hs
   refine bK a hv λv w rv hv=>?_;refine JH a hv λo1 o1' r1 hv=>?_;refine JH a hv λo2 o2' r2 hv=>?_;refine JH a hv λo3 o3' r3 hv=>?_;exact aIl s he hs rv r1 r2 r3 k hv
  ·cases hv
 ·split at hv
  ·rename_i hu
   split at hv
   ·refine bK a hv λv w rv hv=>?_
    refine JH a hv λo1 o1' r1 hv=>?_;refine JH a hv λo2 o2' r2 hv=>?_;exact aIo hu rv r1 r2 k hv
   ·cases hv
  ·rename_i len el hu
   split at hv
   ·rename_i size hs
    refine bK a hv λv w rv hv=>?_;refine JH a hv λo1 o1' r1 hv=>?_;refine JH a hv λo2 o2' r2 hv=>?_;refine JH a hv λo3 o3' r3 hv=>?_;exact aIn hu hs rv r1 r2 r3 k hv
   ·cases hv
  ·cases hv
theorem Mc{A:VA}{A':aO}(s:VS P B Sbz c h S)(a:AR c S (cY B c h) A A'){Ev:VE}{t:TypeId}{x y:Operand}{Kv:KV}{K:VK}(k:KR P B Sbz c h S Kv K)(hv:(WD P t x y).f Ev A h Kv):
 tC A' x (λl=>tC A' y λc=>uS P t l c S K)=true:=by
 unfold WD at hv;split at hv
 ·rename_i el he
  split at hv
  ·rename_i info zero hi hz
   split at hv
   ·rename_i n hl hn hf
    refine bK a hv λv w rv hv=>?_;refine bK a hv λv2 w2 XF hv=>?_;exact aKE s he hi hz hl hn hf rv XF k hv
   ·cases hv
  ·cases hv
 ·cases hv
theorem aAN{A:VA}{A':aO}(s:VS P B Sbz c h S)(a:AR c S (cY B c h) A A'){Ev:VE}{t:TypeId}{x ix:Operand}{ok:Bool}{Kv:KV}{K:VK}(k:KR P B Sbz c h S Kv K)(hv:(Uw P t x ix ok).f Ev A h Kv):
 tC A' x (λx=>tC A' ix λix=>SD P t x ix ok S K)=true:=by
 unfold Uw at hv;split at hv
 ·rename_i kt et ht
  split at hv
  ·rename_i sh z hs hz
   split at hv
   ·rename_i zv hzv
    refine bK a hv λv w rv hv=>?_;refine bK a hv λv2 w2 XF hv=>?_;exact aFQ s ht hs hz hzv rv XF k hv
   ·cases hv
  ·cases hv
 ·cases hv
theorem Md{A:VA}{A':aO}(s:VS P B Sbz c h S)(a:AR c S (cY B c h) A A'){Ev:VE}{t:TypeId}{m x y:Operand}{Kv:KV}{K:VK}(k:KR P B Sbz c h S Kv K)(hv:(Ux P t m x y).f Ev A h Kv):
 tC A' m (λm=>tC A' x λx=>tC A' y λy=>BP P t m x y S λS=>K undef S)=true:=by
 unfold Ux at hv;split at hv
 ·rename_i kt et ht
  split at hv
  ·rename_i sh hs
   refine bK a hv λv w rv hv=>?_;refine bK a hv λv2 w2 XF hv=>?_;refine bK a hv λv3 w3 rv3 hv=>?_;exact aCW s ht hs rv XF rv3 k hv
  ·cases hv
 ·cases hv
theorem ZO{Ev:VE}{E:Env}(r:ER P B Sbz Ev E){A:VA}{A':aO}(s:VS P B Sbz c h S)(a:AR c S (cY B c h) A A'){o:Oper}{Kv:KV}{K:VK}(k:KR P B Sbz c h S Kv K)(hv:(opV P o).f Ev A h Kv):wW E o A' S K=true:=by
 have kh:∀v w,fI c S (cY B c h) v w->Kv v h->K w S=true:=λv w rv hk=>k.here s rv hk;unfold opV at hv;have hP:=r.eP;subst hP;split at hv<;>rename_i OP<;>try (unfold wW;rw [OP])
 ·exact bK a hv kh
 ·exact bK a hv kh
 ·refine bK a hv λv w rv hv=>?_
  refine bK a hv λv1 w1 rv1 hv=>?_;refine bK a hv λv2 w2 XF hv=>?_;rw [aL]at hv;unfold QY at hv;split at hv
  ·rename_i b hva hvb
   cases rv;cases b with
   | true=>exact kh _ _ rv1 hv
   | false=>exact kh _ _ XF hv
  ·cases hv
 ·split at hv
  ·rename_i z hz
   split at hv
   ·rename_i hf
    show PI E.P _ S K=true;rw [Zu hz hf];exact aCO s k hv
   ·cases hv
  ·cases hv
 ·exact bK a hv λv w rv hv=>aId s rv k hv
 ·have hx:(opX E.P o).f E A' S K=wW E o A' S K:=QQ E o A' S K
  unfold wW at hx;rw [OP]at hx;simp only at hx ⊢;rw [<-hx];unfold opX;rw [OP];simp only;split at hv
  ·rename_i zero fields hz hu
   try simp only [hz,hu]
   split at hv
   ·rename_i pl hp
    try simp only [hp]
    split at hv
    ·rename_i hf ha
     try simp only [hf,ha]
     exact WH a hv λl l' hl hv=>Lz s hl kh hv
    ·cases hv
   ·cases hv
  ·rename_i zero n elem hz hu
   try simp only [hz,hu]
   split at hv
   ·rename_i size hs
    try simp only [hs]
    split at hv
    ·rename_i hf
     try simp only [hf]
     exact WH a hv λl l' hl hv=>Lz s hl kh hv
    ·cases hv
   ·cases hv
  ·cases hv
 ·have hx:(opX E.P o).f E A' S K=wW E o A' S K:=QQ E o A' S K
  unfold wW at hx;rw [OP]at hx;simp only at hx ⊢;rw [<-hx];unfold opX;rw [OP];simp only;split at hv
  ·rename_i elem hs
   try simp only [hs]
   split at hv
   ·rename_i size zero hz Ph
    try simp only [hz,Ph]
    split at hv
    ·rename_i h1 h2
     try simp only [h1,h2]
     split at hv
     ·rename_i hf
      try simp only [hf]
      rw [CL];refine WH a hv λl l' hl hv=>?_;have:=aAH (Sbz:=Sbz) (B:=B) s hl k hv;unfold Ub at this
      rwa [CL]at this
     ·cases hv
    ·cases hv
   ·cases hv
  ·cases hv
 ·split at hv
  ·rename_i h1
   refine bK a hv λv w rv hv=>?_;show KU E.P _ w S K=true;rw [Ci h1];exact aEk s rv kh hv
  ·rename_i n h1 h2
   refine bK a hv λv w rv hv=>?_;show KU E.P _ w S K=true;rw [Cj h1 h2];exact aAG s (by omega) rv kh hv
  ·cases hv
 ·split at hv
  ·rename_i n h1
   refine bK a hv λv w rv hv=>?_;refine bK a hv λv2 w2 XF hv=>?_;show UZ E.P _ w w2 S _=true;rw [Zt h1];refine aKC s rv XF (λh' S' f s' hk=>?_) hv;exact k c h' S' MZ undef (.refl c) f s' (.tuple (a':=[]) rfl λk v w e=>by simp at e) hk
  ·cases hv
 ·refine bK a hv λv w rv hv=>?_
  show aJ8 E.P w (λv=>K v S)=true;exact aIi rv kh hv
 ·split at hv
  ·refine bK a hv λv w rv hv=>?_
   refine bK a hv λv2 w2 XF hv=>?_;rw [<-MY];exact aIq rv XF kh hv
  ·refine bK a hv λv w rv hv=>?_
   refine bK a hv λv2 w2 XF hv=>?_;rw [<-MY];exact aIj s.Gs rv XF kh hv
 ·exact bK a hv λv w rv hv=>aKD rv kh hv
 ·split at hv
  ·rename_i j kk h1 h2
   refine bK a hv λv w rv hv=>?_;rw [aDT h1 h2];exact aIh rv kh hv
  ·cases hv
 ·split at hv
  ·rename_i t x hv0 hi
   refine bK a hv λv w rv hv=>?_;unfold aAy at hi;split at hi
   ·cases hi
   ·rename_i d hd hu
    have hw:=kh _ _ (.iface (t:=t) rv) hv
    try simp only [hu]
    cases d<;>first | exact hw | exact(hd _ rfl).elim
   ·cases hi
  ·cases hv
 ·split at hv
  ·refine ZM a hv λvs ws ra hv=>?_
   refine ZM a hv λvs2 ws2 ra2 hv=>?_;exact kh _ _ (.func ra.len ra2.len ra.rd ra2.rd) hv
  ·split at hv
   ·rename_i x h1 h2
    try simp only [h1,h2]
    exact bK a hv λv w rv hv=>kh _ _ (.GS rv) hv
   ·cases hv
  ·cases hv
 ·split at hv
  ·rename_i fd hf
   split at hv
   ·rename_i n hn
    refine bK a hv λv w rv hv=>?_;rw [YP hf hn];exact aIe rv kh hv
   ·cases hv
  ·cases hv
 ·split at hv
  ·rename_i fd hf
   split at hv
   ·rename_i h1
    refine bK a hv λv w rv hv=>?_;rw [Kz hf h1];exact aCP rv kh hv
   ·rename_i n h1 h2
    refine bK a hv λv w rv hv=>?_;rw [Lb hf h1 h2];exact aAI rv kh hv
   ·cases hv
  ·cases hv
 ·split at hv
  ·rename_i el he
   split at hv
   ·rename_i n hn
    refine bK a hv λv w rv hv=>?_;refine bK a hv λv2 w2 XF hv=>?_;rw [YR he hn];exact aIf s rv XF kh hv
   ·cases hv
  ·split at hv
   ·rename_i len n ha
    refine bK a hv λv w rv hv=>?_;refine bK a hv λv2 w2 XF hv=>?_;exact aFK ha rv XF kh hv
   ·cases hv
 ·split at hv
  ·rename_i hu
   refine bK a hv λv w rv hv=>?_;refine bK a hv λv2 w2 XF hv=>?_;rw [Zx hu];exact aCQ rv XF kh hv
  ·cases hv
 ·split at hv
  ·rename_i t x lo hi mx _ hb
   have:=aCV s a kh hv;unfold aLL at hb;cases mx<;>cases hi<;>first | exact this | cases hb
  ·cases hv
 ·exact Mc s a k hv
 ·exact Fj s k hv
 ·split at hv
  ·rename_i kv ht
   refine bK a hv λv w rv hv=>?_;exact Vf s rv ht k hv
  ·cases hv
 ·split at hv
  ·rename_i kv ht
   refine bK a hv λv w rv hv=>?_;exact aAO s ht rv k hv
  ·cases hv
 ·refine bK a hv λv w rv hv=>?_
  exact aCX s rv k hv
 ·refine bK a hv λv w rv hv=>?_
  exact aAP s rv k hv
 ·exact aAN s a k hv
 ·exact Md s a k hv
 ·exact Md s a k hv
 ·refine bK a hv λv w rv hv=>?_
  show aHd _ w (λv=>K v S)=true;exact aIg rv kh hv
 ·exact aFO r s a k hv
 ·cases hv
end
section
variable{P:Program}{B:Nat->Prop}{Sbz:St}{c c' d:Cx}{h h':Hp}{S S':St}{C C':Nat->Prop}
def KSR(P:Program)(B:Nat->Prop)(Sbz:St)(c:Cx)(h:Hp)(S:St)(kv:KSV)(k:aO->St->Bool):Prop:=
 ∀c' h' S' A A',c.le c'->AZ (cY B c h) S S' (cY B c' h')->VS P B Sbz c' h' S'->AR c' S' (cY B c' h') A A'->kv A h'->k A' S'=true
theorem KSR.mono{kv:KSV}{k:aO->St->Bool}(q:KSR P B Sbz c h S kv k)(l:c.le c')(f:AZ (cY B c h) S S' (cY B c' h')):KSR P B Sbz c' h' S' kv k:=
 λc2 h2 S2 A A' l2 f2=>q c2 h2 S2 A A' (l.trans l2) (f.trans f2)
theorem Me(s:VS P B Sbz c h S){v:V}{w:Value}(r:fI c S C v w)(ho:Hz v=true)(n:Nat):Eo n w w=true:=by
 have hsl:∀b o n m,YA (.slice (some ⟨b,o,none⟩) n m) (.slice (some ⟨b,o,none⟩) n m)=true:=λb o n m=>by
  show((Nat.beq b b&&Nat.beq o o)&&(Nat.beq n n&&Nat.beq m m))=true;simp
 have hs0:∀b o n m,YA (.slice (some ⟨b,o,some 0⟩) n m) (.slice (some ⟨b,o,some 0⟩) n m)=true:=λb o n m=>by
  show((Nat.beq b b&&Nat.beq o o)&&(Nat.beq n n&&Nat.beq m m))=true;simp
 have hse:∀b o s,YA (.slice (some ⟨b,o,some (s+2)⟩) 0 0) (.slice (some ⟨b,o,some (s+2)⟩) 0 0)=true:=λb o s=>by
  show((Nat.beq b b&&Nat.beq o o)&&Nat.beq s s)=true;simp
 have hpt:∀b o,YA (.pointer (some ⟨b,o,none⟩)) (.pointer (some ⟨b,o,none⟩))=true:=λb o=>by
  show(Nat.beq b b&&Nat.beq o o)=true;simp
 have hmp:∀b,YA (.map (some b)) (.map (some b))=true:=λb=>by
  show Nat.beq b b=true;simp
 cases r with
 | @int k z=>cases n<;>exact aFh k z
 | @bool b=>cases n<;>cases b<;>rfl
 | str=>cases n<;>(show Gj _ _=true;rw [FJ];simp)
 | list ht hd=>
  cases hd with
  | nil=>cases n<;>rfl
  | emp=>cases n<;>exact hse _ _ _
  | @row b o n' cc sp _ _ _ _ CW _ _ _ _ _ _=>
   match sp,CW with
   | none,_=>cases n<;>exact hsl _ _ _ _
   | some 0,_=>cases n<;>exact hs0 _ _ _ _
 | rK=>cases n<;>exact hpt _ _
 | qX=>cases n<;>exact hpt _ _
 | nil=>cases n<;>rfl
 | acc e=>obtain⟨b,rfl⟩:=s.Gs _ _ _ e;cases n<;>exact hs0 _ _ _ _
 | own=>cases n<;>exact hsl _ _ _ _
 | oR=>cases n<;>exact hs0 _ _ _ _
 | ptr=>cases n<;>exact hpt _ _
 | lU=>cases n<;>rfl
 | Ok=>cases n<;>rfl
 | QV=>cases n<;>rfl
 | Om=>cases n<;>rfl
 | sP=>cases n<;>exact hmp _
 | _=>cases ho
theorem Ig{p:V->Bool}{q:Value->Prop}{a:List V}{a':List Value}(r:kW c S C a a')(hp:a.all p=true)(hq:∀v w,fI c S C v w->p v=true->q w):∀w∈a',q w:=by
 intro w hw;obtain⟨k,hk⟩:=GI hw;have hlt:=(dS.1 hk).1;have hl:=r.len;exact hq a[k] w (r.rd k a[k] w (aP (by omega)) hk) (dJ.1 hp _ (nO (by omega)))
theorem Mf{f:Value->Value->Bool}:∀{l:List Value},(∀w∈l,f w w=true)->FM f l l=true:=by
 intro l;induction l with
 | nil=>intro _;rfl
 | cons x l ih=>
  intro h;show(f x x&&FM f l l)=true;rw [h x (.head _),ih λy hy=>h y (.tail _ hy)];rfl
theorem aAQ(s:VS P B Sbz c h S){v:V}{w:Value}(r:fI c S C v w)(ho:Ia v=true):Yo w w=true:=by
 unfold Ia at ho;split at ho
 ·rename_i f a d
  rw [bW]at ho;cases r with
  | @func _ _ _ a' d' la ld ha hd=>
   show(Nat.beq f f&&(FM (Eo 2) a' a'&&FM (Eo 2) d' d'))=true;rw [Mf (Ig (⟨la,ha⟩:kW c S C a a') ho.1 λv w r o=>Me s r o 2),Mf (Ig (⟨ld,hd⟩:kW c S C d d') ho.2 λv w r o=>Me s r o 2)];simp
 ·exact Me s r ho 3
theorem aAR(s:VS P B Sbz c h S){v:V}{w:Value}(r:fI c S C v w)(ho:Ib v=true):Ep w w=true:=by
 unfold Ib at ho;split at ho
 ·rename_i cs
  cases r with
  | @agg _ a' la ha=>
   show Pp a' a'=true;have zA:=Ig (⟨la,ha⟩:kW c S C cs a') ho λv w r o=>aAQ s r o;clear la ha;induction a' with
   | nil=>rfl
   | cons x l ih=>
    show(Yo x x&&Pp l l)=true;rw [zA x (.head _),ih λy hy=>zA y (.tail _ hy)];rfl
 ·rename_i wC
  have h0:=aAQ s r ho;cases w<;>first | exact h0 | (cases r<;>first | exact absurd rfl (wC _) | (rename_i e;obtain⟨b,e⟩:=s.Gs _ _ _ e;cases e) | (rename_i ht hd;cases hd))
theorem aIr(s:VS P B Sbz c h S){v:V}{w:Value}(r:fI c S C v w)(ho:VY v=true):OB w w=true:=by
 unfold VY at ho;split at ho
 ·rename_i cs
  cases r with
  | @tuple _ a' la ha=>
   show Bz a' a'=true;have zA:=Ig (⟨la,ha⟩:kW c S C cs a') ho λv w r o=>aAR s r o;clear la ha;induction a' with
   | nil=>rfl
   | cons x l ih=>
    show(Ep x x&&Bz l l)=true;rw [zA x (.head _),ih λy hy=>zA y (.tail _ hy)];rfl
 ·rename_i wC
  have h0:=aAR s r ho;cases w<;>first | exact h0 | (cases r<;>first | exact absurd rfl (wC _) | (rename_i e;obtain⟨b,e⟩:=s.Gs _ _ _ e;cases e) | (rename_i ht hd;cases hd))
theorem Mh{ops:Array Oper}{o:Oper}{A:aO}{k:Bool->Bool}(hg:o.guard=none):zP ops o A k=k true:=by
 unfold zP;rw [hg]
theorem aEm{ops:Array Oper}{o o':Oper}{A:aO}{k:Bool->Bool}{j:Nat}{w:Bool}{g:Tmp}(hg:o.guard=some (j,w))(hj:ops[j]? =some o')(hd:o'.dst=some g):zP ops o A k=SC A.tmps g λv=>Ff w v k:=by
 unfold zP;rw [hg];simp only [hj,hd];rfl
theorem Qq{w:Bool}{v:V}{u:Value}(r:fI c S C v u){k:Bool->Prop}(hv:aHU w v k):∃b,k b/\∀K:Bool->Bool,Ff w u K=K b:=by
 cases r with
 | @bool b=>cases b<;>cases w<;>exact⟨_,hv,λK=>rfl⟩
 | @tuple a a' la ha=>
  cases a with
  | nil=>exact⟨false,hv,λK=>rfl⟩
  | cons x l=>cases hv
 | _=>cases hv
theorem aIs{A:VA}{A':aO}(a:AR c S (cY B c h) A A')(s:VS P B Sbz c h S){o:Oper}{kv:KSV}{k:aO->St->Bool}(hk:KSR P B Sbz c h S kv k){v:V}{w:Value}(r:fI c S (cY B c h) v w)
 (hv:match o.dst with | some d=>Lw A d v (λA=>kv A h) | none=>kv A h):mA A' o.dst w (λA=>k A S)=true:=by
 cases hd:o.dst with
 | none=>rw [hd]at hv;exact hk c h S A A' (.refl c) (.refl _ S) s a hv
 | some d=>rw [hd]at hv;exact Qo a r hv λX X' x hx=>hk c h S X X' (.refl c) (.refl _ S) s x hx
theorem aM3:fI c S C MZ undef:= .tuple (a':=[]) rfl λk v w e=>by simp at e
theorem ZP{Ev:VE}{E:Env}(r:ER P B Sbz Ev E){A:VA}{A':aO}(s:VS P B Sbz c h S)(a:AR c S (cY B c h) A A'){ops:Array Oper}{o:Oper}{kv:KSV}{k:aO->St->Bool}(hk:KSR P B Sbz c h S kv k)(hv:(doV P ops o).f Ev A h kv):VD E ops o A' S k=true:=by
 have beh:∀{c' h' S' v w},c.le c'->AZ (cY B c h) S S' (cY B c' h')->VS P B Sbz c' h' S'->fI c' S' (cY B c' h') v w->(match o.dst with | some d=>Lw A d v (λA=>kv A h') | none=>kv A h')->mA A' o.dst w (λA=>k A S')=true:=
  λl f s' rv hv=>aIs (a.mono l f) s' (hk.mono l f) rv hv
 unfold doV at hv;unfold VD;cases hg:o.guard with
 | none=>
  rw [hg]at hv;rw [Mh hg];simp only at hv;show wW E o A' S (λv S=>mA A' o.dst v λA=>k A S)=true;unfold aLM at hv;cases hd:o.dst with
  | none=>
   rw [hd]at hv;exact ZO r s a (λc' h' S' v w l f s' rv hv=>by have:=beh l f s' rv (by rw [hd];exact hv);rwa [hd]at this) hv
  | some d=>
   rw [hd]at hv;exact ZO r s a (λc' h' S' v w l f s' rv hv=>by have:=beh l f s' rv (by rw [hd];exact hv);rwa [hd]at this) hv
 | some jw=>
  obtain⟨j,w⟩:=jw;rw [hg]at hv;simp only at hv;cases hj:ops[j]? with
  | none=>simp only [hj]at hv
  | some o'=>
   simp only [hj]at hv;cases hg':o'.dst with
   | none=>simp only [hg']at hv
   | some g=>
    simp only [hg']at hv;rw [aEm hg hj hg']
    have key:∀(v:V) (u:Value) (q:KV),(∀{c' h' S' v w},c.le c'->AZ (cY B c h) S S' (cY B c' h')->VS P B Sbz c' h' S'->fI c' S' (cY B c' h') v w->q v h'->mA A' o.dst w (λA=>k A S')=true)->fI c S (cY B c h) v u->eL w v (λk=>(opV P o).f Ev A h k) h q->
     Ff w u (λb=>dL b (wW E o A' S λv S=>mA A' o.dst v λA=>k A S) (mA A' o.dst undef λA=>k A S))=true:=by
     intro v u q hq rv hv;obtain⟨b,hb,e⟩:=Qq rv hv;rw [e];cases b with
     | true=>exact ZO r s a (λc' h' S' v w l f s' rv hv=>hq l f s' rv hv) hb
     | false=>exact hq (.refl c) (.refl _ S) s aM3 hb
    cases hd:o.dst with
    | none=>
     rw [hd]at hv;refine AI a hv λv u rv hv=>?_;rw [aL]at hv;have:=key v u _ (λl f s' rv hv=>beh l f s' rv (by rw [hd];exact hv)) rv hv
     rwa [hd]at this
    | some dd=>
     rw [hd]at hv;refine AI a hv λv u rv hv=>?_;rw [aL]at hv;have:=key v u _ (λl f s' rv hv=>beh l f s' rv (by rw [hd];exact hv)) rv hv
     rwa [hd]at this
theorem aIt{Ev:VE}{E:Env}(r:ER P B Sbz Ev E){ops:Array Oper}:∀{l:List Oper} {c:Cx} {h:Hp} {S:St} {A:VA} {A':aO} {kv:KSV} {k:aO->St->Bool},VS P B Sbz c h S->AR c S (cY B c h) A A'->KSR P B Sbz c h S kv k->(opsV P ops l).f Ev A h kv->TA E ops l A' S k=true:=by
 intro l;induction l with
 | nil=>intro c h S A A' kv k s a hk hv;exact hk c h S A A' (.refl c) (.refl _ S) s a hv
 | cons o l ih=>
  intro c h S A A' kv k s a hk hv;have hv:(doV P ops o).f Ev A h (λA S=>(opsV P ops l).f Ev A S kv):=hv;show VD E ops o A' S (TA E ops l · · k)=true;exact ZP r s a (λc' h' S' X X' le f s' x hv=>ih s' x (hk.mono le f) hv) hv
theorem RF{Ev:VE}{E:Env}(r:ER P B Sbz Ev E){ops:Array Oper}{A:VA}{A':aO}(s:VS P B Sbz c h S)(a:AR c S (cY B c h) A A'){p:Prop}{b:Bool}(hb:p->b=true):∀{l:List Nat},(TG P ops l).f Ev A h p->wL E ops A' S l b=true:=by
 intro l;induction l with
 | nil=>intro hv;exact hb hv
 | cons i l ih=>
  intro hv;rw [Ca]
  have e1:TG P ops (i::l)=match ops[i]? with
   | some o=>match o.dst with
    | some d=>match o.guard with
     | none=>⟨λE A S k=>Oq A.tmps d λu=>(opV P o).f E A S λv _=>aT v u ((TG P ops l).f E A S k)⟩
     | some (j,w)=>match ops[j]? with
      | some o'=>match o'.dst with
       | some g=>⟨λE A S k=>Oq A.tmps d λu=>Oq A.tmps g λb=>fY E.most (AE w b u (λk=>(opV P o).f E A S λv _=>aT v u k) ((TG P ops l).f E A S k))⟩
       | none=>⟨λ_ _ _ _=>False⟩
      | none=>⟨λ_ _ _ _=>False⟩
    | none=>⟨λ_ _ _ _=>False⟩
   | none=>⟨λ_ _ _ _=>False⟩:=rfl
  rw [e1]at hv;cases hi:ops[i]? with
  | none=>rw [hi]at hv;cases hv
  | some o=>
   rw [hi]at hv;simp only at hv ⊢;cases hd:o.dst with
   | none=>rw [hd]at hv;cases hv
   | some dd=>
    rw [hd]at hv;simp only at hv ⊢
    have run:∀{u:V} {uw:Value},fI c S (cY B c h) u uw->((opV P o).f Ev A h λv _=>aT v u ((TG P ops l).f Ev A h p))->wW E o A' S (λv _=>match OB v uw with | true=>wL E ops A' S l b | false=>false)=true:=by
     intro u uw ru hv;refine ZO r s a (λc' h' S' v w le f s' rv hv=>?_) hv;obtain⟨rfl,ho,hv⟩:=hv;have:=rv.fn (ru.mono le f);subst this;rw [aIr s' rv ho];exact ih hv
    cases hg:o.guard with
    | none=>
     simp only [hg]at hv;refine AI a hv λu uw ru hv=>?_;rw [Mh hg];exact run ru hv
    | some jw=>
     obtain⟨j,w⟩:=jw;simp only [hg]at hv;cases hj:ops[j]? with
     | none=>simp only [hj]at hv
     | some o'=>
      simp only [hj]at hv;cases hg':o'.dst with
      | none=>simp only [hg']at hv
      | some g=>
       simp only [hg']at hv;refine AI a hv λu uw ru hv=>?_;rw [aEm hg hj hg'];refine AI a hv λq qw rq hv=>?_;rw [aL]at hv;obtain⟨bb,hbb,e⟩:=Qq rq hv;rw [e];cases bb with
       | true=>exact run ru hbb
       | false=>
        have hbb:aOY u ((TG P ops l).f Ev A h p):=hbb;cases ru with
        | @tuple a a' la ha=>
         cases a with
         | nil=>
          have:a'=[]:=mS (by simpa using la.symm);subst this;exact ih hbb
         | cons x l=>cases hbb
        | _=>cases hbb
theorem Mj{Ev:VE}{E:Env}(r:ER P B Sbz Ev E){ops:Array Oper}{i:Nat}{o:Oper}{A:VA}{A':aO}(s:VS P B Sbz c h S)(a:AR c S (cY B c h) A A'){Kv:KV}{K:VK}(k:KR P B Sbz c h S Kv K)(hv:(aAz P ops i o).f Ev A h Kv):EC E ops i o A' S K=true:=by
 unfold aAz at hv;unfold EC;rw [r.eP];cases hc:eZ P ops i with
 | none=>rw [hc]at hv;exact ZO r s a k hv
 | some j=>rw [hc]at hv;cases hv
theorem SP{Ev:VE}{E:Env}(r:ER P B Sbz Ev E){ops:Array Oper}:∀{l:List Nat} {c:Cx} {h:Hp} {S:St} {A:VA} {A':aO} {kv:KSV} {k:aO->St->Bool},VS P B Sbz c h S->AR c S (cY B c h) A A'->KSR P B Sbz c h S kv k->(OF P ops l).f Ev A h kv->nI E ops l A' S k=true:=by
 intro l;induction l with
 | nil=>intro c h S A A' kv k s a hk hv;exact hk c h S A A' (.refl c) (.refl _ S) s a hv
 | cons i l ih=>
  intro c h S A A' kv k s a hk hv
  have e1:OF P ops (i::l)=match ops[i]? with
   | some o=>match o.dst with
    | some d=>⟨λE A S k=>(aAz P ops i o).f E A S λv S=>Lw A d v λA=>(OF P ops l).f E A S k⟩
    | none=>⟨λE A S k=>(aAz P ops i o).f E A S λ_ S=>(OF P ops l).f E A S k⟩
   | none=>⟨λ_ _ _ _=>False⟩:=rfl
  have e2:nI E ops (i::l) A' S k=match ops[i]? with
   | some o=>EC E ops i o A' S λv S=>mA A' o.dst v λA=>nI E ops l A S k
   | none=>false:=rfl
  rw [e1]at hv;rw [e2];cases hi:ops[i]? with
  | none=>rw [hi]at hv;cases hv
  | some o=>
   rw [hi]at hv;simp only at hv ⊢;cases hd:o.dst with
   | none=>
    rw [hd]at hv;exact Mj r s a (λc' h' S' v w le f s' rv hv=>ih s' (a.mono le f) (hk.mono le f) hv) hv
   | some d=>
    rw [hd]at hv;exact Mj r s a (λc' h' S' v w le f s' rv hv=>Qo (a.mono le f) rv hv λX X' x hx=>ih s' x (hk.mono le f) hx) hv
theorem Ml{Ev:VE}{E:Env}(r:ER P B Sbz Ev E){ops:Array Oper}{A:VA}{A':aO}(s:VS P B Sbz c h S)(a:AR c S (cY B c h) A A'){p:Prop}{b:Bool}(hb:p->b=true):∀{l:List (Nat×List Nat)},(Uy P ops l).f Ev A h p->OR E ops A' S l b=true:=by
 intro l;induction l with
 | nil=>intro hv;exact hb hv
 | cons q l ih=>
  intro hv
  have e1:Uy P ops (q::l)=match ops[q.1]? with
   | some o=>⟨λE A S k=>aMZ A o (((OF P ops q.2).f E A S λA S=>(aAz P ops q.1 o).f E A S λ_ _=>True)/\(Uy P ops l).f E A S k)⟩
   | none=>⟨λ_ _ _ _=>False⟩:=rfl
  have e2:OR E ops A' S (q::l) b=match ops[q.1]? with
   | some o=>aB1 A' o (dL (nI E ops q.2 A' S λA S=>EC E ops q.1 o A S λ_ _=>true) (OR E ops A' S l b) false)
   | none=>false:=rfl
  rw [e1]at hv;rw [e2];cases hi:ops[q.1]? with
  | none=>rw [hi]at hv;cases hv
  | some o=>
   rw [hi]at hv;simp only at hv ⊢;unfold aMZ at hv;unfold aB1;cases hd:o.dst with
   | none=>rw [hd]at hv;cases hv
   | some dd=>
    rw [hd]at hv;simp only at hv ⊢;obtain⟨hg,h1,h2⟩:=aIb _ _ hv
    ·rw [lV,a.abs dd hg]
     have hl:(nI E ops q.2 A' S λA S=>EC E ops q.1 o A S λ_ _=>true)=true:=SP r s a (λc' h' S' X X' le f s' x hv=>Mj r s' x (λ_ _ _ _ _ _ _ _ _ _=>rfl) hv) h1;show dL (nI E ops q.2 A' S λA S=>EC E ops q.1 o A S λ_ _=>true) (OR E ops A' S l b) false=true;rw [hl];exact ih h2
theorem RG{Ev:VE}{E:Env}(r:ER P B Sbz Ev E){ops:Array Oper}:∀{l:List wD} {c:Cx} {h:Hp} {S:St} {A:VA} {A':aO} {kv:KSV} {k:aO->St->Bool},VS P B Sbz c h S->AR c S (cY B c h) A A'->KSR P B Sbz c h S kv k->(JF P ops l).f Ev A h kv->lW E ops l A' S k=true:=by
 intro l;induction l with
 | nil=>intro c h S A A' kv k s a hk hv;cases hv
 | cons st l ih=>
  intro c h S A A' kv k s a hk hv;cases st with
  | take i=>
   have e1:JF P ops (.take i::l)=match ops[i]? with
    | some o=>⟨λE A S k=>(doV P ops o).f E A S λA S=>(JF P ops l).f E A S k⟩
    | none=>⟨λ_ _ _ _=>False⟩:=rfl
   have e2:lW E ops (.take i::l) A' S k=match ops[i]? with
    | some o=>VD E ops o A' S λA S=>lW E ops l A S k
    | none=>false:=rfl
   rw [e1]at hv;rw [e2];cases hi:ops[i]? with
   | none=>rw [hi]at hv;cases hv
   | some o=>
    rw [hi]at hv;exact ZP r s a (λc' h' S' X X' le f s' x hv=>ih s' x (hk.mono le f) hv) hv
  | Ps yC mP D q BX=>
   have e1:JF P ops (.Ps yC mP D q BX::l)=match ops[q]? with
    | some o=>⟨λE A S k=>(TG P ops yC).f E A S ((Uy P ops mP).f E A S ((OF P ops D).f E A S λA S=>(doV P ops o).f E A S λA S=>(TG P ops BX).f E A S ((JF P ops l).f E A S k)))⟩
    | none=>⟨λ_ _ _ _=>False⟩:=rfl
   have e2:lW E ops (.Ps yC mP D q BX::l) A' S k=match ops[q]? with
    | some o=>wL E ops A' S yC (OR E ops A' S mP (nI E ops D A' S λA S=>VD E ops o A S λA S=>wL E ops A S BX (lW E ops l A S k)))
    | none=>false:=rfl
   rw [e1]at hv;rw [e2];cases hi:ops[q]? with
   | none=>rw [hi]at hv;cases hv
   | some o=>
    rw [hi]at hv;refine RF r s a (λhv=>?_) hv;refine Ml r s a (λhv=>?_) hv;refine SP r s a (λc' h' S' X X' le f s' x hv=>?_) hv;refine ZP r s' x (λc2 h2 S2 Y Y' lA f2 s2 y hv=>?_) hv;refine RF r s2 y (λhv=>?_) hv;exact ih s2 y ((hk.mono le f).mono lA f2) hv
  | fin yC mP D=>
   have hv:(TG P ops yC).f Ev A h ((Uy P ops mP).f Ev A h ((OF P ops D).f Ev A h kv)):=hv;show wL E ops A' S yC (OR E ops A' S mP (nI E ops D A' S k))=true;refine RF r s a (λhv=>?_) hv;refine Ml r s a (λhv=>?_) hv;exact SP r s a hk hv
theorem Vg{Ev:VE}{E:Env}(r:ER P B Sbz Ev E){ops:Array Oper}:∀{l:List wD} {c:Cx} {h:Hp} {S:St} {A:VA} {A':aO} {kv:KSV} {k:aO->St->Bool},VS P B Sbz c h S->AR c S (cY B c h) A A'->KSR P B Sbz c h S kv k->(HI P ops l).f Ev A h kv->vR E ops l A' S k=true:=by
 intro l;induction l with
 | nil=>intro c h S A A' kv k s a hk hv;exact hk c h S A A' (.refl c) (.refl _ S) s a hv
 | cons st l ih=>
  intro c h S A A' kv k s a hk hv;cases st with
  | take i=>
   have e1:HI P ops (.take i::l)=match ops[i]? with
    | some o=>⟨λE A S k=>(doV P ops o).f E A S λA S=>(HI P ops l).f E A S k⟩
    | none=>⟨λ_ _ _ _=>False⟩:=rfl
   have e2:vR E ops (.take i::l) A' S k=match ops[i]? with
    | some o=>VD E ops o A' S λA S=>vR E ops l A S k
    | none=>false:=rfl
   rw [e1]at hv;rw [e2];cases hi:ops[i]? with
   | none=>rw [hi]at hv;cases hv
   | some o=>
    rw [hi]at hv;exact ZP r s a (λc' h' S' X X' le f s' x hv=>ih s' x (hk.mono le f) hv) hv
  | Ps yC mP D q BX=>
   have e1:HI P ops (.Ps yC mP D q BX::l)=match ops[q]? with
    | some o=>⟨λE A S k=>(TG P ops yC).f E A S ((Uy P ops mP).f E A S ((OF P ops D).f E A S λA S=>(doV P ops o).f E A S λA S=>(TG P ops BX).f E A S ((HI P ops l).f E A S k)))⟩
    | none=>⟨λ_ _ _ _=>False⟩:=rfl
   have e2:vR E ops (.Ps yC mP D q BX::l) A' S k=match ops[q]? with
    | some o=>wL E ops A' S yC (OR E ops A' S mP (nI E ops D A' S λA S=>VD E ops o A S λA S=>wL E ops A S BX (vR E ops l A S k)))
    | none=>false:=rfl
   rw [e1]at hv;rw [e2];cases hi:ops[q]? with
   | none=>rw [hi]at hv;cases hv
   | some o=>
    rw [hi]at hv;refine RF r s a (λhv=>?_) hv;refine Ml r s a (λhv=>?_) hv;refine SP r s a (λc' h' S' X X' le f s' x hv=>?_) hv;refine ZP r s' x (λc2 h2 S2 Y Y' lA f2 s2 y hv=>?_) hv;refine RF r s2 y (λhv=>?_) hv;exact ih s2 y ((hk.mono le f).mono lA f2) hv
  | fin yC mP D=>cases hv
end
section
variable{P:Program}{B:Nat->Prop}{Sbz:St}{c c' d:Cx}{h h':Hp}{S S':St}{C C':Nat->Prop}
theorem AR.del{A:VA}{A':aO}(a:AR c S C A A')(d:Nat):AR c S C ⟨⟨A.tmps.t.del d,A.tmps.n⟩,A.g⟩ {A' with tmps:=⟨A'.tmps.t.del d,A'.tmps.n⟩}:=by
 refine⟨a.n,a.g,a.marks,λi v e=>?_,λi e=>?_⟩
 ·have e:(A.tmps.t.del d).get i=some v:=e
  rw [YC]at e;show ∃w,(A'.tmps.t.del d).get i=some w/\_;rw [YC];by_cases hi:i=d
  ·rw [if_pos hi]at e;cases e
  ·rw [if_neg hi]at e ⊢;exact a.got i v e
 ·have e:(A.tmps.t.del d).get i=none:=e
  rw [YC]at e;show(A'.tmps.t.del d).get i=none;rw [YC];by_cases hi:i=d
  ·rw [if_pos hi]
  ·rw [if_neg hi]at e ⊢;exact a.abs i e
theorem Qr{ops:Array Oper}{k:VA->Prop}{k':aO->Bool}(hk:∀X X',AR c S C X X'->k X->k' X'=true):∀{l:List Nat} {A:VA} {A':aO},AR c S C A A'->aAA ops l A k->QF ops l A' k'=true:=by
 intro l;induction l with
 | nil=>intro A A' a hv;exact hk A A' a hv
 | cons i l ih=>
  intro A A' a hv
  have e1:aAA ops (i::l) A k=match ops[i]? with
   | some o=>match o.dst with
    | some d=>match A with | ⟨⟨t,n⟩,g⟩=>aH3 t d λt=>aAA ops l ⟨⟨t,n⟩,g⟩ k
    | none=>False
   | none=>False:=rfl
  have e2:QF ops (i::l) A' k'=match ops[i]? with
   | some o=>match o.dst with
    | some d=>aGQ A'.tmps.t d λt=>QF ops l {A' with tmps:=⟨t,A'.tmps.n⟩} k'
    | none=>false
   | none=>false:=rfl
  rw [e1]at hv;rw [e2];cases hi:ops[i]? with
  | none=>simp only [hi]at hv
  | some o=>
   simp only [hi]at hv ⊢;cases hd:o.dst with
   | none=>simp only [hd]at hv
   | some d=>
    simp only [hd]at hv ⊢;rw [aKA]at hv;rw [aDH];exact ih (a.del d) hv
theorem aCY{w:Bool}{v:V}{k:Prop}(h:aEh w v k):v= .bool w/\k:=by
 unfold aEh at h;split at h
 ·rename_i b
  cases w<;>cases b<;>first | exact⟨rfl,h⟩ | exact h.elim
 ·exact h.elim
theorem aCZ{Ev:VE}{E:Env}(r:ER P B Sbz Ev E):∀{p:QN} {ops:Array Oper} {c:Cx} {h:Hp} {S:St} {A:VA} {A':aO} {kv:KSV} {k:aO->St->Bool},VS P B Sbz c h S->AR c S (cY B c h) A A'->KSR P B Sbz c h S kv k->(aCM P p ops).f Ev A h kv->QO E p ops A' S k=true:=by
 intro p;induction p with
 | fin l=>intro ops c h S A A' kv k s a hk hv;exact RG r s a hk hv
 | cut l g t b p ih=>
  intro ops c h S A A' kv k s a hk hv;have hv:(HI P ops l).f Ev A h (λA S=>Oq A.tmps t λv=>aEh b v ((aCM P p (eW ops g b)).f Ev A S kv)):=hv;show vR E ops l A' S (λA S=>YO A t b (QO E p (eW ops g b) A S k))=true;refine Vg r s a (λc' h' S' X X' le f s' x hv=>?_) hv;unfold YO;refine AI x hv λv w rv hv=>?_;obtain⟨e,Sw⟩:=aCY hv;subst e;cases rv;have:=ih (ops:=eW ops g b) s' x (hk.mono le f) Sw;cases b<;>exact this
theorem aIu{Ev:VE}{E:Env}(r:ER P B Sbz Ev E){ops:Array Oper}{draw:Bool}{A:VA}{A':aO}(s:VS P B Sbz c h S)(a:AR c S (cY B c h) A A'){kv:KSV}{k:aO->St->Bool}(hk:KSR P B Sbz c h S kv k)(hv:(aAB P ops draw).f Ev A h kv):(aFf P ops draw).f E A' S k=true:=by
 have hP:=r.eP;subst hP;rw [aDW];cases draw with
 | false=>exact aIt r s a hk hv
 | true=>
  show drG E ops A' S k=true;unfold aAB at hv;simp only at hv;unfold drG;cases hp:YJ E.P ops with
  | none=>
   simp only [hp]at hv ⊢;cases rY:GV ops with
   | false=>simp only [rY]at hv
   | true=>
    simp only [rY]at hv ⊢;cases Ee:YN E.P (ops.size+1) ops ⟨List.replicate ops.size false⟩ []with
    | none=>simp only [Ee]at hv
    | some p=>
     simp only [Ee]at hv ⊢;exact Qr (λX X' x hx=>aCZ r s x hk hx) a hv
  | some l=>
   simp only [hp]at hv ⊢;cases hl:LG l with
   | nil=>
    simp only [hl]at hv;exact RG r s a hk hv
   | cons x ls=>
    simp only [hl]at hv;exact Qr (λX X' x hx=>RG r s x hk hx) a hv
def CKR(P:Program)(B:Nat->Prop)(Sbz:St)(c:Cx)(h:Hp)(S:St)(Kv:CV)(K:VF):Prop:=
 ∀c' h' S' A A' e,c.le c'->AZ (cY B c h) S S' (cY B c' h')->VS P B Sbz c' h' S'->AR c' S' (cY B c' h') A A'->Kv e A h'->K e A' S'=true
def LKR(P:Program)(B:Nat->Prop)(Sbz:St)(c:Cx)(h:Hp)(S:St)(Kv:wB->List V->Nat->Hp->Prop)(K:wB->List Value->Nat->List Nat->St->Bool):Prop:=
 ∀c' h' S' vs ws n e,c.le c'->AZ (cY B c h) S S' (cY B c' h')->VS P B Sbz c' h' S'->kW c' S' (cY B c' h') vs ws->Kv e vs n h'->∀marks,Gz c' S' (cY B c' h') marks->K e ws n marks S'=true
def RoV(c:Cx)(r r':Option Nat):Prop:=(r=none/\r'=none)\/∃l b,r=some l/\r'=some b/\c.Z l=some b
theorem RoV.mono{r r':Option Nat}(q:RoV c r r')(l:c.le c'):RoV c' r r':=by
 rcases q with q | ⟨i,b,h1,h2,h3⟩
 ·exact .inl q
 ·exact .inr ⟨i,b,h1,h2,l.Z _ _ h3⟩
def aLO(P:Program)(B:Nat->Prop)(Sbz:St)(Ev:VE)(E:Env)(r r':Option Nat)(lv:LpV)(lx:LpT):Prop:=
 ∀{c:Cx} {h:Hp} {S:St} {vs:List V} {ws:List Value} {n:Nat} {marks:List Nat} {Kv:wB->List V->Nat->Hp->Prop} {K:wB->List Value->Nat->List Nat->St->Bool},VS P B Sbz c h S->RoV c r r'->Gz c S (cY B c h) marks->kW c S (cY B c h) vs ws->LKR P B Sbz c h S Kv K->lv Ev vs n h Kv->lx E r' ws n marks S K=true
theorem CKR.mono{Kv:CV}{K:VF}(q:CKR P B Sbz c h S Kv K)(l:c.le c')(f:AZ (cY B c h) S S' (cY B c' h')):CKR P B Sbz c' h' S' Kv K:=
 λc2 h2 S2 A A' e l2 f2=>q c2 h2 S2 A A' e (l.trans l2) (f.trans f2)
theorem LKR.mono{Kv:wB->List V->Nat->Hp->Prop}{K:wB->List Value->Nat->List Nat->St->Bool}(q:LKR P B Sbz c h S Kv K)(l:c.le c')(f:AZ (cY B c h) S S' (cY B c' h')):LKR P B Sbz c' h' S' Kv K:=
 λc2 h2 S2 vs ws n e l2 f2=>q c2 h2 S2 vs ws n e (l.trans l2) (f.trans f2)
theorem LQ{A:VA}{A':aO}(a:AR c S C A A'):∀{l:List Nat} {k:List V->Prop} {k':List Value->Bool},HJ l A k->(∀vs ws,kW c S C vs ws->k vs->k' ws=true)->AC l A' k'=true:=by
 intro l;induction l with
 | nil=>intro k k' hv hk;exact hk [] [] .nil hv
 | cons i l ih=>
  intro k k' hv hk;have hv:Oq A.tmps i (λv=>HJ l A λvs=>k (v::vs)):=hv;show SC A'.tmps i (λv=>AC l A' λvs=>k' (v::vs))=true;exact AI a hv λv w rv hv=>ih hv λvs ws rs hv=>hk _ _ (.cons rv rs) hv
theorem aFR{A:VA}:∀{l:List Nat} {k:List V->Prop},HJ l A k->∃vs,k vs/\vs.length=l.length/\∀(j i:Nat) (v:V),l[j]? =some i->vs[j]? =some v->A.tmps.t.get i=some v:=by
 intro l;induction l with
 | nil=>intro k hv;exact⟨[],hv,rfl,λj i v h=>by simp at h⟩
 | cons i l ih=>
  intro k hv;obtain⟨v,e,hv⟩:=aAF _ _ _ (show Oq A.tmps i (λv=>HJ l A λvs=>k (v::vs))from hv);obtain⟨vs,h1,h2,h3⟩:=ih hv;refine⟨v::vs,h1,by simp [h2],λj x u hx hu=>?_⟩;cases j with
  | zero=>simp at hx hu;subst hx hu;exact e
  | succ j=>simp at hx hu;exact h3 j x u hx hu
theorem aFS{g:Nat}{marks:List Nat}{k:VA->Prop}{k':aO->Bool}(hk:∀X X',AR c S C X X'->k X->k' X'=true):∀{l:List Nat} {vs:List V} {ws:List Value} {T:Uv} {T':Tm},kW c S C vs ws->AR c S C ⟨T,g⟩ ⟨T',marks,g⟩->
 fS (β:=List V->Uv->Prop) (λ_ T=>k ⟨T,g⟩) (λi _ ih vs T=>match vs with | v::vs=>UF v T i λT=>ih vs T | []=>False) l vs T->
 fS (β:=List Value->Tm->Bool) (λ_ T=>k' ⟨T,marks,g⟩) (λi _ ih vs T=>match vs with | v::vs=>sB v T i λT=>ih vs T | []=>false) l ws T'=true:=by
 intro l;induction l with
 | nil=>intro vs ws T T' _ a hv;exact hk _ _ a hv
 | cons i l ih=>
  intro vs ws T T' rs a hv;rw [aS]at hv ⊢;cases vs with
  | nil=>cases hv
  | cons v vs=>
   obtain⟨w,ws',rfl,rv,rs⟩:=rs.cons_inv;obtain⟨h1,h2⟩:=SO hv;show sB w T' i _=true;rw [ZL (by rw [show T'.n=T.n from a.n.symm];exact h1)];exact ih rs (a.put rv) h2
theorem AR.leaf{n g:Nat}{marks:List Nat}(m:Gz c S C marks):AR c S C ⟨⟨.leaf,n⟩,g⟩ ⟨⟨.leaf,n⟩,marks,g⟩:=⟨rfl,rfl,m,λi v e=>(by cases e),λi _=>rfl⟩
theorem NF{l:List Nat}{vs:List V}{ws:List Value}{n g:Nat}{k:VA->Prop}{k':aO->Bool}{marks:List Nat}(m:Gz c S C marks)(rs:kW c S C vs ws)(hv:EE l vs n g k)(hk:∀X X',AR c S C X X'->k X->k' X'=true):HB l ws n g marks k'=true:=aFS hk rs (.leaf m) hv
variable{tb:pR}
theorem aM4(s:VS P B Sbz c h S)(o:iP):VS P B Sbz c h (S.new o)/\AZ (cY B c h) S (S.new o) (cY B c h):=by
 have fr:AZ (cY B c h) S (S.new o) (cY B c h):=⟨Jd _,λj hj _=>gV (Nat.ne_of_lt hj),λb l=> .inl l⟩;refine⟨⟨s.base.trans (.new S _),s.bB,λi o' e eg=>?_,λi vs t n e=>?_,s.inj,s.Gs,s.room,s.RD,λi vs t n m b e e3=>⟨(s.Gb i vs t n m b e e3).1,oT (s.Gb i vs t n m b e e3).2⟩,λi vs t n b ws e' olds e e3 e4=>s.old i vs t n b ws e' olds e e3 (by rw [gV (by have:=(s.Gb i vs t n n b e e3).2;omega)]at e4;exact e4)⟩,fr⟩
 ·obtain⟨b,a,a1,a2,a3,a4,a5⟩:=s.ob i o' e eg
  exact⟨b,a,a1,a2,oT a3,by rw [gV (by omega)];exact a4,a5.mono (.refl c) fr⟩
 ·obtain⟨b,ws,olds,sz,a1,a2,a3,a4,a5,a6⟩:=s.iX i vs t n e
  exact⟨b,ws,olds,sz,a1,a2,oT a3,by rw [gV (by omega)];exact a4,a5.mono (.refl c) fr,a6⟩
theorem Vh{k:iP->Bool}{b:Nat}{a:iP}(e:S.obj b=some a):oV S.h b k=k a:=by
 rw [lV];have e:S.h.get b=some a:=e;rw [e]
theorem aC0{l:Nat}{p:Prop}(hv:Hy l h p):∃ls vs n ps as bo st pe,h l=some (.loop ls vs n ps as bo st pe)/\p:=by
 unfold Hy at hv;split at hv
 ·rename_i e;exact⟨_,_,_,_,_,_,_,_,e,hv⟩
 ·cases hv
theorem aKF{X X':aO}{Kv:CV}{K:VF}{A:VA}{pe:Option Code}{kn:aO}(e:X=X')(hn:kn=X')(h1:Kv .normal A h->K .normal X' S=true)(h2:Kv .ret A h->K .ret X' S=true)(h3:∀i,Kv (.exit i) A h->K (.exit i) X' S=true)
 (hv:Fh pe (Kv .normal A h) (Kv .ret A h) (λid=>Kv (.exit id) A h)):(match(generalizing:=false) pe with | none=>K .normal X S | some .ret=>K .ret X S | some (.exit id)=>K (.exit id) X S | _=>false)=true:=by
 subst e;unfold Fh at hv;split at hv
 ·exact h1 hv
 ·exact h2 hv
 ·exact h3 _ hv
 ·cases hv
theorem Fk{Ev:VE}{E:Env}(r:ER P B Sbz Ev E){A:VA}{A':aO}(s:VS P B Sbz c h S)(a:AR c S (cY B c h) A A'){ls:List Nat}{vs:List V}(hl:vs.length=ls.length)(hg:∀(j i:Nat) (v:V),ls[j]? =some i->vs[j]? =some v->A.tmps.t.get i=some v){g:FuncId}{fa fc:List V}{fa' fc':List Value}
 (ra:kW c S (cY B c h) fa fa') (rc:kW c S (cY B c h) fc fc') {ps:List Tmp} {as bo:Code} {Kv:CV} {K:VF} (k:CKR P B Sbz c h S Kv K)
 (hv:Db Ev (.func g fa fc) ls vs A.tmps.n ps as bo h λpe h'=>Fh pe (Kv .normal A h') (Kv .ret A h') λid=>Kv (.exit id) A h'):
 (uH S (.loop A'.tmps ps as bo .ready none) λl S=>zN fa' [.func (.yield l) #[] #[]] λas=>zN as fc' λas=>E.call g as S λ_ S=>
  oV S.h l λo=>match o with
   | .loop tm ps as bo st pe=>match st with
    | .busy=>false
    | _=>rE S l (.loop tm ps as bo .exhausted pe) λS=>match pe with
     | none=>K .normal A' S
     | some .ret=>K .ret A' S
     | some (.exit id)=>K (.exit id) A' S
     | _=>false
   | _=>false)=true:=by
 obtain⟨l,h0,h1,h2⟩:=s.fresh;have hv:=hv l h0;rw [gZ]
 obtain⟨s1,le,fr,hb⟩:=s.aEi h0 h1 h2 (o:= .loop ls vs A.tmps.n ps as bo .ready none) (ao:= .loop A'.tmps ps as bo .ready none) rfl (λd S' C' le f=>⟨_,rfl,a.n,hl,λj i v e1 e2=>by
  obtain⟨w,g1,g2⟩:=a.got i v (hg j i v e1 e2);exact⟨w,g1,g2.mono le f⟩⟩)
 rw [lE,lE];have ry:fI (c.putZ l S.n) (S.new (.loop A'.tmps ps as bo .ready none)) (cY B (c.putZ l S.n) (aM h l (.loop ls vs A.tmps.n ps as bo .ready none))) (.yield l) (.func (.yield S.n) #[] #[]):= .yield hb;refine r.aEl g s1 (((ra.mono le fr).app (.cons ry .nil)).app (rc.mono le fr)) ?_ hv;intro c' h' S' v w l2 f2 s2 rv hv;unfold aAu at hv;split at hv
 ·rename_i ls' vs' n' Nq as' bo' st pe e
  obtain⟨b,ao,b1,b2,b3,b4,b5⟩:=s2.ob l _ e rfl;have hbb:=l2.Z _ _ hb;rw [hbb]at b1;injection b1 with b1;subst b1;obtain⟨T,rfl,b6,b7,b8⟩:=b5;show(oV S'.h S.n _)=true;rw [Vh b4];simp only
  have fin:∀{p:Prop},(Fh pe (Kv .normal A (aM h' l (.loop ls' vs' n' Nq as' bo' .exhausted pe))) (Kv .ret A (aM h' l (.loop ls' vs' n' Nq as' bo' .exhausted pe))) λid=>Kv (.exit id) A (aM h' l (.loop ls' vs' n' Nq as' bo' .exhausted pe)))->
   (rE S' S.n (.loop T Nq as' bo' .exhausted pe) λS=>match(generalizing:=false) pe with
    | none=>K .normal A' S
    | some .ret=>K .ret A' S
    | some (.exit id)=>K (.exit id) A' S
    | _=>false)=true:=by
   intro _ hv;rw [gR]
   obtain⟨s3,f3⟩:=s2.Qn e rfl hbb (o:= .loop ls' vs' n' Nq as' bo' .exhausted pe) (ao:= .loop T Nq as' bo' .exhausted pe) rfl (λS' C' f=>⟨T,rfl,b6,b7,λj i v e1 e2=>by
    obtain⟨w,g1,g2⟩:=b8 j i v e1 e2;exact⟨w,g1,g2.mono (.refl _) f⟩⟩)
   have leA:=le.trans l2;have frA:=(fr.trans f2).trans f3;have aA:=a.mono leA frA;refine aKF (X:=A') (X':=A') (Kv:=Kv) (K:=K) (kn:=A') rfl rfl (λhv=>k _ _ _ A A' .normal leA frA s3 aA hv) (λhv=>k _ _ _ A A' .ret leA frA s3 aA hv) (λi hv=>k _ _ _ A A' (.exit i) leA frA s3 aA hv) hv
  split at hv
  ·cases hv
  ·rename_i TU
   split
   ·exact absurd rfl TU
   ·exact fin (p:=True) hv
 ·cases hv
theorem aC1{Ev:VE}{E:Env}(r:ER P B Sbz Ev E){ro Xi:Option Nat}{f:Operand}{ps:Array Tmp}{as bo:Code}{A:VA}{A':aO}{Kv:CV}{K:VF}(s:VS P B Sbz c h S)(qR:RoV c ro Xi)(a:AR c S (cY B c h) A A')(k:CKR P B Sbz c h S Kv K)(hv:(Vb tb ro f ps as bo).f Ev A h Kv):VG E Xi f ps as bo A' S K=true:=by
 unfold Vb at hv;unfold VG;refine bK a hv λfv fw rf hv=>?_;obtain⟨vs,hv,hl,hg⟩:=aFR hv;rcases qR with ⟨rfl,rfl⟩ | ⟨l,b,rfl,rfl,hb⟩
 ·have hv:Db Ev fv (Va tb bo) vs A.tmps.n ps.toList as bo h _:=hv
  cases rf with
  | @func g fa fc fa' fc' la lc ha hc=>
   simp only;rw [gZ];obtain⟨s1,f1⟩:=aM4 s .defers
   have m1:Gz c (S.new .defers) (cY B c h) (S.n::A'.marks):=by
    have m:=a.marks.mono (.refl c) f1;refine⟨m.n0,UV.2 ⟨λhx=>?_,m.nd⟩,λd hd=>?_⟩
    ·exact Nat.lt_irrefl _ (a.marks.ok _ hx).2.1
    ·rcases dA.1 hd with rfl | hd
     ·exact⟨a.marks.n0,xS _,λx=>Nat.lt_irrefl _ (s.aFJ x),sO⟩
     ·exact m.ok d hd
   have a0:=a.mono (.refl c) f1;have a1:AR c (S.new .defers) (cY B c h) A ⟨A'.tmps,S.n::A'.marks,A'.g⟩:=⟨a0.n,a0.g,m1,a0.got,a0.abs⟩;exact Fk r s1 a1 hl hg ((⟨la,ha⟩:kW _ _ _ fa fa').mono (.refl c) f1) ((⟨lc,hc⟩:kW _ _ _ fc fc').mono (.refl c) f1) (λc' h' S' X X' e l2 f2=>k c' h' S' X X' e l2 (f1.trans f2)) hv
  | _=>cases hv
 ·have hv:Hy l h (Db Ev fv (Va tb bo) vs A.tmps.n ps.toList as bo h _):=hv
  obtain⟨_,_,_,_,_,_,_,_,e,hv⟩:=aC0 hv;cases rf with
  | @func g fa fc fa' fc' la lc ha hc=>
   simp only;obtain⟨b',ao,b1,b2,b3,b4,b5⟩:=s.ob l _ e rfl;rw [hb]at b1;injection b1 with b1;subst b1;obtain⟨T,rfl,_⟩:=b5;rw [Vh b4];exact Fk r s a hl hg ⟨la,ha⟩ ⟨lc,hc⟩ k hv
  | _=>cases hv
theorem SQ{Ev:VE}{E:Env}(r:ER P B Sbz Ev E){ro Xi:Option Nat}{lv:Code->LpV}{lx:Code->LpT}(hl:∀a,aLO P B Sbz Ev E ro Xi (lv a) (lx a)):∀(q:Code) {c:Cx} {h:Hp} {S:St} {A:VA} {A':aO} {Kv:CV} {K:VF},
 VS P B Sbz c h S->RoV c ro Xi->AR c S (cY B c h) A A'->CKR P B Sbz c h S Kv K->(lO P tb ro lv q).f Ev A h Kv->(oY P tb lx q).f E Xi A' S K=true:=by
 intro q;induction q with
 | skip=>intro c h S A A' Kv K s qR a k hv;exact k c h S A A' .normal (.refl c) (.refl _ S) s a hv
 | label l=>intro c h S A A' Kv K s qR a k hv;exact k c h S A A' .normal (.refl c) (.refl _ S) s a hv
 | ret=>intro c h S A A' Kv K s qR a k hv;exact k c h S A A' .ret (.refl c) (.refl _ S) s a hv
 | exit i=>intro c h S A A' Kv K s qR a k hv;exact k c h S A A' (.exit i) (.refl c) (.refl _ S) s a hv
 | goto l=>intro c h S A A' Kv K s qR a k hv;cases hv
 | refuse l=>intro c h S A A' Kv K s qR a k hv;cases hv
 | rangeFunc f ps as bo _ _=>
  intro c h S A A' Kv K s qR a k hv;have hv:(Vb tb ro f ps as bo).f Ev A h Kv:=hv;exact aC1 r s qR a k hv
 | region i ops draw=>
  intro c h S A A' Kv K s qR a k hv;have hv:(aAB P ops draw).f Ev A h (λA S=>Kv .normal A S):=hv;show(aFf P ops draw).f E A' S (λA S=>K .normal A S)=true;exact aIu r s a (λc' h' S' X X' l f s' x hv=>k c' h' S' X X' .normal l f s' x hv) hv
 | seq x y ihx ihy=>
  intro c h S A A' Kv K s qR a k hv;refine ihx s qR a ?_ (show(lO P tb ro lv x).f Ev A h (ZK P (nQ tb y) (lO P tb ro lv y) Ev Kv)from hv);intro c' h' S' X X' e l f s' x hv;cases e with
  | normal=>
   unfold ZK at hv;show aAb P (nQ tb y) (oY P tb lx y) E Xi K .normal X' S'=true;unfold aAb;simp only at hv ⊢;cases hj:nQ tb y with
   | none=>simp only [hj]at hv ⊢;exact ihy s' (qR.mono l) x (k.mono l f) hv
   | some ls=>
    simp only [hj]at hv ⊢;refine LQ x hv λvs ws rs hv=>?_;unfold aAD at hv;unfold aDX;rw [r.eM]at hv;cases hm:E.most with
    | zero=>rw [hm]at hv;cases hv
    | succ m=>
     rw [hm]at hv;obtain⟨h2,hle,hv⟩:=hv;obtain⟨s2,f2⟩:=s'.drop hle;have hv:EE ls vs X.tmps.n P.globals.size (λA=>(lO P tb ro lv y).f Ev A h2 Kv):=hv;rw [x.n]at hv;show HB ls ws X'.tmps.n P.globals.size X'.marks (λA=>(oY P tb lx y).f E Xi A S' K)=true;exact NF (x.marks.mono (.refl _) f2) (rs.mono (.refl _) f2) hv λY Y' y hv=>ihy s2 (qR.mono l) y ((k.mono l f).mono (.refl _) f2) hv
  | exit i=>exact k c' h' S' X X' (.exit i) l f s' x hv
  | ret=>exact k c' h' S' X X' .ret l f s' x hv
 | cond b x y ihx ihy=>
  intro c h S A A' Kv K s qR a k hv;have hv:(wE b).f A (λv=>iQ v ((lO P tb ro lv x).f Ev A h Kv) ((lO P tb ro lv y).f Ev A h Kv)):=hv;show(xI b).f A' (λv=>match v with | .bool b=>dL b ((oY P tb lx x).f E Xi A' S K) ((oY P tb lx y).f E Xi A' S K) | _=>false)=true;rw [kT];refine bK a hv λv w rv hv=>?_;cases rv with
  | @bool b=>
   cases b with
   | true=>exact ihx s qR a k hv
   | false=>exact ihy s qR a k hv
  | _=>cases hv
 | block i x ih=>
  intro c h S A A' Kv K s qR a k hv;refine ih s qR a ?_ (show(lO P tb ro lv x).f Ev A h (Lx i Kv)from hv);intro c' h' S' X X' e l f s' x hv;cases e with
  | normal=>exact k c' h' S' X X' .normal l f s' x hv
  | ret=>exact k c' h' S' X X' .ret l f s' x hv
  | exit j=>
   show(match Nat.beq j i with | true=>K .normal X' S' | false=>K (.exit j) X' S')=true;have hv:aEc j i (Kv .normal X h') (Kv (.exit j) X h'):=hv;unfold aEc at hv;cases hj:Nat.beq j i with
   | true=>rw [hj]at hv;exact k c' h' S' X X' .normal l f s' x hv
   | false=>rw [hj]at hv;exact k c' h' S' X X' (.exit j) l f s' x hv
 | scope x ih=>
  intro c h S A A' Kv K s qR a k hv;exact ih s qR a k hv
 | loop x ih=>
  intro c h S A A' Kv K s qR a k hv;have hv:HJ (tQ tb x) A (λvs=>lv x Ev vs A.tmps.n h (aAC P tb x Kv)):=hv;show AC (tQ tb x) A' (λvs=>lx x E Xi vs A'.tmps.n A'.marks S (aME P tb x K))=true;refine LQ a hv λvs ws rs hv=>?_;rw [<-a.n];refine hl x s qR a.marks rs ?_ hv;intro c' h' S' vs ws n e l f s' rs hv marks m;exact NF m rs hv λX X' x hx=>k c' h' S' X X' e l f s' x hx
theorem Vi{Ev:VE}{E:Env}(r:ER P B Sbz Ev E){ro Xi:Option Nat}:∀(m:Nat) (a:Code),aLO P B Sbz Ev E ro Xi (EG P tb ro m a) (lpX P tb m a):=by
 intro m;induction m with
 | zero=>intro a c h S vs ws n marks Kv K s qR mk rs k hv;cases hv
 | succ m ih=>
  intro a
  have go:∀(j:Nat) {c:Cx} {h:Hp} {S:St} {vs:List V} {ws:List Value} {n:Nat} {marks:List Nat} {Kv:wB->List V->Nat->Hp->Prop} {K:wB->List Value->Nat->List Nat->St->Bool},VS P B Sbz c h S->RoV c ro Xi->Gz c S (cY B c h) marks->kW c S (cY B c h) vs ws->LKR P B Sbz c h S Kv K->JG P tb a (lO P tb ro (EG P tb ro m) a) Ev Kv j vs n h->YW P tb a (oY P tb (lpX P tb m) a) E Xi K j ws n marks S=true:=by
   intro j;induction j with
   | zero=>intro c h S vs ws n marks Kv K s qR mk rs k hv;cases hv
   | succ j ihj=>
    intro c h S vs ws n marks Kv K s qR mk rs k hv;obtain⟨h2,hle,hv⟩:=hv;obtain⟨s2,f2⟩:=s.drop hle;show HB (tQ tb a) ws n P.globals.size marks (λA=>(oY P tb (lpX P tb m) a).f E Xi A S (Uf tb a (YW P tb a (oY P tb (lpX P tb m) a) E Xi K j) K))=true;refine NF (mk.mono (.refl _) f2) (rs.mono (.refl _) f2) hv λX X' x hv=>?_;refine SQ r ih a s2 qR x ?_ hv;intro c' h' S' Y Y' e l f s' y hv;have kk:=(k.mono (.refl _) f2).mono l f;cases e with
    | normal=>
     have hv:HJ (tQ tb a) Y (λvs=>JG P tb a (lO P tb ro (EG P tb ro m) a) Ev Kv j vs Y.tmps.n h'):=hv;show AC (tQ tb a) Y' (λvs=>YW P tb a (oY P tb (lpX P tb m) a) E Xi K j vs Y'.tmps.n Y'.marks S')=true;refine LQ y hv λvs ws rs hv=>?_;rw [<-y.n];exact ihj s' (qR.mono l) y.marks rs kk hv
    | exit i=>
     have hv:HJ (YV tb a (.exit i)) Y (λvs=>Kv (.exit i) vs Y.tmps.n h'):=hv;show AC (YV tb a (.exit i)) Y' (λvs=>K (.exit i) vs Y'.tmps.n Y'.marks S')=true;refine LQ y hv λvs ws rs hv=>?_;rw [<-y.n];exact kk c' h' S' vs ws _ _ (.refl _) (.refl _ S') s' rs hv _ y.marks
    | ret=>
     have hv:HJ (YV tb a .ret) Y (λvs=>Kv .ret vs Y.tmps.n h'):=hv;show AC (YV tb a .ret) Y' (λvs=>K .ret vs Y'.tmps.n Y'.marks S')=true;refine LQ y hv λvs ws rs hv=>?_;rw [<-y.n];exact kk c' h' S' vs ws _ _ (.refl _) (.refl _ S') s' rs hv _ y.marks
  intro c h S vs ws n marks Kv K s qR mk rs k hv;have hv:JG P tb a (lO P tb ro (EG P tb ro m) a) Ev Kv Ev.most vs n h:=hv;rw [r.eM]at hv;exact go _ s qR mk rs k hv
theorem aIv{k:Uv->Prop}{k':Tm->Bool}{g:Nat}{marks:List Nat}(hk:∀T T',AR c S C ⟨T,g⟩ ⟨T',marks,g⟩->k T->k' T'=true):∀{vs:List V} {ws:List Value} {i:Nat} {T:Uv} {T':Tm},kW c S C vs ws->AR c S C ⟨T,g⟩ ⟨T',marks,g⟩->
 fS (β:=Nat->Uv->Prop) (λ_ T=>k T) (λa _ ih i T=>UF a T i λT=>ih (Nat.succ i) T) vs i T->
 fS (β:=Nat->Tm->Bool) (λ_ T=>k' T) (λa _ ih i T=>sB a T i λT=>cG (Nat.succ i) λi=>ih i T) ws i T'=true:=by
 intro vs;induction vs with
 | nil=>intro ws i T T' rs a hv;rw [rs.nK];exact hk _ _ a hv
 | cons v vs ih=>
  intro ws i T T' rs a hv;obtain⟨w,ws',rfl,rv,rs⟩:=rs.cons_inv;rw [aS]at hv ⊢;obtain⟨h1,h2⟩:=SO hv;rw [ZL (by rw [show T'.n=T.n from a.n.symm];exact h1),bA];exact ih rs (a.put rv) h2
theorem aFT{k:Uv->Prop}{k':Tm->Bool}{g:Nat}{marks:List Nat}(hk:∀T T',AR c S C ⟨T,g⟩ ⟨T',marks,g⟩->k T->k' T'=true):∀{ps:List Tmp} {vs:List V} {ws:List Value} {T:Uv} {T':Tm},kW c S C vs ws->AR c S C ⟨T,g⟩ ⟨T',marks,g⟩->aH6 ps vs T k->Yk ps ws T' k'=true:=by
 intro ps;induction ps with
 | nil=>
  intro vs ws T T' rs a hv;cases vs with
  | nil=>rw [rs.nK];exact hk _ _ a hv
  | cons v vs=>cases hv
 | cons p ps ih=>
  intro vs ws T T' rs a hv;cases vs with
  | nil=>cases hv
  | cons v vs=>
   obtain⟨w,ws',rfl,rv,rs⟩:=rs.cons_inv;have hv:UF v T p (λT=>aH6 ps vs T k):=hv;obtain⟨h1,h2⟩:=SO hv;show sB w T' p (λT=>Yk ps ws' T k')=true;rw [ZL (by rw [show T'.n=T.n from a.n.symm];exact h1)];exact ih rs (a.put rv) h2
def Cx.at(c:Cx)(n:Nat):Cx:=⟨c.Z,c.G,c.Yz,n⟩
theorem Cx.at0(c:Cx)(n:Nat):c.le0 (c.at n):=⟨λ_ _ e=>e,λ_ _ _ e=>e,λ_ _ e=>e⟩
theorem Fc.refl:Fc C S S C:=⟨bI _,λ_ _ _ _ _ _ e=>e,λ_ h=> .inl h⟩
theorem VS.at(s:VS P B Sbz c h S)(n:Nat):VS P B Sbz (c.at n) h S:=by
 refine⟨s.base,s.bB,λi o e eg=>?_,λi vs t m e=>?_,s.inj,s.Gs,s.room,s.RD,s.Gb,s.old⟩
 ·obtain⟨b,a,a1,a2,a3,a4,a5⟩:=s.ob i o e eg
  exact⟨b,a,a1,a2,a3,a4,a5.rN (c.at0 n) .refl⟩
 ·obtain⟨b,ws,olds,sz,a1,a2,a3,a4,a5,a6⟩:=s.iX i vs t m e
  exact⟨b,ws,olds,sz,a1,a2,a3,a4,a5.rN (c.at0 n) .refl,a6⟩
def kill(l:List Nat)(S:St):St:=l.foldl (λS d=>S.set d .dead) S
theorem WI:∀(l:List Nat) (S:St),(kill l S).n=S.n:=by
 intro l;induction l with
 | nil=>intro S;rfl
 | cons d l ih=>intro S;exact ih _
theorem CD:∀(l:List Nat) (S:St) {b:Nat},b∉l->(kill l S).obj b=S.obj b:=by
 intro l;induction l with
 | nil=>intro S b _;rfl
 | cons d l ih=>
  intro S b hb;have:=ih (S.set d .dead) (b:=b) (λh=>hb (.tail _ h));refine Eq.trans this ?_;exact kZ λe=>hb (e▸ .head _)
theorem aFU:∀(l:List Nat) (S:St) (k:St->Bool),l.Nodup->(∀d∈l,S.obj d=some .defers)->KE l S k=k (kill l S):=by
 intro l;induction l with
 | nil=>intro S k _ _;rfl
 | cons d l ih=>
  intro S k hn ho;show(oV S.h d λo=>match o with | .defers=>rE S d .dead λS=>KE l S k | _=>false)=_;rw [Vh (ho d (.head _))];simp only;rw [gR];obtain⟨h1,h2⟩:=UV.1 hn;exact ih _ k h2 λx hx=>by rw [kZ (λe:x=d=>h1 (e▸hx))];exact ho x (.tail _ hx)
theorem aEn{l:List Nat}(hd:∀d∈l,S.obj d=some .defers):Fc C S (kill l S) C:=by
 refine⟨Jc (WI l S).symm,λb h1 h2 vs e ck ho=>?_,λ_ h=> .inl h⟩;rw [CD l S (λhb=>by rw [hd b hb]at ho;cases ho)];exact ho
theorem VS.kill(s:VS P B Sbz c h S){l:List Nat}(hd:∀d∈l,Sbz.n<=d/\¬cY B c h d/\S.obj d=some .defers):VS P B Sbz c h (Am.kill l S):=by
 have fc:Fc (cY B c h) S (Am.kill l S) (cY B c h):=aEn λd hx=>(hd d hx).2.2;have l0:c.le0 c:=⟨λ_ _ e=>e,λ_ _ _ e=>e,λ_ _ e=>e⟩;refine⟨⟨by rw [WI];exact s.base.n,λj hj=>?_⟩,s.bB,λi o e eg=>?_,λi vs t m e=>?_,s.inj,s.Gs,s.room,s.RD,λi vs t n m b e e3=>by rw [WI];exact s.Gb i vs t n m b e e3,λi vs t n b ws e' olds e e3 e4=>s.old i vs t n b ws e' olds e e3 (by rw [CD l S (λhx=>(hd b hx).2.1 (.inr ⟨i,.inr ⟨vs,t,n,n,e,e3⟩⟩))]at e4;exact e4)⟩
 ·rw [CD l S (λhx=>by have:=(hd j hx).1;omega)]
  exact s.base.same j hj
 ·obtain⟨b,a,a1,a2,a3,a4,a5⟩:=s.ob i o e eg
  have hb:b∉l:=λhx=>(hd b hx).2.1 (.inr ⟨i,.inl ⟨o,e,eg,a1⟩⟩);exact⟨b,a,a1,a2,by rw [WI];exact a3,by rw [CD l S hb];exact a4,a5.rN l0 fc⟩
 ·obtain⟨b,ws,olds,sz,a1,a2,a3,a4,a5,a6⟩:=s.iX i vs t m e
  have hb:b∉l:=λhx=>(hd b hx).2.1 (.inr ⟨i,.inr ⟨vs,t,m,m,e,a1⟩⟩);exact⟨b,ws,olds,sz,a1,a2,by rw [WI];exact a3,by rw [CD l S hb];exact a4,a5.rN l0 fc,a6⟩
theorem Vj(s:VS P B Sbz c h S){A:VA}{A':aO}(a:AR c S (cY B c h) A A'):∀{rs:List ResultVar} {k:List V->Prop} {k':List Value->Bool},HM P rs A h k->(∀vs ws,kW c S (cY B c h) vs ws->k vs->k' ws=true)->rH P rs A' S k'=true:=by
 intro rs;induction rs with
 | nil=>intro k k' hv hk;exact hk [] [] .nil hv
 | cons x rs ih=>
  intro k k' hv hk;cases x with
  | tmp t=>
   have hv:Oq A.tmps t (λv=>HM P rs A h λvs=>k (v::vs)):=hv;show SC A'.tmps t (λv=>rH P rs A' S λvs=>k' (v::vs))=true;exact AI a hv λv w rv hv=>ih hv λvs ws rs hv=>hk _ _ (.cons rv rs) hv
  | cell x t=>
   have e1:HM P (.cell x t::rs) A h k=match uR P t,bP P t with
    | some false,_=>Oq A.tmps x λa=>bJ a h λv _=>HM P rs A h λvs=>k (v::vs)
    | some true,some (n+1)=>Oq A.tmps x λa=>cU (n+1) a h λv _=>HM P rs A h λvs=>k (v::vs)
    | _,_=>False:=rfl
   rw [e1]at hv;show SC A'.tmps x (λa=>KU P t a S λv _=>rH P rs A' S λvs=>k' (v::vs))=true;split at hv
   ·rename_i h1
    refine AI a hv λv w rv hv=>?_;rw [Ci h1];exact aEk s rv (λu y ru hu=>ih hu λvs ws rs hv=>hk _ _ (.cons ru rs) hv) hv
   ·rename_i n h1 h2
    refine AI a hv λv w rv hv=>?_;rw [Cj h1 h2];exact aAG s (by omega) rv (λu y ru hu=>ih hu λvs ws rs hv=>hk _ _ (.cons ru rs) hv) hv
   ·cases hv
theorem Mm(s:VS P B Sbz c h S){v:V}{w:Value}(rv:fI c S (cY B c h) v w){Kv:KV}{K:VK}(k:KR P B Sbz c h S Kv K)(hv:aQ v h Kv):K w S=true:=by
 obtain⟨h',u,hle,hf,hv⟩:=hv;obtain⟨d,O,le,s2,f2,r2⟩:=aM2 s hle rv hf;exact k d h' S _ w le f2 s2 r2 (hv O)
theorem aKG{tb:FuncId->pR}{Ev:VE}{E:Env}(r:ER P B Sbz Ev E)(f:FuncId){args:List V}{ws:List Value}{Kv:KV}{K:VK}(s:VS P B Sbz c h S)(ra:kW c S (cY B c h) args ws)(k:KR P B Sbz c h S Kv K)(hv:nV P tb f Ev args h Kv):fnX P tb f E ws S K=true:=by
 unfold nV at hv;unfold fnX;cases hf:P.funcs[f]? with
 | none=>simp only [hf]at hv
 | some fn=>
  simp only [hf]at hv ⊢;cases hb:fn.body with
  | none=>simp only [hb]at hv
  | some q=>
   simp only [hb]at hv ⊢;rw [bA];have m0:Gz (c.at S.n) S (cY B c h) []:=⟨bI _,.nil,λd hd=>by cases hd⟩;refine aIv (c:=c.at S.n) (g:=P.globals.size) (λT T' a hv=>?_) (ra.rN (c.at0 _) .refl) (.leaf m0) hv;refine SQ r (Vi r tE) q (s.at S.n) (.inl ⟨rfl,rfl⟩) a ?_ hv;intro c' h' S' X X' e l f s' x hv
   have fin:HM P fn.results.toList X h' (λvs=>match vs with | [v]=>aQ v h' Kv | vs=>aQ (.tuple vs) h' Kv)->KE X'.marks S' (λS=>rH P fn.results.toList X' S λvs=>match vs with | [v]=>K v S | vs=>K (.tuple ⟨vs⟩) S)=true:=by
    intro hv;have hm:=x.marks;have hn0:c'.n0=S.n:=l.n0;rw [aFU X'.marks S' _ hm.nd λd hd=>(hm.ok d hd).2.2.2];have s1:VS P B Sbz c' h' (kill X'.marks S'):=s'.kill λd hd=>⟨by have:=(hm.ok d hd).1;have:=s.base.n;omega,(hm.ok d hd).2.2.1,(hm.ok d hd).2.2.2⟩;have s2:VS P B Sbz (c'.at c.n0) h' (kill X'.marks S'):=s1.at c.n0;have lA:c.le (c'.at c.n0):=⟨λi b e=>l.Z i b e,λi n v e=>l.G i n v e,λi v e=>l.Yz i v e,rfl⟩
    have f2:AZ (cY B c h) S (kill X'.marks S') (cY B c' h'):=by
     refine⟨by rw [WI];exact f.n,λb h1 h2=>?_,f.sub⟩;rw [CD _ _ λhx=>by have:=(hm.ok b hx).1;omega];exact f.same b h1 h2
    have fc:Fc (cY B c' h') S' (kill X'.marks S') (cY B c' h'):=aEn λd hd=>(hm.ok d hd).2.2.2
    have x2:AR c' (kill X'.marks S') (cY B c' h') X ⟨X'.tmps,[],X'.g⟩:=
     ⟨x.n,x.g,⟨by rw [WI];exact hm.n0,.nil,λd hd=>by cases hd⟩,λi v e=>let⟨w,p,q⟩:=x.got i v e;⟨w,p,(q.rN ⟨λ_ _ e=>e,λ_ _ _ e=>e,λ_ _ e=>e⟩ fc)⟩,x.abs⟩
    show rH P fn.results.toList ⟨X'.tmps,[],X'.g⟩ (kill X'.marks S') (λvs=>match vs with | [v]=>K v (kill X'.marks S') | vs=>K (.tuple ⟨vs⟩) (kill X'.marks S'))=true;refine Vj s1 x2 hv λvs ws rs hv=>?_;have rs:kW (c'.at c.n0) (kill X'.marks S') (cY B (c'.at c.n0) h') vs ws:=rs.rN (c'.at0 c.n0) .refl;have kk:KR P B Sbz (c'.at c.n0) h' (kill X'.marks S') Kv K:=λc2 h2 S2 v w l2 f3=>k c2 h2 S2 v w (lA.trans l2) (f2.trans f3)
    match vs,ws,rs,hv with
    | [v],ws,rs,hv=>
     obtain⟨w,ws',rfl,rv,rs⟩:=rs.cons_inv;rw [rs.nK];exact Mm s2 rv kk hv
    | [],ws,rs,hv=>
     rw [rs.nK];exact Mm s2 (.tuple (a':=[]) rfl λk v w e=>by simp at e) kk hv
    | a::b::vs,ws,rs,hv=>
     obtain⟨w,ws',rfl,rv,rs⟩:=rs.cons_inv;obtain⟨w2,ws2,rfl,XF,rs⟩:=rs.cons_inv;exact Mm s2 (.tuple (kW.cons rv (.cons XF rs)).len (kW.cons rv (.cons XF rs)).rd) kk hv
   cases e with
   | normal=>exact fin hv
   | ret=>exact fin hv
   | exit i=>cases hv
theorem aIw{T:Tm}{g:Nat}:∀{ls:List Nat} {vs:List V},vs.length=ls.length->(∀(j i:Nat) (v:V),ls[j]? =some i->vs[j]? =some v->∃w,T.t.get i=some w/\fI c S C v w)->∃ws,kW c S C vs ws/\∀k':List Value->Bool,AC ls ⟨T,[],g⟩ k'=k' ws:=by
 intro ls;induction ls with
 | nil=>
  intro vs hl _;obtain rfl:vs=[]:=mS (by simpa using hl);exact⟨[],.nil,λk'=>rfl⟩
 | cons i ls ih=>
  intro vs hl hg;cases vs with
  | nil=>simp at hl
  | cons v vs=>
   obtain⟨w,e,rv⟩:=hg 0 i v rfl rfl;obtain⟨ws,rs,hk⟩:=ih (vs:=vs) (by simpa using hl) λj x u h1 h2=>hg (j+1) x u (by simpa using h1) (by simpa using h2);refine⟨w::ws,.cons rv rs,λk'=>?_⟩;show SC T i (λv=>AC ls ⟨T,[],g⟩ λvs=>k' (v::vs))=_;unfold SC;rw [lV,e];exact hk _
theorem Df{l b:Nat}{st:LoopState}{pe:Option Code}{bb:Bool}{Kv:KV}{K:VK}(s:VS P B Sbz c h S)(hb:c.Z l=some b)(k:KR P B Sbz c h S Kv K)(hv:UD l st pe bb h Kv):
 ∃T ps as bo Hj pe',S.obj b=some (.loop T ps as bo Hj pe')/\K (.bool bb) (S.set b (.loop T ps as bo st pe))=true:=by
 unfold UD at hv;split at hv
 ·rename_i ls vs n ps as bo Hj pe' e
  obtain⟨b',ao,b1,b2,b3,b4,b5⟩:=s.ob l _ e rfl;rw [hb]at b1;injection b1 with b1;subst b1;obtain⟨T,rfl,b6,b7,b8⟩:=b5
  obtain⟨s3,f3⟩:=s.Qn e rfl hb (o:= .loop ls vs n ps as bo st pe) (ao:= .loop T ps as bo st pe) rfl (λS' C' f=>⟨T,rfl,b6,b7,λj i v e1 e2=>by
   obtain⟨w,g1,g2⟩:=b8 j i v e1 e2;exact⟨w,g1,g2.mono (.refl _) f⟩⟩)
  exact⟨T,ps,as,bo,Hj,pe',b4,k _ _ _ _ _ (.refl _) f3 s3 .bool hv⟩
 ·cases hv
theorem aC2{tb:FuncId->pR}{Ev:VE}{E:Env}(r:ER P B Sbz Ev E)(l b:Nat){args:List V}{ws:List Value}{Kv:KV}{K:VK}(s:VS P B Sbz c h S)(hb:c.Z l=some b)(ra:kW c S (cY B c h) args ws)(k:KR P B Sbz c h S Kv K)(hv:WB P tb Ev l args h Kv):Le P tb E b ws S K=true:=by
 unfold WB at hv;split at hv
 ·rename_i ls vs n ps as bo st pe e
  obtain⟨rfl,hv⟩:=hv;obtain⟨b',ao,b1,b2,b3,b4,b5⟩:=s.ob l _ e rfl;rw [hb]at b1;injection b1 with b1;subst b1;obtain⟨T,rfl,rfl,b7,b8⟩:=b5;unfold Le;rw [Vh b4];simp only;have m0:Gz (c.at S.n) S (cY B c h) []:=⟨bI _,.nil,λd hd=>by cases hd⟩;obtain⟨us,rs,TI⟩:=aIw (g:=P.globals.size) b7 b8;rw [TI];unfold Us at hv;refine NF (c:=c.at S.n) m0 (rs.rN (c.at0 _) .refl) hv λX X' x hv=>?_;refine aFT (g:=P.globals.size) (marks:=[]) (λT1 T1' a hv=>?_) (ra.rN (c.at0 _) .refl) (show AR (c.at S.n) S (cY B c h) ⟨X.tmps,P.globals.size⟩ ⟨X'.tmps,[],P.globals.size⟩from⟨x.n,rfl,m0,x.got,x.abs⟩) hv
  have back:∀{c':Cx} {h':Hp} {S':St},(c.at S.n).le c'->AZ (cY B c h) S S' (cY B c' h')->KR P B Sbz (c'.at c.n0) h' S' Kv K:=by
   intro c' h' S' l1 f1 c2 h2 S2 v w l2 f2;have l3:c.le (c'.at c.n0):=⟨λi b e=>l1.Z i b e,λi n v e=>l1.G i n v e,λi v e=>l1.Yz i v e,rfl⟩;exact k c2 h2 S2 v w (l3.trans l2) (f1.trans f2)
  refine SQ r (Vi r tE) as (s.at S.n) (.inr ⟨l,b,rfl,rfl,hb⟩) a ?_ hv;intro c' h' S' Y Y' e' l1 f1 s' y hv;cases e' with
  | exit i=>cases hv
  | ret=>cases hv
  | normal=>
   have hv:Qh l h' (λS=>(lO P (tb (Cm T.n bo)) (some l) (EG P (tb (Cm T.n bo)) (some l) tE) bo).f Ev Y S (aO4 l Kv)):=hv;have TU:c'.Z l=some b:=l1.Z _ _ hb;unfold Qh at hv;split at hv
   ·rename_i ls2 vs2 n2 ps2 as2 bo2 pe2 e2
    obtain⟨b',ao,q1,q2,q3,q4,q5⟩:=s'.ob l _ e2 rfl;rw [TU]at q1;injection q1 with q1;subst q1;obtain⟨T2,rfl,q6,q7,q8⟩:=q5
    show(oV S'.h b λo=>match o with
     | .loop tm ps as bo' .ready pe=>rE S' b (.loop tm ps as bo' .busy pe) λS=>(oY P (tb (Cm T.n bo)) (lpX P (tb (Cm T.n bo)) tE) bo).f E (some b) Y' S (aKe b K)
     | _=>false)=true
    rw [Vh q4];simp only;rw [gR]
    obtain⟨s3,f3⟩:=s'.Qn e2 rfl TU (o:= .loop ls2 vs2 n2 ps2 as2 bo2 .busy pe2) (ao:= .loop T2 ps2 as2 bo2 .busy pe2) rfl (λS' C' f=>⟨T2,rfl,q6,q7,λj i v e1 e2=>by
     obtain⟨w,g1,g2⟩:=q8 j i v e1 e2;exact⟨w,g1,g2.mono (.refl _) f⟩⟩)
    refine SQ r (Vi r tE) bo s3 (.inr ⟨l,b,rfl,rfl,TU⟩) (y.mono (.refl _) f3) ?_ hv;intro c2 h2 S2 z0 Z' e3 l2 f2 s2 z hv;have TC:c2.Z l=some b:=l2.Z _ _ TU;have kk:=back (l1.trans l2) ((f1.trans f3).trans f2);unfold aKe;cases e3 with
    | normal=>
     obtain⟨T3,ps3,as3,bo3,st3,pe3,g1,g2⟩:=Df (s2.at c.n0) TC kk hv;rw [Vh g1];simp only;rw [gR];exact g2
    | ret=>
     obtain⟨T3,ps3,as3,bo3,st3,pe3,g1,g2⟩:=Df (s2.at c.n0) TC kk hv;rw [Vh g1];simp only;rw [gR];exact g2
    | exit i=>
     obtain⟨T3,ps3,as3,bo3,st3,pe3,g1,g2⟩:=Df (s2.at c.n0) TC kk hv;rw [Vh g1];simp only;rw [gR];exact g2
   ·cases hv
 ·cases hv
def OG(P:Program)(B:Nat->Prop)(Sbz:St)(ovv:Qj)(ov:FuncId->Option (List Value->St->VK->Bool)):Prop:=
 (∀f,ovv f=none->ov f=none)/\∀f g,ovv f=some g->∃g',ov f=some g'/\∀{args:List V} {ws:List Value} {c:Cx} {h:Hp} {S:St} {Kv:KV} {K:VK},VS P B Sbz c h S->kW c S (cY B c h) args ws->KR P B Sbz c h S Kv K->g args h Kv->g' ws S K=true
theorem aIx{tb:FuncId->pR}{ovv:Qj}{ov:FuncId->Option (List Value->St->VK->Bool)}(ho:OG P B Sbz ovv ov)(most:Nat):∀n,ER P B Sbz (Ut P tb ovv most n) (aFi P tb ov most n):=by
 intro n;induction n with
 | zero=>exact⟨rfl,rfl,λf args ws c h S Kv K s ra k hv=>(by cases hv),λl b args ws c h S Kv K s hb ra k hv=>(by cases hv)⟩
 | succ n ih=>
  refine⟨rfl,rfl,λf args ws c h S Kv K s ra k hv=>?_,λl b args ws c h S Kv K s hb ra k hv=>aC2 ih l b s hb ra k hv⟩;have hv:(match ovv f with | some g=>g args h Kv | none=>nV P tb f (Ut P tb ovv most n) args h Kv):=hv;show(match ov f with | some g=>g ws S K | none=>fnX P tb f (aFi P tb ov most n) ws S K)=true;cases hf:ovv f with
  | none=>
   rw [hf]at hv;rw [ho.1 f hf];exact aKG ih f s ra k hv
  | some g=>
   rw [hf]at hv;obtain⟨g',e,hg⟩:=ho.2 f g hf;rw [e];exact hg s ra k hv
end
section
variable(P:Program)(T:pR)(r:Option Nat)(E:VE)
theorem Oo(m:Nat)(k k':Nat->Code->CV->Prop)(h:∀D c K,k D c K=oU m False λ_=>k' D c K):∀(p:List Dir) (D:Nat) (c:Code) (ms:List Nat) (K:CV),rL P T r E p D c ms K k=oU m False λ_=>rL P T r E p D c ms K k':=by
 have hf:(False:Prop)=oU m False λ_=>False:=by cases m<;>rfl
 intro p;induction p with
 | nil=>intro D c ms K;exact h D c K
 | cons q p ih=>
  intro D c ms K
  cases q<;>cases c<;>first
   | exact hf
   | exact ih _ _ _ _
   | (cases D with
      | zero=>exact hf
      | succ D=>cases ms with
       | nil=>exact hf
       | cons m ms=>exact ih _ _ _ _)
end
section
variable{P:Program}{tb:FuncId->pR}
theorem rM(f:FuncId)(E:VE)(p:List Dir)(ms:List Nat)(vs:List V)(S:Hp)(K:KV)(hm:E.most≠0):DC P tb f E p ms vs S K=Lr P tb f E p ms vs S K:=by
 obtain⟨m,hm⟩:=pV hm;unfold DC Lr;cases P.funcs[f]? with
 | none=>rfl
 | some fn=>
  simp only;cases fn.body with
  | none=>rfl
  | some c=>
   simp only
   rw [Oo P (tb f) none E E.most _ (λD c K=>match nQ (tb f) c with
    | some l=>fG S λS=>EE l vs fn.ntmps P.globals.size λA=>(lO P (tb f) none (EG P (tb f) none D) c).f E A S K
    | none=>False) (λD c K=>by
     cases nQ (tb f) c with
     | none=>rw [hm];rfl
     | some l=>rfl),hm]
   rfl
theorem aFB{E:VE}{l n:Nat}{ls:List Nat}{vs args:List V}{ps:List Tmp}{as bo:Code}{st:LoopState}{pe:Option Code}{S:Hp}{K:KV}(h:S l=some (.loop ls vs n ps as bo st pe))(e:ls=Qb tb n bo)(hr:Us P tb E n ps as bo l vs args S K):WB P tb E l args S K:=by
 unfold WB;simp only [h];exact⟨e,hr⟩
theorem aF{v:V}{S:Hp}{K:KV}(h:K v S):aQ v S K:=⟨S,λ_=>v,λ_ _ h=>h,λ_=> .one (.keep v),λ_=>h⟩
theorem aH{S:Hp}{k:Hp->Prop}(h:k S):fG S k:=⟨S,λ_ _ h=>h,h⟩
theorem RC{S:Hp}{k:Hp->Prop}(S':Hp)(l:cP S' S)(h:k S'):fG S k:=⟨S',l,h⟩
theorem VE.Qi{E:VE}{c:FuncId}{args:List V}{S:Hp}{K:KV}(h:E.C c args S K):E.call c args S K:=
 ⟨S,λ_=>args,λ_ _ h=>h,λ_=>⟨rfl,λj v u a b=>by rw [a]at b;injection b with b;subst b;exact .keep v⟩,λ_=>h⟩
theorem aFC{ov:Qj}{most n:Nat}{f:FuncId}(h:ov f=none)(args:List V)(S:Hp)(K:KV):(Ut P tb ov most (n+1)).C f args S K=nV P tb f (Ut P tb ov most n) args S K:=by
 show(match(generalizing:=false) ov f with | some g=>g args S K | none=>nV P tb f (Ut P tb ov most n) args S K)=_;rw [h]
theorem aKv{ov:Qj}{most n:Nat}{f:FuncId}{g:List V->Hp->KV->Prop}(h:ov f=some g)(args:List V)(S:Hp)(K:KV):(Ut P tb ov most (n+1)).C f args S K=g args S K:=by
 show(match(generalizing:=false) ov f with | some g=>g args S K | none=>nV P tb f (Ut P tb ov most n) args S K)=_;rw [h]
end
section
variable{P:Program}{S S' S0:Hp}{K:KV}
theorem cW{i:Nat}{a b:Ob}:aM (aM S i a) i b=aM S i b:=by
 funext j
 unfold aM;by_cases h:j=i
 ·rw [if_pos h,if_pos h]
 ·rw [if_neg h,if_neg h,if_neg h]
theorem aHY{i j:Nat}{a b:Ob}(h:i≠j):aM (aM S i a) j b=aM (aM S j b) i a:=by
 funext k
 unfold aM;by_cases h1:k=j
 ·subst h1;rw [if_pos rfl,if_neg (dB h),if_pos rfl]
 ·rw [if_neg h1]
  by_cases h2:k=i
  ·rw [if_pos h2,if_pos h2]
  ·rw [if_neg h2,if_neg h2,if_neg h1]
theorem cP.refl(S:Hp):cP S S:=λ_ _ h=>h
theorem cP.trans{a b c:Hp}(h:cP a b)(k:cP b c):cP a c:=λi o e=>k i o (h i o e)
theorem cP.aN{i:Nat}{a:Ob}(h:S i=none):cP S (aM S i a):=λj o e=>by
 unfold aM;by_cases h1:j=i
 ·subst h1;rw [h]at e;cases e
 ·rw [if_neg h1];exact e
theorem cP.aM{i:Nat}{a:Ob}(h:cP S S'):cP (aM S i a) (aM S' i a):=λj o e=>by
 unfold Am.aM at e ⊢;by_cases h1:j=i
 ·rw [if_pos h1]at e ⊢;exact e
 ·rw [if_neg h1]at e ⊢;exact h j o e
@[simp] theorem aZ {i o:Nat} {vs:List V} {t:TypeId} (h:S i=some (.row vs t)):bJ (.ptr i o) S K=ZH vs o λv=>K v S:=by
  show(match S i with | some (.row vs _)=>ZH vs o λv=>K v S | _=>False)=_;rw [h]
@[simp] theorem NB {n i o:Nat} {vs:List V} {t:TypeId} (h:S i=some (.row vs t)):cU n (.ptr i o) S K=QX vs o n λl=>K (.agg l) S:=by
  show(match S i with | some (.row vs _)=>QX vs o n λl=>K (.agg l) S | _=>False)=_;rw [h]
theorem OE{O:Tag}{cs:List Dt}{o:Nat}:bJ (.rK O cs o) S K=ZH cs o λd=>K (T (.sub O o) d) S:=rfl
theorem BZ{n:Nat}{O:Tag}{cs:List Dt}{o:Nat}:cU n (.rK O cs o) S K=QX cs o n λl=>K (.agg (Tl O o l)) S:=rfl
theorem gW{off i o:Nat}{k:V->Prop}:bF off (.ptr i o) k=k (.ptr i (o+off)):=rfl
theorem aV{i o:Nat}{k:V->Prop}:jI P (.ptr i o) k=k (.ptr i o):=rfl
theorem bG{b:Bool}{p q:Prop}:iQ (.bool b) p q=if b then p else q:=by cases b<;>rfl
theorem aX{c:Bool}{a b:V}{k:V->Prop}:QY (.bool c) a b k=k (if c then a else b):=by cases c<;>rfl
theorem aI{w:Bool}{op:KV->Prop}{k:KV}:eL w (.bool w) op S k=op k:=by cases w<;>rfl
theorem qC{op:KV->Prop}{k:KV}:eL true (.bool false) op S k=k MZ S:=rfl
theorem cZ{op:KV->Prop}{k:KV}:eL false (.bool true) op S k=k MZ S:=rfl
theorem dV{O:Tag}{cs:List Dt}{n:Nat}{k:V->Prop}:dC (.list O cs n) k=k (.int .i64 (.ofNat n)):=rfl
theorem nR{size n:Nat}{O:Tag}{cs:List Dt}{j:IntKind}{i:Nat}(h:i<n){k:V->Prop}:jM size (.list O cs n) (.int j (.ofNat i)) k=k (.rK O cs (i*size)):=by
 show(i<n/\_)=_;simp [h]
theorem kF{α:Type}{l:List α}{i:Nat}{a:α}(h:l[i]? =some a){k:α->Prop}:ZH l i k=k a:=by unfold ZH;rw [h]
theorem fH{α:Type}{l:List α}{o n:Nat}(h:o+n<=l.length){k:List α->Prop}:QX l o n k=k ((l.drop o).take n):=by unfold QX;simp [h]
structure Made(el:TypeId)(size:Nat)(S0:Hp)(t:V)(S:Hp)(vs:List V)(n:Nat):Prop where
 is:(n=0/\t= .nil/\S=S0)\/∃i,t= .acc i n/\S0 i=none/\S=aM S0 i (.iX vs el n)
 len:vs.length=n*size
theorem Made.nil{el:TypeId}{size:Nat}:Made el size S0 .nil S0 [] 0:=⟨.inl ⟨rfl,rfl,rfl⟩,by simp⟩
theorem Made.app{el:TypeId}{size bytes n m:Nat}{t x:V}{vs new:List V}(a:Made el size S0 t S vs n)(hs:cP S S')(hf:∀i,S' i=none->S0 i=none)(hx:∀k:Nat->List V->Prop,k m new->TF size x S' k)(hm:0<m)(hn:new.length=m*size)(ho:new.all pN=true)(hb:((n+m)*bytes<=140737488355328/\(n+m)<=140737488355328))
 (hk:∀t2 S2 S3,Made el size S0 t2 S3 (vs++new) (n+m)->cP S3 S2->K t2 S2):qG el size bytes t x S' K:=by
 obtain⟨p,rfl⟩:=pV (Nat.ne_of_gt hm);unfold qG;refine hx _ ?_;refine⟨ho,?_⟩;have hlen:(vs++new).length=(n+(p+1))*size:=by rw [bH,a.len,hn,mG]
 rcases a.is with ⟨rfl,rfl,rfl⟩ | ⟨i,rfl,h0,rfl⟩
 ·have GU:vs=[]:=mS (by simpa using a.len)
  subst GU;refine⟨by simpa using hb,λi hi=>?_⟩;have h:=hk (.acc i (0+(p+1))) (aM S' i (.iX new el (0+(p+1)))) (aM S i (.iX new el (0+(p+1)))) ⟨.inr ⟨i,rfl,hf i hi,rfl⟩,by simpa using hlen⟩ hs.aM;simpa using h
 ·have e:S' i=some (.iX vs el n):=hs i _ aB
  simp only [e];refine⟨trivial,trivial,a.len,hb,?_⟩;refine hk _ _ (aM S0 i (.iX (vs++new) el (n+(p+1)))) ⟨.inr ⟨i,rfl,h0,rfl⟩,hlen⟩ ?_;have:=hs.aM (i:=i) (a:= .iX (vs++new) el (n+(p+1)))
  rwa [cW]at this
theorem cP.none{a b:Hp}(h:cP a b){i:Nat}(e:b i=none):a i=none:=by
 cases q:a i with
 | none=>rfl
 | some o=>rw [h i o q]at e;cases e
theorem AF{i j:Nat}{a:Ob}(e:aM S i a j=none):j≠i/\S j=none:=by
 by_cases h:j=i
 ·subst h;rw [aB]at e;cases e
 ·rw [aC h]at e;exact⟨h,e⟩
theorem Made.le{el:TypeId}{size n:Nat}{t:V}{vs:List V}(a:Made el size S0 t S vs n):cP S0 S:=by
 rcases a.is with ⟨_,_,rfl⟩ | ⟨i,_,h0,rfl⟩
 ·exact .refl _
 ·exact .aN h0
theorem Au.T{O:Tag}{d:Dt}:Au S' S (T O d) d:=by
 cases d with
 | int=>exact .int
 | bool=>exact .bool
 | str=>exact .str
 | list=>exact .list
theorem sE{el:TypeId}{n:Nat}{zero:List Value}{z cs:List V}(hz:ED zero=some z)(Ph:z.length=n)(hc:cs.length=n)(ho:cs.all pN=true)(hk:∀j,S j=none->K (.own j 0 1 1) (aM S j (.row cs el))):dN el 1 zero [(0,n,.agg cs)] S K:=by
 unfold dN AD;rw [hz];show vD [(0,n,.agg cs)] (List.replicate 1 z).flatten _;unfold vD;refine⟨ho,hc,by simp [Ph],?_⟩;unfold vD;have:aE 0 cs (List.replicate 1 z).flatten=cs:=by simp [aE,hc,<-Ph]
 rw [this];exact hk
theorem LN{size i m c:Nat}{vs:List V}{t:TypeId}(h:S i=some (.row vs t))(hl:vs.length=m*size){k:Nat->List V->Prop}(hk:k m vs):TF size (.own i 0 m c) S k:=by
 unfold TF;simp only [h];rw [fH (by omega),DX,oS (by omega)];exact hk
theorem bO{t:TypeId}{k:IntKind}{x y:Int}{K:V->Prop}:aD P .lss t (.int k x) (.int k y) K=K (.bool (decide (x<y))):=by simp [aD,xL,QZ]
theorem yR{t:TypeId}{k:IntKind}{x y:Int}{K:V->Prop}:aD P .leq t (.int k x) (.int k y) K=K (.bool (decide (x<=y))):=by simp [aD,xL,QZ]
theorem jR{t:TypeId}{k:IntKind}{x y:Int}{K:V->Prop}:aD P .gtr t (.int k x) (.int k y) K=K (.bool (decide (y<x))):=by simp [aD,xL,QZ]
theorem kG{t:TypeId}{k:IntKind}{x y:Int}{K:V->Prop}:aD P .geq t (.int k x) (.int k y) K=K (.bool (decide (y<=x))):=by simp [aD,xL,QZ]
theorem cV{t:TypeId}{k:IntKind}{x y:Int}{K:V->Prop}:aD P .eql t (.int k x) (.int k y) K=K (.bool (decide (x=y))):=by simp [aD,xL,QZ]
theorem gD{t:TypeId}{k:IntKind}{x y:Int}{K:V->Prop}:aD P .neq t (.int k x) (.int k y) K=K (.bool (!decide (x=y))):=by simp [aD,xL,QZ]
theorem iM{t:TypeId}{k:IntKind}{x y:Int}{K:V->Prop}:aD P .add t (.int k x) (.int k y) K=K (.int k (lC k (x+y))):=by simp [aD,xL,QZ]
theorem tJ{t:TypeId}{k:IntKind}{x y:Int}{K:V->Prop}:aD P .sub t (.int k x) (.int k y) K=K (.int k (lC k (x-y))):=by simp [aD,xL,QZ]
theorem Qk{t:TypeId}{k:IntKind}{x y:Int}{K:V->Prop}:aD P .mul t (.int k x) (.int k y) K=K (.int k (lC k (x*y))):=by simp [aD,xL,QZ]
theorem Cz{t:TypeId}{k:IntKind}{x y:Int}(hy:y≠0){K:V->Prop}:aD P .rem t (.int k x) (.int k y) K=K (.int k (x.tmod y)):=by simp [aD,xL,QZ,hy]
theorem tK{t:TypeId}{x y:List UInt8}{K:V->Prop}:aD P .eql t (.str x) (.str y) K=K (.bool (decide (x=y))):=by simp [aD,aHV]
theorem LO{t:TypeId}{x y:List UInt8}{K:V->Prop}:aD P .neq t (.str x) (.str y) K=K (.bool (!decide (x=y))):=by simp [aD,aHV]
theorem wrap_small{n:Int}(h0: -9223372036854775808<=n)(h1:n<=9223372036854775807):lC .i64 n=n:=by
 rw [PL,YE _ _ (by simpa [IntKind.min,IntKind.bits,IntKind.signed]using h0) (by simpa [IntKind.max,IntKind.bits,IntKind.signed]using h1)]
theorem KG{i:Nat}(h:i<4611686018427387904):lC .i64 (Int.ofNat i+Int.ofNat 1)=Int.ofNat (i+1):=by
 rw [wrap_small]<;>simp<;>omega
end
def Deep(P:Program)(tb:FuncId->pR)(ov:Qj)(M:Nat):Nat->VE->Prop
 | 0,x=>x.most=M
 | n+1,x=>x.most=M/\(∀f g,ov f=some g->x.C f=g)/\∃y,Deep P tb ov M n y/\(∀f,ov f=none->∀args S K,x.C f args S K=nV P tb f y args S K)/\∀l args S K,x.R l args S K=WB P tb y l args S K
section
variable{P:Program}{tb:FuncId->pR}{ov:Qj}{M:Nat}{x:VE}{S:Hp}{K:KV}
theorem Deep.most{n:Nat}(h:Deep P tb ov M n x):x.most=M:=by cases n with | zero=>exact h | succ n=>exact h.1
theorem Deep.less{n:Nat}(h:Deep P tb ov M (n+1) x):Deep P tb ov M n x:=by
 induction n generalizing x with
 | zero=>exact h.1
 | succ n ih=>
  obtain⟨h1,h2,y,h3,h4⟩:=h;exact⟨h1,h2,y,ih h3,h4⟩
theorem Deep.call{n:Nat}(hx:Deep P tb ov M (n+1) x){f:FuncId}(hf:ov f=none){args:List V}(h:∀y,Deep P tb ov M n y->nV P tb f y args S K):x.call f args S K:=by
 obtain⟨h1,h2,y,h3,h4,_⟩:=hx;exact VE.Qi (by rw [h4 f hf];exact h y h3)
theorem Deep.round{n:Nat}(hx:Deep P tb ov M (n+1) x){l:Nat}{args:List V}(h:∀y,Deep P tb ov M n y->WB P tb y l args S K):x.R l args S K:=by
 obtain⟨h1,h2,y,h3,h4,h5⟩:=hx;rw [h5];exact h y h3
theorem Deep.yE{n:Nat}(hx:Deep P tb ov M (n+1) x){f:FuncId}{g:List V->Hp->KV->Prop}(hf:ov f=some g){args:List V}(h:g args S K):x.call f args S K:=by
 obtain⟨h1,h2,_⟩:=hx;exact VE.Qi (by rw [h2 f g hf];exact h)
theorem aFD(n:Nat):Deep P tb ov M n (Ut P tb ov M n):=by
 induction n with
 | zero=>rfl
 | succ n ih=>exact⟨rfl,λf g h=>by funext args S K;exact aKv h args S K,_,ih,λf h args S K=>aFC h args S K,λl args S K=>rfl⟩
theorem nJ{i o:Nat}{vs:List V}{t:TypeId}{v:V}(h:S i=some (.row vs t))(ho:pN v=true)(hl:o<vs.length){k:Hp->Prop}(hk:k (aM S i (.row (aE o [v] vs) t))):mE 1 (.ptr i o) v S k:=by
 unfold mE;simp only [h];unfold yD;cases v<;>first | (cases ho;done) | exact⟨rfl,by omega,hk⟩
theorem kN{i o:Nat}{vs:List V}{t:TypeId}{v:V}(h:S i=some (.row vs t))(hv:vs[o]? =some v)(hk:K v S):bJ (.ptr i o) S K:=by
 rw [aZ h,kF hv];exact hk
theorem cL{v:V}{S':Hp}(l:cP S' S)(h:K v S'):aQ v S K:=⟨S',λ_=>v,l,λ_=> .one (.keep v),λ_=>h⟩
theorem fR{t:TypeId}{cs:List V}(ho:cs.all pN=true)(hk:∀i,S i=none->K (.ptr i 0) (aM S i (.row cs t))):pO t (.agg cs) S K:=⟨ho,hk⟩
theorem CQ{l:List UInt8}{k:V->Prop}:JA (.str l) k=k (.int .i64 (.ofNat l.length)):=rfl
theorem dQ{z:List Value}{l:List V}{t:TypeId}(hz:ED z=some l)(hk:∀i,S i=none->K (.ptr i 0) (aM S i (.row l t))):eI z t S K:=by
 unfold eI AD;rw [hz];exact hk
theorem JD{t:TypeId}{i o:Nat}(h:RA P t=some .ptr){k:V->Prop}(hk:k (.bool false)):aD P .eql t (.ptr i o) .lU k:=⟨rfl,h,.inr rfl,(λe=>by cases e),hk⟩
theorem aAv{sh:KSh}{z a:V}{ok:Bool}{m:Nat}{es:List (V×V)}(hm:S m=some (.map es))(ha:WA sh a)(ho:∀e∈es,WA sh e.1)(h1:∀v,Gy es a=some v->K (Up ok v true) S)(h2:Gy es a=none->K (Up ok z false) S):ZJ sh z ok (.sP m) a S K:=by
 unfold ZJ;simp only [hm];exact⟨ha,ho,h1,h2⟩
theorem gJ{n i:Nat}{vs cs:List V}{t:TypeId}(h:S i=some (.row vs t))(ho:cs.all pN=true)(hc:cs.length=n)(hl:vs.length=n){k:Hp->Prop}(hk:k (aM S i (.row cs t))):mE n (.ptr i 0) (.agg cs) S k:=by
 unfold mE;simp only [h];refine⟨ho,hc,by omega,?_⟩;have:aE 0 cs vs=cs:=by simp [aE,hc,<-hl]
 rw [this];exact hk
theorem eX{n i:Nat}{vs:List V}{t:TypeId}(h:S i=some (.row vs t))(hl:vs.length=n)(hk:K (.agg vs) S):cU n (.ptr i 0) S K:=by
 rw [NB h,fH (by omega),DX,oS (by omega)];exact hk
theorem AG{v:V}{k:Prop}(h:VY v=true)(hk:k):aT v v k:=⟨rfl,h,hk⟩
theorem xM{i:Nat}{vs:List V}{v:V}{k:V->Prop}(h:vs[i]? =some v)(hk:k v):nF i (.tuple vs) k:=by
 show ZH vs i k;rw [kF h];exact hk
theorem oZ{w:Bool}{op:KV->Prop}{k:KV}:eL w MZ op S k=k MZ S:=by cases w<;>rfl
theorem tL{w:Bool}{u:V}{op:Prop->Prop}{k:Prop}:AE w (.bool w) u op k=op k:=by cases w<;>rfl
theorem yF{op:Prop->Prop}{k:Prop}:AE true (.bool false) MZ op k=k:=rfl
theorem CA{op:Prop->Prop}{k:Prop}:AE false (.bool true) MZ op k=k:=rfl
theorem Da{w:Bool}{op:Prop->Prop}{k:Prop}:AE w MZ MZ op k=k:=by cases w<;>rfl
end
section
variable{P:Program}{S S' S0:Hp}{K:KV}{x:VE}
theorem wZ{size n b:Nat}{j:IntKind}{i:Nat}(h:i<n){k:V->Prop}:jM size (.acc b n) (.int j (.ofNat i)) k=k (.qX b n (i*size)):=by
 show(i<n/\_)=_;simp [h]
theorem Ls{size n b o q c:Nat}{j:IntKind}{i:Nat}(h:i<q){k:V->Prop}:jM size (.oR b n o q c) (.int j (.ofNat i)) k=k (.qX b n (o+i*size)):=by
 show(i<q/\_)=_;simp [h]
theorem CB{b n:Nat}{k:V->Prop}:dC (.acc b n) k=k (.int .i64 (.ofNat n)):=rfl
theorem Ql{b n o q c:Nat}{k:V->Prop}:dC (.oR b n o q c) k=k (.int .i64 (.ofNat q)):=rfl
theorem Qm{k:V->Prop}:dC .nil k=k (.int .i64 (.ofNat 0)):=rfl
theorem Lt{i n o:Nat}{vs:List V}{t:TypeId}{v:V}(h:S i=some (.iX vs t n))(hv:vs[o]? =some v)(hk:K v S):bJ (.qX i n o) S K:=by
 unfold bJ;simp only [h];exact⟨trivial,by rw [kF hv];exact hk⟩
theorem aO0{i n o:Nat}{vs:List V}{t:TypeId}{v:V}(h:S i=some (.iX vs t n))(ho:pN v=true)(hl:o<vs.length){k:Hp->Prop}(hk:k (aM S i (.iX (aE o [v] vs) t n))):mE 1 (.qX i n o) v S k:=by
 unfold mE;simp only [h];unfold yD;cases v<;>first | (cases ho;done) | exact⟨trivial,rfl,by omega,hk⟩
theorem Ie{el size i n a:Nat}{vs:List V}{j:IntKind}(h:S i=some (.iX vs el n))(hl:a<n){k:V->Prop}(hk:k (.oR i n (a*size) (n-a) (n-a))):Cy el size (.acc i n) (some (.int j (.ofNat a))) none none S k:=by
 unfold Cy;simp only [h];refine⟨trivial,trivial,?_⟩;show a<=n/\n<=n/\n<=n/\(a<n->k _)/\_;refine⟨by omega,by omega,by omega,λ_=>?_,λe=>absurd e (by omega)⟩;rw [gB];exact hk
theorem aEe{el size i n a:Nat}{vs:List V}{j:IntKind}(h:S i=some (.iX vs el n))(h0:0<n)(hl:a<=n){k:V->Prop}(hk:k (.oR i n 0 a n)):Cy el size (.acc i n) none (some (.int j (.ofNat a))) none S k:=by
 unfold Cy;simp only [h];refine⟨trivial,trivial,?_⟩;show 0<=a/\a<=n/\n<=n/\(0<n->k _)/\_;refine⟨by omega,by omega,by omega,λ_=>?_,λe=>absurd e (by omega)⟩;simpa using hk
theorem Lu{zero:List Value}{z vs:List V}{i n o q c:Nat}{t:TypeId}(h:S i=some (.iX vs t n))(hz:ED zero=some z)(hq:0<q)(hl:o+(List.replicate q z).flatten.length<=vs.length){k:Hp->Prop}(hk:k (aM S i (.iX (aE o (List.replicate q z).flatten vs) t n))):RB zero (.oR i n o q c) S k:=by
 obtain⟨p,rfl⟩:=pV (Nat.ne_of_gt hq);unfold RB AD;simp only [hz,h];exact⟨trivial,hl,hk⟩
def del(S:Hp)(i:Nat):Hp:=λj=>if j=i then none else S j
theorem aCK{i:Nat}:cP (del S i) S:=λj o e=>by
 unfold del at e;by_cases h:j=i
 ·rw [if_pos h]at e;cases e
 ·rw [if_neg h]at e;exact e
theorem Lv{i:Nat}:del S i i=none:=if_pos rfl
theorem aHZ{l n:Nat}{ls:List Nat}{vs:List V}{ps:List Tmp}{as bo:Code}{pe:Option Code}(h:S l=some (.loop ls vs n ps as bo .ready pe)){k:Hp->Prop}(hk:k (aM S l (.loop ls vs n ps as bo .busy pe))):Qh l S k:=by
 unfold Qh;simp only [h];exact hk
theorem aAw{l n:Nat}{ls:List Nat}{vs:List V}{ps:List Tmp}{as bo:Code}{st Hj:LoopState}{pe pe':Option Code}{b:Bool}(h:S l=some (.loop ls vs n ps as bo st pe))(hk:K (.bool b) (aM S l (.loop ls vs n ps as bo Hj pe'))):UD l Hj pe' b S K:=by
 unfold UD;simp only [h];exact hk
theorem aAx{l n:Nat}{ls:List Nat}{vs:List V}{ps:List Tmp}{as bo:Code}{st:LoopState}{pe:Option Code}(h:S l=some (.loop ls vs n ps as bo st pe))(hs:st≠ .busy){k:Option Code->Hp->Prop}(hk:k pe (aM S l (.loop ls vs n ps as bo .exhausted pe))):aAu l S k:=by
 unfold aAu;simp only [h];cases st<;>first | exact absurd rfl hs | exact hk
theorem aFE{g n:Nat}{a c:List V}{ls:List Nat}{vs:List V}{ps:List Tmp}{as bo:Code}{k:Option Code->Hp->Prop}(hk:∀l,S l=none->x.call g (a++[.yield l]++c) (aM S l (.loop ls vs n ps as bo .ready none)) λ_ S=>aAu l S k):Db x (.func g a c) ls vs n ps as bo S k:=hk
theorem aKw{kn kr:Prop}{ke:Nat->Prop}:Fh none kn kr ke=kn:=rfl
theorem aKx{kn kr:Prop}{ke:Nat->Prop}:Fh (some .ret) kn kr ke=kr:=rfl
theorem aH0{l:Nat}{args:List V}:fK x (.yield l) args S K=x.R l args S K:=rfl
theorem WC{vs:List V}{o:Nat}{v:V}(h:o<vs.length):aE o [v] vs=vs.set o v:=by
 unfold aE;apply uO;intro j;rw [Iv];by_cases h1:j<o
 ·rw [if_neg (by omega),DW,fB (by rw [jL];omega),kR,if_pos h1]
 ·by_cases h2:j=o
  ·subst h2
   rw [if_pos rfl,if_pos h,fB (by simp;omega),iG (by rw [jL];omega),jL];rw [show j-min j vs.length=0 by omega];rfl
  ·rw [if_neg (by omega),iG (by simp;omega),kS]
   simp only [bH,jL,qS,Rv];rw [show o+(0+1)+(j-(min o vs.length+(0+1)))=j by omega]
end
section
variable{P:Program}{S S':Hp}{K:KV}{x:VE}
theorem aG{off i:Nat}{k:V->Prop}:bF off (.ptr i 0) k=k (.ptr i off):=by show k (.ptr i (0+off))=_;rw [gB]
theorem vE{a:V}{l:List V}{k:V->Prop}:nF 0 (.tuple (a::l)) k=k a:=rfl
theorem vF{a b:V}{l:List V}{k:V->Prop}:nF 1 (.tuple (a::b::l)) k=k b:=rfl
theorem dX{v:V}{p:Prop}(h:VY v=true):aT v v p=p:=propext ⟨λq=>q.2.2,λq=>⟨rfl,h,q⟩⟩
theorem xN{k:IntKind}{z:Int}{p:Prop}:aT (.int k z) (.int k z) p=p:=dX rfl
theorem aEf{l:List UInt8}{p:Prop}:aT (.str l) (.str l) p=p:=dX rfl
theorem SK{b:Bool}{p:Prop}:aT (.bool b) (.bool b) p=p:=dX rfl
theorem Uu{i o:Nat}{p:Prop}:aT (.ptr i o) (.ptr i o) p=p:=dX rfl
theorem gX{b:Bool}{k:V->Prop}:JC .not (.bool b) k=k (.bool (!b)):=rfl
theorem GE{v:V}{b:Bool}{cs:List Dt}{n:Nat}(l:cP S' S)(h:Au S' S v (.list cs n))(hk:∀O,K (.tuple [.list O cs n,.bool b]) S'):aQ (.tuple [v,.bool b]) S K:=by
 refine⟨S',λO=> .tuple [.list (O 0) cs n,.bool b],l,λO=> .tup ⟨rfl,λj v u e1 e2=>?_⟩,λO=>hk _⟩
 match j with
 | 0=>simp at e1 e2;subst e1 e2;exact .dat h
 | 1=>simp at e1 e2;subst e1 e2;exact .keep _
 | j+2=>simp at e1
theorem DD{v:V}{cs:List Dt}{n:Nat}(l:cP S' S)(h:Au S' S v (.list cs n))(hk:∀O,K (.list O cs n) S'):aQ v S K:=
 ⟨S',λO=> .list (O 0) cs n,l,λ_=> .one (.dat h),λ_=>hk _⟩
end
end Go.Am
namespace Go.Rm
open Go.ChangeMaps (setBlock)
open Go Go.ChangeMaps Go.MapKept
structure HG(es:Array MapEntry)(clock:Nat):Prop where
 old:∀x∈es.toList,x.born<clock
 nodup:(es.toList.map (·.born)).Nodup
def QT(w:World)(b r:Nat)(es:Array MapEntry)(clock:Nat)(done todo:List MapEntry):Prop:=
 w.heap[b]? =some (.map es clock)/\HG es clock/\
 (∃seen c0,w.heap[r]? =some (.mapIter (some b) clock seen c0)/\clock<=c0/\todo=(leftOf es seen).toList)/\(done++todo).Perm es.toList
variable{P:Program}{w:World}{b r:Nat}{es:Array MapEntry}{clock:Nat}{done todo:List MapEntry}
theorem QT.ne(h:QT w b r es clock done todo):r≠b:=by
 obtain⟨hb,_,⟨seen,c0,hr,_⟩,_⟩:=h;intro e;rw [e,hb]at hr;cases hr
theorem QT.lt(h:QT w b r es clock done todo):r<w.heap.size:=by
 obtain⟨hb,_,⟨seen,c0,hr,_⟩,_⟩:=h;exact(Array.getElem?_eq_some_iff.1 hr).1
theorem QT.aMP(h:QT w b r es clock done todo):b<w.heap.size:=(Array.getElem?_eq_some_iff.1 h.1).1
theorem QT.left_eq(h:QT w b r es clock done todo):w.rangeLeft b r=todo.length:=by
 obtain⟨hb,_,⟨seen,c0,hr,_,ht⟩,_⟩:=h;simp only [World.rangeLeft,hb,hr,ht];simp
theorem QT.Cq{w':World}(h:QT w b r es clock done todo)(TU:w'.heap[b]? =w.heap[b]?)(hr':w'.heap[r]? =w.heap[r]?):QT w' b r es clock done todo:=by
 obtain⟨hb,hs,⟨seen,c0,hr,hc,ht⟩,hp⟩:=h;exact⟨TU.trans hb,hs,⟨seen,c0,hr'.trans hr,hc,ht⟩,hp⟩
theorem QT.kept{w':World}{row:Option Nat}(h:QT w b r es clock done todo)(hg:w.grownBy w' row)(TU:some b≠row)(hr':some r≠row):QT w' b r es clock done todo:=
 h.Cq (hg.block b h.aMP TU) (hg.block r h.lt hr')
theorem QT.start(hb:w.heap[b]? =some (.map es clock))(hs:HG es clock):QT (w.alloc (.mapIter (some b) clock #[] clock)) b w.heap.size es clock [] es.toList:=by
 have hlt:=(Array.getElem?_eq_some_iff.1 hb).1;refine⟨((MapKept.heap_alloc w _).2 b hlt).trans hb,hs,⟨#[],clock,(MapKept.heap_alloc w _).1,Nat.le_refl _,?_⟩,by simp⟩;unfold leftOf;rw [Array.toList_filter,List.filter_eq_self.2];intro x _;simp
theorem Cr{l:List MapEntry}(hn:(l.map (·.born)).Nodup){e:MapEntry}(he:e∈l):l.Perm (e::l.filter (λx=> !(x.born==e.born))):=by
 induction l with
 | nil=>cases he
 | cons a l ih=>
  simp only [List.map_cons,List.nodup_cons]at hn;by_cases hae:a=e
  ·subst hae
   simp only [List.filter_cons,beq_self_eq_true,Bool.not_true,Bool.false_eq_true,if_false];rw [List.filter_eq_self.2];intro x hx;have:x.born≠a.born:=λh=>hn.1 (h▸List.mem_map.2 ⟨x,hx,rfl⟩);simp [this]
  ·have he':e∈l:=by
    rcases List.mem_cons.1 he with h | h
    ·exact absurd h.symm hae
    ·exact h
   have hb:a.born≠e.born:=λh=>hn.1 (h▸List.mem_map.2 ⟨e,he',rfl⟩)
   have:(a::l).filter (λx=> !(x.born==e.born))=a::l.filter (λx=> !(x.born==e.born)):=by
    simp [hb]
   rw [this];exact((ih hn.2 he').cons a).trans (List.Perm.swap e a _)
theorem QT.next(h:QT w b r es clock done todo)(ty:TypeId):
 (todo=[]/\(Instr.next (.pointer (some ⟨r,0,none⟩)) false ty).run P w= .ok (.tuple #[.bool false]) w)\/
 ∃e wY w',todo.Perm (e::wY)/\(Instr.next (.pointer (some ⟨r,0,none⟩)) false ty).run P w= .ok (.tuple #[.bool true,e.key,e.val]) w'/\
  QT w' b r es clock (done++[e]) wY/\w.grownBy w' (some r)/\w'.heap.size=w.heap.size/\(Instr.entry (.pointer (some ⟨r,0,none⟩))).run P w'= .ok (.tuple #[e.key,e.val]) w':=by
 have wC:=h.ne;obtain⟨hb,hs,⟨seen,c0,hr,hc,ht⟩,hp⟩:=h;rcases run_next_at (P:=P) w ty r b clock c0 seen es clock hr hb hs.old hc with ⟨h0,dF⟩ | ⟨e,he,w1,hal,dF⟩
 ·left
  refine⟨?_,dF⟩;rw [ht];exact List.eq_nil_of_length_eq_zero (by simpa using h0)
 ·right
  have hem:e∈es.toList:=by
   have:=(mem_left he).1;exact this
  have Xd:w1.heap[r]? =some (.mapIter (some b) clock seen c0):=by rcases hal with rfl | rfl<;>exact hr
  have Kc:w1.heap[b]? =some (.map es clock):=by rcases hal with rfl | rfl<;>exact hb
  have BS:=heap_set (o':= .mapIter (some b) clock (seen.push e.born) clock) Xd;have TU:(setBlock w1 r (.mapIter (some b) clock (seen.push e.born) clock)).heap[b]? =some (.map es clock):=(BS.2 b (λe1=>wC e1.symm)).trans Kc
  have MB:((leftOf es seen).toList.map (·.born)).Nodup:=by
   refine hs.nodup.sublist ?_;refine List.Sublist.map _ ?_;unfold leftOf;rw [Array.toList_filter];exact List.filter_sublist
  have hpe:=Cr MB he
  have aDC:(leftOf es (seen.push e.born)).toList=(leftOf es seen).toList.filter (λx=> !(x.born==e.born)):=by
   unfold leftOf;rw [Array.toList_filter,Array.toList_filter,List.filter_filter]
   congr 1
   funext x
   rw [contains_push];cases seen.contains x.born<;>cases(x.born==e.born)<;>rfl
  refine⟨e,(leftOf es (seen.push e.born)).toList,_,by rw [ht,aDC];exact hpe,dF,⟨TU,hs,⟨_,clock,BS.1,Nat.le_refl _,rfl⟩,?_⟩,?_,?_,run_entry_at _ r b clock seen es clock e BS.1 TU hem hs.nodup⟩
  ·rw [aDC,List.append_assoc]
   exact((hpe.symm).append_left done).trans (ht▸hp)
  ·rcases hal with rfl | rfl<;>exact⟨rfl,rfl,rfl,by simp [setBlock],λi _ hi=>BS.2 i (λe1=>hi (by rw [e1]))⟩
  ·rcases hal with rfl | rfl<;>simp [setBlock]
section
variable{ops:Array Oper}{rest:List Oper}{o:Oper}{a:Act}{Q:Exit->Act->World->Prop}
theorem Cs(hg:o.guard=none)(m:Operand)(t:TypeId)(OP:o.op=Op.range t m)(k e:TypeId)(ht:P.underlying t=some (.map k e))
 (hm:a.eval m= .map (some b)) (hb:w.heap[b]? =some (.map es clock)) (hs:HG es clock)
 (hK:∀w',w'=w.alloc (.mapIter (some b) clock #[] clock)->QT w' b w.heap.size es clock [] es.toList->wpList P ops Q rest (a.put o.dst (.pointer (some ⟨w.heap.size,0,none⟩))) w'):
 wpList P ops Q (o::rest) a w:=by
 refine wpList_plain hg λK' hK'=>?_;unfold Oper.wp;simp [execOp,OP,hm,run_range_map w t k e b es clock ht hb,Result.andThen];exact hK' _ _ (hK _ rfl (QT.start hb hs))
theorem Gw(hg:o.guard=none)(it:Operand)(OP:o.op=Op.next it false)(hit:a.eval it= .pointer (some ⟨r,0,none⟩))(h:QT w b r es clock done todo)
 (aHL:todo=[]->wpList P ops Q rest (a.put o.dst (.tuple #[.bool false])) w)
 (aHM:∀(e:MapEntry) (wY:List MapEntry) (w':World),todo.Perm (e::wY)->QT w' b r es clock (done++[e]) wY->w.grownBy w' (some r)->w'.heap.size=w.heap.size->
  (Instr.entry (.pointer (some ⟨r,0,none⟩))).run P w'= .ok (.tuple #[e.key,e.val]) w'->wpList P ops Q rest (a.put o.dst (.tuple #[.bool true,e.key,e.val])) w'):
 wpList P ops Q (o::rest) a w:=by
 refine wpList_plain hg λK' hK'=>?_;unfold Oper.wp;rcases h.next (P:=P) o.type with ⟨h0,dF⟩ | ⟨e,wY,w',hp,dF,Xh,hgr,hsz,hen⟩
 ·simp [execOp,OP,hit,dF,Result.andThen]
  exact hK' _ _ (aHL h0)
 ·simp [execOp,OP,hit,dF,Result.andThen]
  exact hK' _ _ (aHM e wY w' hp Xh hgr hsz hen)
variable{F:Fence}{n:Nat}
theorem VV(hg:o.guard=none)(m:Operand)(t:TypeId)(OP:o.op=Op.range t m)(k e:TypeId)(ht:P.underlying t=some (.map k e))
 (hm:a.eval m= .map (some b)) (hb:w.heap[b]? =some (.map es clock)) (hs:HG es clock)
 (hK:∀w',w'=w.alloc (.mapIter (some b) clock #[] clock)->QT w' b w.heap.size es clock [] es.toList->wpListIn F n P ops Q rest (a.put o.dst (.pointer (some ⟨w.heap.size,0,none⟩))) w'):
 wpListIn F n P ops Q (o::rest) a w:=by
 refine wpListIn_plain hg λK' hK'=>?_;unfold Oper.wpIn;refine⟨by simp [Oper.about,OP],?_⟩;rw [Oper.semAt_plain F _ _ (by rw [OP];intro c hc';cases hc')];simp [execOp,OP,hm,run_range_map w t k e b es clock ht hb,Result.andThen];exact hK' _ _ (hK _ rfl (QT.start hb hs))
theorem ZB(hg:o.guard=none)(it:Operand)(OP:o.op=Op.next it false)(hit:a.eval it= .pointer (some ⟨r,0,none⟩))(h:QT w b r es clock done todo)
 (aHL:todo=[]->wpListIn F n P ops Q rest (a.put o.dst (.tuple #[.bool false])) w)
 (aHM:∀(e:MapEntry) (wY:List MapEntry) (w':World),todo.Perm (e::wY)->QT w' b r es clock (done++[e]) wY->w.grownBy w' (some r)->w'.heap.size=w.heap.size->
  (Instr.entry (.pointer (some ⟨r,0,none⟩))).run P w'= .ok (.tuple #[e.key,e.val]) w'->wpListIn F n P ops Q rest (a.put o.dst (.tuple #[.bool true,e.key,e.val])) w'):
 wpListIn F n P ops Q (o::rest) a w:=by
 refine wpListIn_plain hg λK' hK'=>?_;unfold Oper.wpIn;refine⟨by simp [Oper.about,OP],?_⟩;rw [Oper.semAt_plain F _ _ (by rw [OP];intro c hc';cases hc')];rcases h.next (P:=P) o.type with ⟨h0,dF⟩ | ⟨e,wY,w',hp,dF,Xh,hgr,hsz,hen⟩
 ·simp [execOp,OP,hit,dF,Result.andThen]
  exact hK' _ _ (aHL h0)
 ·simp [execOp,OP,hit,dF,Result.andThen]
  exact hK' _ _ (aHM e wY w' hp Xh hgr hsz hen)
end
end Go.Rm
namespace Go.Am
open Go.RowKit Go.MapKept
theorem mapM_some{α β:Type}{f:α->Option β}:∀{l:List α} {xs:List β},l.mapM f=some xs->xs.length=l.length/\∀(i:Nat) (a:α),l[i]? =some a->∃x,xs[i]? =some x/\f a=some x:=by
 intro l;induction l with
 | nil=>intro xs h;simp at h;subst h;exact⟨rfl,λi a h=>by simp at h⟩
 | cons b l ih=>
  intro xs h;rw [Bi]at h;cases hb:f b with
  | none=>rw [hb]at h;cases h
  | some y=>
   rw [hb]at h;cases hl:l.mapM f with
   | none=>rw [hl]at h;cases h
   | some ys=>
    rw [hl]at h;have h:some (y::ys)=some xs:=h;injection h with h;subst h;obtain⟨i1,i2⟩:=ih hl;refine⟨by simp [i1],λi a ha=>?_⟩;cases i with
    | zero=>simp at ha;subst ha;exact⟨y,rfl,hb⟩
    | succ i=>simpa using i2 i a (by simpa using ha)
def aB6(P:Program)(g:TypeId->Option (List It)):List Field->Nat->Option (List It)
 | [],_=>some []
 | fd::fs,off=>if fd.offset=off then match g fd.type,bP P fd.type with
  | some its,some m=>if m=its.length then(aB6 P g fs (off+m)).map (its++ ·)else none
  | _,_=>none else none
def aB7(P:Program):Nat->TypeId->Option (List It)
 | 0,_=>none
 | f+1,t=>match P.underlying t with
  | some .bool=>some [.is]
  | some (.int .u64)=>some [.num]
  | some (.int .u8)=>some [.kind]
  | some (.int .i64)=>some [.int]
  | some .string=>some [.text]
  | some (.slice e)=>match aB7 P f e,bP P e,P.bytesOf e with
   | some (i::its),some m,by0+1=>if m=its.length+1/\aB8 (i::its)<=by0+1 then(match i,its with | .num,[]=>some [.nums] | i,its=>some [.list (i::its)])else none
   | _,_,_=>none
  | some (.struct fs)=>match aB6 P (aB7 P f) fs.toList 0,bP P t with
   | some its,some m=>if m=its.length then some its else none
   | _,_=>none
  | _=>none
def Lay(P:Program)(w:World)(U:Rn)(S:St):Prop:=Rel P w U S w/\∀i o,S.obj i=some o->o.reads=true
section
variable{P:Program}{w:World}
theorem Lay.add{U:Rn}{S:St}(h:Lay P w U S)(vs:List Value)(e:TypeId)(L:Loc){cs:Array Value}{t:TypeId}{fz:Nat×Nat}(hb:w.heap[L.b]? =some (.cells cs t fz))
 (hc:∀(j:Nat) (v:Value),vs[j]? =some v->∃v',cs[L.s+j]? =some v'/\VR U v v') (hm:bP P e=some L.m) (hz:∀j,j<vs.length->¬(fz.1<=L.s+j/\L.s+j<fz.2)):
 Lay P w (U.put S.n L) (S.new (.cells vs e .rs))/\Ext U (U.put S.n L):=by
 obtain⟨h,hr⟩:=h;have IS:=h.Xc S.n (bI _);have he:Ext U (U.put S.n L):=Rn.IT IS
 have pX:∀j M,U.put S.n L j=some M->(j=S.n/\M=L)\/(j≠S.n/\U j=some M):=λj M hj=>by
  unfold Rn.put at hj;by_cases e:j=S.n
  ·rw [if_pos e]at hj;injection hj with hj;exact .inl ⟨e,hj.symm⟩
  ·rw [if_neg e]at hj;exact .inr ⟨e,hj⟩
 have pM:∀j x,(S.new (.cells vs e .rs)).obj j=some x->(j=S.n/\x= .cells vs e .rs)\/(j≠S.n/\S.obj j=some x):=λj x hx=>by
  rw [MQ]at hx;by_cases e:j=S.n
  ·rw [if_pos e]at hx;injection hx with hx;exact .inl ⟨e,hx.symm⟩
  ·rw [if_neg e]at hx;exact .inr ⟨e,hx⟩
 have QK:∀j x,(S.new (.cells vs e .rs)).obj j=some x->x.reads=true:=λj x hx=>by
  rcases pM j x hx with ⟨_,rfl⟩ | ⟨_,hx⟩
  ·rfl
  ·exact hr j x hx
 have hlt:L.b<w.heap.size:=(nN.1 hb).1;refine⟨⟨⟨λg hg=>let⟨M,h1,h2⟩:=h.Gl g hg;⟨M,he _ _ h1,h2⟩,λj x hx=>?_,λj hj=>?_,λj x hx=>?_,λj M hj=>?_,λi j a b M N XS ha TU _ _ _ _ _=> .inl ⟨QK i a ha,QK j b TU⟩,λj us e' olds hj i hi=>?_,h.base⟩,QK⟩,he⟩
 ·rcases pM j x hx with ⟨rfl,rfl⟩ | ⟨_,hx⟩
  ·exact⟨L,cs,t,fz,Rn.kD _ _ _,hb,λj v hv=>let⟨v',a,b⟩:=hc j v hv;⟨v',a,b.mono he⟩,hm,hz⟩
  ·exact(h.GO j x hx).frame he λ_ _=>rfl
 ·have Ny:S.n+1<=j:=hj
  unfold Rn.put;rw [if_neg (by omega)];exact h.Xc j (by omega)
 ·rcases pM j x hx with ⟨rfl,_⟩ | ⟨_,hx⟩
  ·exact xS _
  ·exact oT (h.lt j x hx)
 ·rcases pX j M hj with ⟨_,rfl⟩ | ⟨_,hM⟩
  ·exact hlt
  ·exact h.loc j M hM
 ·have:=QK j _ hj
  simp [iP.reads]at this
def sN(P:Program)(w:World)(cs:List Value)(its:List It):Prop:=
 ∀(U:Rn) (S:St),Lay P w U S->∃U' S' vs ds,Ext U U'/\Lay P w U' S'/\MX S S'/\lD U' vs cs/\RdA S' (λ_=>False) its vs ds
theorem MX.none{S S':St}(h:MX S S'):AZ (λ_=>False) S S' (λ_=>False):=h.fr _
theorem sN.plain{v:Value}{it:It}{d:D}(hf:bE v=true)(hr:∀S,Rd S (λ_=>False) it v d):sN P w [v] [it]:=λU S h=>
 ⟨U,S,[v],[d],.refl U,h,.refl S,.cons (.flat hf) (.nil U),rfl,rfl,λj it' v' d' a b c=>by
  cases j with
  | zero=>simp at a b c;subst a b c;exact hr S
  | succ j=>simp at a⟩
theorem sN.append{a b:List Value}{x y:List It}(h:sN P w a x)(k:sN P w b y):sN P w (a++b) (x++y):=λU S hl=>by
 obtain⟨U1,S1,v1,d1,e1,l1,x1,r1,s1⟩:=h U S hl;obtain⟨U2,S2,v2,d2,e2,l2,x2,r2,s2⟩:=k U1 S1 l1;refine⟨U2,S2,v1++v2,d1++d2,e1.trans e2,l2,x1.trans x2,(r1.mono e2).append r2,by simp [s1.len,s2.len],by simp [s1.Tp,s2.Tp],λj it v d p q r=>?_⟩;have s1':=s1.fr x2.none;by_cases hj:j<x.length
 ·rw [fB hj]at p
  rw [fB (by rw [s1.len];exact hj)]at q;rw [fB (by rw [s1.Tp];exact hj)]at r;exact s1'.rd j it v d p q r
 ·rw [iG (by omega)]at p
  rw [iG (by rw [s1.len];omega),s1.len]at q;rw [iG (by rw [s1.Tp];omega),s1.Tp]at r;exact s2.rd _ it v d p q r
theorem aJ2{its:List It}:∀{css:List (List Value)},(∀cs∈css,sN P w cs its)->∀(U:Rn) (S:St),Lay P w U S->∃(U':Rn) (S':St) (vss:List (List Value)) (dss:List (List D)),Ext U U'/\Lay P w U' S'/\MX S S'/\vss.length=css.length/\dss.length=css.length/\
 (∀(k:Nat) (vs cs:List Value),vss[k]? =some vs->css[k]? =some cs->lD U' vs cs)/\∀(k:Nat) (vs:List Value) (ds:List D),vss[k]? =some vs->dss[k]? =some ds->RdA S' (λ_=>False) its vs ds:=by
 intro css;induction css with
 | nil=>intro _ U S h;exact⟨U,S,[],[],.refl U,h,.refl S,rfl,rfl,by simp,by simp⟩
 | cons cs css ih=>
  intro zA U S h;obtain⟨U1,S1,v1,d1,e1,l1,x1,r1,s1⟩:=zA cs (.head _) U S h;obtain⟨U2,S2,vss,dss,e2,l2,x2,n1,n2,r2,s2⟩:=ih (λc hc=>zA c (.tail _ hc)) U1 S1 l1;refine⟨U2,S2,v1::vss,d1::dss,e1.trans e2,l2,x1.trans x2,by simp [n1],by simp [n2],λk vs cs' a b=>?_,λk vs ds a b=>?_⟩
  ·cases k with
   | zero=>simp at a b;subst a b;exact r1.mono e2
   | succ k=>exact r2 k vs cs' (by simpa using a) (by simpa using b)
  ·cases k with
   | zero=>simp at a b;subst a b;exact s1.fr x2.none
   | succ k=>exact s2 k vs ds (by simpa using a) (by simpa using b)
theorem Ez{α:Type}{m:Nat}:∀{l:List (List α)},(∀x∈l,x.length=m)->∀(k j:Nat),j<m->l.flatten[k*m+j]? =(l[k]?).bind (·[j]?):=by
 intro l;induction l with
 | nil=>intro _ k j _;simp
 | cons x l ih=>
  intro h k j hj;have hx:=h x (.head _);cases k with
  | zero=>
   rw [Bg,fB (by omega)];simp
  | succ k=>
   rw [Bg,iG (by rw [hx,mG];omega),hx];rw [show(k+1)*m+j-m=k*m+j by rw [mG];omega,ih (λy hy=>h y (.tail _ hy)) k j hj];simp
theorem Zn{α:Type}{m:Nat}:∀{l:List (List α)},(∀x∈l,x.length=m)->l.flatten.length=l.length*m:=by
 intro l;induction l with
 | nil=>intro _;simp
 | cons x l ih=>intro h;rw [Bg,bH,h x (.head _),ih λy hy=>h y (.tail _ hy),qS,mG];omega
end
section
variable{P:Program}{w:World}
theorem Fa{a:Addr}{n:Nat}{cs:List Value}(h:w.cells? 0 a n=some cs)(hn:0<n):∃c t fz,w.heap[a.block]? =some (.cells c t fz)/\a.spot=none:=by
 unfold World.cells? at h;rw [if_pos (gF _)]at h;obtain⟨_,h2⟩:=mapM_some h;obtain⟨x,_,hx⟩:=h2 0 0 (by simp [hn]);have hx:w.cell? a=some x:=by simpa [Addr.add]using hx
 unfold World.cell? at hx;cases hb:w.heap[a.block]? with
 | none=>rw [hb]at hx;cases hx
 | some o=>
  rw [hb]at hx;cases o with
  | cells c t fz=>
   simp only at hx;cases hs:a.spot with
   | none=>exact⟨c,t,fz,rfl,rfl⟩
   | some s=>rw [hs]at hx;simp at hx
  | _=>cases hx
theorem aE9{b off n:Nat}{cs:List Value}{c:Array Value}{t:TypeId}{fz:Nat×Nat}(h:w.cells? 0 ⟨b,off,none⟩ n=some cs)(hb:w.heap[b]? =some (.cells c t fz)):cs.length=n/\∀(j:Nat) (v:Value),cs[j]? =some v->c[off+j]? =some v:=by
 unfold World.cells? at h;rw [if_pos (gF _)]at h;obtain⟨h1,h2⟩:=mapM_some h;have h1:cs.length=n:=by simpa using h1
 refine⟨h1,λj v hv=>?_⟩;have hj:j<n:=by rw [<-h1];exact(dS.1 hv).1
 obtain⟨x,hx,hc⟩:=h2 j j (by simp [hj]);rw [hv]at hx;injection hx with hx;subst hx;rw [mB]at hc;unfold World.cell? at hc;rw [hb]at hc;simpa using hc
variable{H:Type}{enc:TypeId×Value->H}
theorem Zo{e:TypeId}{x:Nat}:∀{l:List (DataW H)} {d:DataW H},d∈l->x∈d.weights P e->x∈DataW.weightsAll P e l:=by
 intro l;induction l with
 | nil=>intro d h;cases h
 | cons y l ih=>
  intro d h hx;rw [DataW.weightsAll];rcases dA.1 h with rfl | h
  ·exact uP.2 (.inl hx)
  ·exact uP.2 (.inr (ih h hx))
theorem aFa{g:TypeId->Option (List It)}:∀{fs:List Field} {off:Nat} {its:List It},aB6 P g fs off=some its->∀(cs:List Value) (F:TypeId->List Value->Option (DataW H×List MemPlace)) (xs:List (DataW H×List MemPlace)),
 (fs.mapM λf=>F f.type ((cs.drop f.offset).take (P.cellsOf f.type)))=some xs->cs.length=off+its.length->
 (∀(k:Nat) (f:Field) (x:DataW H×List MemPlace),fs[k]? =some f->xs[k]? =some x->∀(i:List It) (c:List Value),g f.type=some i->F f.type c=some x->sN P w c i)->sN P w (cs.drop off) its:=by
 intro fs;induction fs with
 | nil=>
  intro off its h cs F xs _ hl _;unfold aB6 at h;injection h with h;subst h;rw [OY (by simp at hl;omega)];exact λU S hl=>⟨U,S,[],[],.refl U,hl,.refl S,.nil U,rfl,rfl,λj it v d a=>by simp at a⟩
 | cons f fs ih=>
  intro off its h cs F xs hx hl zA;unfold aB6 at h;split at h
  ·rename_i aEM
   split at h
   ·rename_i i m hg hm
    split at h
    ·rename_i hmi
     cases hr:aB6 P g fs (off+m)with
     | none=>rw [hr]at h;cases h
     | some rest=>
      rw [hr]at h;have h:some (i++rest)=some its:=h;injection h with h;subst h;obtain⟨x1,x2⟩:=mapM_some hx;obtain⟨x,hx0,hF⟩:=x2 0 f rfl
      have hcm:P.cellsOf f.type=m:=by
       unfold Program.cellsOf;unfold bP at hm;rw [hm];rfl
      rw [hcm,aEM]at hF;have h1:sN P w ((cs.drop off).take m) i:=zA 0 f x rfl hx0 i _ hg hF
      have hxs:∃ys,xs=x::ys:=by
       cases xs with
       | nil=>simp at hx0
       | cons y ys=>simp at hx0;subst hx0;exact⟨ys,rfl⟩
      obtain⟨ys,rfl⟩:=hxs
      have hys:(fs.mapM λf=>F f.type ((cs.drop f.offset).take (P.cellsOf f.type)))=some ys:=by
       rw [Bi]at hx;cases ha:F f.type ((cs.drop f.offset).take (P.cellsOf f.type))with
       | none=>rw [ha]at hx;cases hx
       | some y=>
        rw [ha]at hx;cases hb:(fs.mapM λf=>F f.type ((cs.drop f.offset).take (P.cellsOf f.type)))with
        | none=>rw [hb]at hx;cases hx
        | some zs=>
         rw [hb]at hx;have hx:some (y::zs)=some (x::ys):=hx;injection hx with hx;injection hx with _ hx;rw [hx]
      have h2:=ih hr cs F ys hys (by rw [hl,bH];omega) λk f' x' a b=>zA (k+1) f' x' (by simpa using a) (by simpa using b);have:=h1.append h2
      rwa [show(cs.drop off).take m++cs.drop (off+m)=cs.drop off by rw [<-KB];exact MF _ _]at this
    ·cases h
   ·cases h
  ·cases h
end
section
variable{P:Program}{w:World}{H:Type}{enc:TypeId×Value->H}
theorem aGX{k:IntKind}{n:Int}(h:(Lit.int k n).wf=true):k.min<=n/\n<=k.max:=by
 unfold Lit.wf at h;simpa using h
theorem aFb{a:Addr}{len cap m:Nat}{e:TypeId}{its:List It}{els:List (DataW H×List MemPlace)}{F:List Value->Option (DataW H×List MemPlace)}(hm:its.length=m)(VI:0<m)(hsz:bP P e=some m)(aQh:P.cellsOf e=m)(hlc:len<=cap)
 (hel:(List.range len).mapM (λi=>(w.cells? 0 (a.add (i*m)) m).bind F)=some els) (hN:len<=140737488355328/\len*aB8 its<=140737488355328)
 (CW:cap=0\/∃c t fz,w.heap[a.block]? =some (.cells c t fz)/\a.spot=none)
 (hz:∀i,i<len*m->w.frozen? ⟨a.block,a.off+i,none⟩=false)
 (zA:∀x∈els,∀cs,F cs=some x->sN P w cs its):
 ∀(U:Rn) (S:St),Lay P w U S->∃U' S' v ds,Ext U U'/\Lay P w U' S'/\MX S S'/\VR U' v (.slice (some a) len cap)/\Rd S' (λ_=>False) (.list its) v (.l ds):=by
 intro U S hl;rcases MH cap with hc0 | hc0
 ·have:len=0:=by omega
  subst this hc0;obtain⟨b,o,sp⟩:=a;refine⟨U,S,.slice (some ⟨b,o,some ((match sp with | none=>0 | some k=>k+1)+2)⟩) 0 0,[],.refl U,hl,.refl S,.zR ?_,.Tq⟩;cases sp<;>rfl
 ·rcases CW with CW | ⟨c,t,fz,hb,aGY⟩
  ·omega
  ·obtain⟨b,o,sp⟩:=a
   have aGY:sp=none:=aGY;subst aGY;obtain⟨h1,h2⟩:=mapM_some hel;have h1:els.length=len:=by simpa using h1
   let css:List (List Value):=(List.range len).map λi=>(w.cells? 0 ((⟨b,o,none⟩:Addr).add (i*m)) m).getD []
   have aOD:∀i,i<len->∃cs x,css[i]? =some cs/\w.cells? 0 ⟨b,o+i*m,none⟩ m=some cs/\els[i]? =some x/\F cs=some x:=by
    intro i hi;obtain⟨x,hx,hF⟩:=h2 i i (by simp [hi]);rw [mB]at hF;cases xV:w.cells? 0 ⟨b,o+i*m,none⟩ m with
    | none=>rw [xV]at hF;cases hF
    | some cs=>
     rw [xV]at hF;refine⟨cs,x,?_,rfl,hx,hF⟩;show((List.range len).map λi=>(w.cells? 0 ((⟨b,o,none⟩:Addr).add (i*m)) m).getD [])[i]? =some cs;rw [jA,Is hi];show some ((w.cells? 0 ((⟨b,o,none⟩:Addr).add (i*m)) m).getD [])=some cs;rw [mB,xV];rfl
   have Ed:css.length=len:=by show((List.range len).map _).length=len;simp
   have aQi:∀cs∈css,sN P w cs its:=by
    intro cs xV;obtain⟨i,hi⟩:=GI xV;have lN:i<len:=by rw [<-Ed];exact(dS.1 hi).1
    obtain⟨cs',x,g1,_,g3,g4⟩:=aOD i lN;rw [hi]at g1;injection g1 with g1;subst g1;exact zA x (wI g3) cs g4
   obtain⟨U1,S1,vss,dss,e1,l1,x1,n1,n2,r1,s1⟩:=aJ2 aQi U S hl
   have XC:∀vs∈vss,vs.length=m:=by
    intro vs GU;obtain⟨i,hi⟩:=GI GU;have lN:i<dss.length:=by rw [n2,<-n1];exact(dS.1 hi).1
    rw [(s1 i vs _ hi (aP lN)).len,hm]
   have Nm:=Zn XC
   have hA:∀(j:Nat) (v:Value),vss.flatten[j]? =some v->∃v',c[o+j]? =some v'/\VR U1 v v':=by
    intro j v hj
    have MC:j<len*m:=by
     have:=(dS.1 hj).1;rw [Nm,n1,Ed]at this;exact this
    have hk:j / m<len:=Nat.div_lt_of_lt_mul (by rw [Nat.mul_comm];exact MC);have hjm:j%m<m:=Nat.mod_lt _ VI;have ej:j=(j / m)*m+j%m:=by rw [Nat.mul_comm];exact(Nat.div_add_mod j m).symm
    rw [ej,Ez XC _ _ hjm]at hj;obtain⟨cs,x,g1,g2,g3,g4⟩:=aOD (j / m) hk;cases hvk:vss[j / m]? with
    | none=>rw [hvk]at hj;cases hj
    | some vs=>
     rw [hvk]at hj;have hvr:=r1 _ vs cs hvk g1;obtain⟨v',FG,hr'⟩:=hvr.get hj;obtain⟨_,q2⟩:=aE9 g2 hb;have:=q2 _ _ FG;exact⟨v',by rw [uQ,<-ej]at this;exact this,hr'⟩
   have hB:∀j,j<vss.flatten.length->¬(fz.1<=o+j/\o+j<fz.2):=by
    intro j hj;have MC:j<len*m:=by rw [Nm,n1,Ed]at hj;exact hj
    have:=hz j MC;unfold World.frozen? at this;rw [hb]at this;intro⟨q1,q2⟩;simp at this;have:=this q1;omega
   obtain⟨l2,e2⟩:=l1.add vss.flatten e ⟨b,o,0,m⟩ hb hA hsz hB;have x2:=MX.new S1 (.cells vss.flatten e .rs);refine⟨_,_,.slice (some ⟨S1.n,0,none⟩) len cap,dss,e1.trans e2,l2,x1.trans x2,?_,?_⟩
   ·have:=VR.slice (U:=U1.put S1.n ⟨b,o,0,m⟩) (o:=0) (n:=len) (c:=cap) (Rn.kD U1 S1.n ⟨b,o,0,m⟩)
    exact this
   ·refine .row (e:=e) (ck:= .rs) rfl (xS _) (λh=>h) sO (.inl rfl) (by rw [n2,Ed]) (by rw [Nm,n1,Ed,hm];omega) (λds hds=>?_) hN hlc (λk ds j it v d a1 a2 a3 a4=>?_)
    ·obtain⟨i,hi⟩:=GI hds
     have lN:i<vss.length:=by rw [n1,<-n2];exact(dS.1 hi).1
     exact(s1 i _ ds (aP lN) hi).Tp
    ·have hjm:j<m:=by rw [<-hm];exact(dS.1 a2).1
     rw [hm,gB,Ez XC k j hjm]at a3;cases hk:vss[k]? with
     | none=>rw [hk]at a3;cases a3
     | some vs=>
      rw [hk]at a3;exact((s1 k vs ds hk a1).fr x2.none).rd j it v d a2 a3 a4
theorem Ts{y:Nat}:∀{fs:List Field} {xs:List (DataW H×List MemPlace)} {j:Nat} {f:Field} {x:DataW H×List MemPlace},fs[j]? =some f->xs[j]? =some x->y∈x.1.weights P f.type->y∈DataW.weightsEach P (fs.map (·.type)) (xs.map (·.1)):=by
 intro fs;induction fs with
 | nil=>intro xs j f x h;simp at h
 | cons g fs ih=>
  intro xs j f x h1 h2 h3;cases xs with
  | nil=>simp at h2
  | cons z xs=>
   rw [xU,xU,DataW.weightsEach];cases j with
   | zero=>simp at h1 h2;subst h1 h2;exact uP.2 (.inl h3)
   | succ j=>exact uP.2 (.inr (ih (by simpa using h1) (by simpa using h2) h3))
theorem lay(sp:Nat->Bool)(CW:∀b,sp b=true):∀(F k:Nat) (t:TypeId) (cs:List Value) (d:DataW H) (ps:List MemPlace),DataW.trod enc P w 0 sp true F t cs=some (d,ps)->(∀b off,MemPlace.cell b off∈ps->w.frozen? ⟨b,off,none⟩=false)->
 (∀x∈d.weights P t,x<=reachBytes)->∀its,aB7 P k t=some its->sN P w cs its:=by
 intro F;induction F with
 | zero=>intro k t cs d ps h;cases h
 | succ F ih=>
  intro k t cs d ps h hz hw its hi;cases k with
  | zero=>cases hi
  | succ k=>
   unfold aB7 at hi;unfold DataW.trod at h;cases hu:P.underlying t with
   | none=>rw [hu]at hi;cases hi
   | some td=>
    rw [hu]at hi h;cases td with
    | bool=>
     injection hi with hi;subst hi
     match cs,h with
     | [.bool b],_=>exact sN.plain rfl λS=> .is
    | int kd=>
     match cs,h with
     | [.int k' n],h=>
      simp only at h;split at h
      ·rename_i hk
       obtain⟨rfl,hwf⟩:=hk;obtain⟨r1,r2⟩:=aGX hwf;cases k' with
       | u64=>
        injection hi with hi;subst hi;have r1:(0:Int)<=n:=r1;have r2:n<=18446744073709551615:=r2;obtain⟨m,rfl⟩:=Int.eq_ofNat_of_zero_le r1;exact sN.plain rfl λS=> .num (z:=m) (by omega)
       | u8=>
        injection hi with hi;subst hi;have r1:(0:Int)<=n:=r1;have r2:n<=255:=r2;obtain⟨m,rfl⟩:=Int.eq_ofNat_of_zero_le r1;exact sN.plain rfl λS=> .kind (z:=m) (by omega)
       | i64=>
        injection hi with hi;subst hi;have r1:(-9223372036854775808:Int)<=n:=r1;have r2:n<=9223372036854775807:=r2;exact sN.plain rfl λS=> .int r1 (by omega)
       | _=>cases hi
      ·cases h
    | string=>
     injection hi with hi;subst hi
     match cs,h with
     | [.string s],h=>
      simp only at h;split at h
      ·injection h with h
       injection h with h _;subst h;obtain⟨⟨l⟩⟩:=s;have:=hw l.length (by simp [DataW.weights]);exact sN.plain rfl λS=> .text (l:=l) (by unfold reachBytes at this;omega)
      ·cases h
    | slice e=>
     simp only at hi;split at hi
     ·rename_i i0 aJ3 m by0 hit hsz hby
      split at hi
      ·rename_i hm
       obtain⟨hm,aQj⟩:=hm;have hcell:P.cellsOf e=m:=by unfold Program.cellsOf;unfold bP at hsz;rw [hsz];rfl
       have Oj:(∀(U:Rn) (S:St),Lay P w U S->∃U' S' v ds,Ext U U'/\Lay P w U' S'/\MX S S'/\lD U' [v] cs/\Rd S' (λ_=>False) (.list (i0::aJ3)) v (.l ds))->sN P w cs its:=by
        intro Np U S hl;obtain⟨U',S',v,ds,g1,g2,g3,g4,g5⟩:=Np U S hl;refine⟨U',S',[v],[.l ds],g1,g2,g3,g4,?_⟩;split at hi
        ·injection hi with hi;subst hi
         exact⟨rfl,rfl,λj it v' d' a b c=>by
          cases j with
          | zero=>simp at a b c;subst a b c;exact .nums g5
          | succ j=>simp at a⟩
        ·injection hi with hi;subst hi
         exact⟨rfl,rfl,λj it v' d' a b c=>by
          cases j with
          | zero=>simp at a b c;subst a b c;exact g5
          | succ j=>simp at a⟩
       match cs,h,Oj with
       | [.slice none 0 0],_,Oj=>exact Oj λU S hl=>⟨U,S,_,[],.refl U,hl,.refl S,.cons (.flat rfl) (.nil U),.empty⟩
       | [.slice (some a) len cap],h,Oj=>
        simp only at h;split at h
        ·rename_i aOE
         rw [hcell]at h;cases aJ4:(List.range len).mapM (λi=>(w.cells? 0 (a.add (i*m)) m).bind (DataW.trod enc P w 0 sp true F e))with
         | none=>rw [aJ4]at h;cases h
         | some els=>
          rw [aJ4]at h;simp only [Bh,CW,if_true]at h;cases uX:(List.range (cap-len)).mapM (λj=>(w.cells? 0 (a.add ((len+j)*m)) m).bind (DataW.trod enc P w 0 sp true F e))with
          | none=>rw [uX]at h;cases h
          | some rest=>
           rw [uX]at h;injection h with h;injection h with hd Ee;subst hd Ee;obtain⟨n1,n2⟩:=mapM_some aJ4;obtain⟨n3,n4⟩:=mapM_some uX;have n1:els.length=len:=by simpa using n1
           have n3:rest.length=cap-len:=by simpa using n3
           have hwt:(els.length+rest.length)*P.bytesOf e<=reachBytes:=hw _ (by rw [DataW.weights,hu];simp);rw [hby,n1]at hwt
           have aMt:len*aB8 (i0::aJ3)<=140737488355328:=by
            unfold reachBytes at hwt;have h1:len*aB8 (i0::aJ3)<=len*by0.succ:=Nat.mul_le_mul_left _ aQj;have h2:len*by0.succ<=(len+rest.length)*by0.succ:=lB _ (Nat.le_add_right _ _);omega
           have aMu:len<=140737488355328:=by
            unfold reachBytes at hwt;have:len<=(len+rest.length)*by0.succ:=tP (Nat.le_add_right _ _) (Nat.le_mul_of_pos_right _ (Nat.succ_pos _));omega
           refine Oj λU S hl=>?_
           obtain⟨U',S',v,ds,g1,g2,g3,g4,g5⟩:=aFb (F:=DataW.trod enc P w 0 sp true F e) (its:=i0::aJ3) (e:=e) (by rw [hm];rfl) (by omega) hsz hcell aOE.2.1 aJ4 ⟨aMu,aMt⟩ (by
            rcases MH cap with h0 | h0
            ·exact .inl h0
            ·right
             rcases MH len with h1 | h1
             ·obtain⟨x,_,hx⟩:=n4 0 0 (Is (by omega))
              cases xV:w.cells? 0 (a.add ((len+0)*m)) m with
              | none=>rw [xV]at hx;cases hx
              | some c0=>
               rw [h1]at xV;simp only [MJ,KC]at xV;exact Fa (by simpa [Addr.add]using xV) (by omega)
             ·obtain⟨x,_,hx⟩:=n2 0 0 (Is (by omega))
              cases xV:w.cells? 0 (a.add (0*m)) m with
              | none=>rw [xV]at hx;cases hx
              | some c0=>
               simp only [KC]at xV;exact Fa (by simpa [Addr.add]using xV) (by omega)) (λi hi=>by
            refine hz a.block (a.off+i) (uP.2 (.inl ?_));unfold MemPlace.row;refine mF.2 ⟨i,PC.2 ?_,rfl⟩;rw [n1];have:len*m<=(len+rest.length)*m:=lB _ (Nat.le_add_right _ _);omega) (λx hx cs' hF=>by
            obtain⟨dx,px⟩:=x;refine ih k e cs' dx px hF (λb off hb=>hz b off (uP.2 (.inr (Iw.2 ⟨(dx,px),uP.2 (.inl hx),hb⟩)))) (λy hy=>hw y ?_) _ hit;rw [DataW.weights,hu];exact aBH _ (uP.2 (.inl (Zo (mF.2 ⟨(dx,px),hx,rfl⟩) hy)))) U S hl
           exact⟨U',S',v,ds,g1,g2,g3,.cons g4 (.nil U'),g5⟩
        ·cases h
      ·cases hi
     ·cases hi
    | struct fs=>
     simp only at hi h
     have hi:∃m,aB6 P (aB7 P k) fs.toList 0=some its/\bP P t=some m/\m=its.length:=by
      split at hi
      ·rename_i aRx m' h1 h2
       split at hi
       ·rename_i h3
        injection hi with hi;subst hi;exact⟨m',h1,h2,h3⟩
       ·cases hi
      ·cases hi
     obtain⟨mm,hi,hsz,hmm⟩:=hi;have hct:P.cellsOf t=mm:=by unfold Program.cellsOf;unfold bP at hsz;rw [hsz];rfl
     split at h
     ·rename_i hlen
      cases hxs:(fs.toList.mapM λf=>DataW.trod enc P w 0 sp true F f.type ((cs.drop f.offset).take (P.cellsOf f.type)))with
      | none=>rw [hxs]at h;cases h
      | some xs=>
       rw [hxs]at h;injection h with h;injection h with hd Ee;subst hd Ee
       have:=aFa (w:=w) hi cs (λt c=>DataW.trod enc P w 0 sp true F t c) xs hxs (by omega) (λj f x hf hx i c hg hF=>by
        obtain⟨dx,px⟩:=x;refine ih k f.type c dx px hF (λb off hb=>hz b off (Iw.2 ⟨(dx,px),wI hx,hb⟩)) (λy hy=>hw y ?_) i hg;rw [DataW.weights,hu];exact Ts hf hx hy)
       rwa [DX]at this
     ·cases h
    | _=>cases hi
end
end Go.Am
namespace Go.Am
open Go.RowKit Go.ChangeShapes
section
variable{H:Type}{enc:TypeId×Value->H}{P:Program}{w:World}{base fuel:Nat}{spare:Nat->Bool}{held:Bool}{t e:TypeId}{k:IntKind}{n:Nat}{cs:List Value}
theorem ints_of_trod{x:DataW H×List MemPlace}(ht:P.underlying t=some (.array n e))(he:P.underlying e=some (.int k))(hc:P.cellsOf e=1)(hct:P.cellsOf t=n)(h:DataW.trod enc P w base spare held fuel t cs=some x){ns:List Int}
 (hx:x.1= .agg (ns.map λi=> .lit (.int k i))):cs=ns.map (Value.int k):=by
 obtain⟨xs,m,rfl,rfl,hlen,hn,hel⟩:=DataW.trod_array ht h;simp only [DataW.agg.injEq]at hx;have hl:xs.length=ns.length:=by have:=lT List.length hx;simpa using this
 apply uO;intro i;by_cases hi:i<n
 ·have h1:=hel i hi
  have hix:i<xs.length:=by omega
  rw [aP hix]at h1;obtain⟨j,e1,e2,_⟩:=DataW.trod_int he h1;have h2:=lT (·[i]?) hx;have PU:i<ns.length:=by omega
  simp only [jA,aP hix,aP PU,zH,e2,Option.some.injEq,DataW.lit.injEq,Lit.int.injEq,true_and]at h2;subst h2;rw [hc,lS]at e1;have h3:cs[i]? =((cs.drop i).take 1)[0]? :=by rw [kR,if_pos (by omega),kS];simp
  rw [h3,e1];simp [aP PU]
 ·rw [GH (by omega),GH (by simp;omega)]
end
theorem var?_heap{P:Program}{w:World}{n:String}{g:Nat}{cs:Array Value}(hg:P.globalNamed n=some g)(h:w.var? P n=some cs):∃t fz,w.heap[g]? =some (.cells cs t fz):=by
 simp only [World.var?,hg,Bh]at h;split at h
 ·rename_i c t fr hb
  cases h;exact⟨t,fr,hb⟩
 ·cases h
theorem size_of_shaped{P:Program}{w:World}(h:w.ShapedOpen P){g:Nat}(hg:g<P.globals.size)(hk:(((begin P (λ_ _=>0) default).world.heap[g]?).bind Obj.row?).isSome=true):g<w.heap.size:=by
 obtain⟨⟨zero,t⟩,hz⟩:=Ax.1 hk;obtain⟨cs,hc,_⟩:=h.1 g zero t hg hz;exact(nN.1 hc).1
end Go.Am
namespace Go.Am
open Go.RowKit
theorem returns_open{H:Type}{enc:TypeId×Value->H}{a:Assume}{C:Checked}{os:Os}{f:FuncId}{fn:Func}{s:ChangeSpec}{X:World->Prop}(hX:∀w w':World,w.heap=w'.heap->X w->X w')
 (own:ownKnob C.prog.godebug=none) (started:os.Started) (aMH:C.prog.inits.idxOf? f=none) (hfn:C.prog.funcs[f]? =some fn)
 (witness:∃(w:World) (tape:Tape) (i:Input),w.os=os/\(w.forCall tape i).Shaped C.prog/\i.vars=[]/\Input.okWide C.prog (w.forCall tape i) .any w.heap.size f i/\
  ((s.pre enc C.prog fn [] false (w.forCall tape i).memory i.args/\X (w.forCall tape i).memory)/\sizedMet enc C.prog fn (OpenSpec.ofChange s) false (w.forCall tape i).memory i.args)/\a.holds C.prog (lone (Frame.enter C.prog f i.args .normal) [] (w.forCall tape i)))
 (aHw:∀(W:World) (base:Nat) (args:Array Value) (ds gs:List (DataW H)) (before:List MemPlace),(∀(j:Nat) t v,fn.params[j]? =some t->args[j]? =some v->Value.okWide C.prog W .any base t v)->DataW.Whole enc C.prog fn.params.toList s.vars false W args.toList ds gs before->
  (DataW.weightsEach C.prog (fn.params.toList++s.plain.varTypes C.prog) (ds++gs)).all (· <=reachBytes)=true->W.ShapedOpen C.prog->X W->
  Calls C.prog f args W λe W'=>∃v,e= .returned v/\s.post enc C.prog fn false true false false W args v W'):
 ReturnsInHanded a C os f .any (λw args=>(s.pre enc C.prog fn [] false w args/\X w)/\sizedMet enc C.prog fn (OpenSpec.ofChange s) false w args) (s.post enc C.prog fn false true false false):=by
 refine returnsInHanded_of_calls own started aMH witness ?_;intro w tape i _ hsh _ Cd Gr _;obtain⟨_,_,_,fn',aQs,_,_,_,_,hval⟩:=Cd;have e:fn'=fn:=Option.some.inj (aQs.symm.trans hfn);subst e;obtain⟨⟨⟨ds,gs,before,hw,_⟩,hx⟩,hz⟩:=Gr;have hw':=DataW.Whole.of_heap (w':=w.forCall tape i) (by rfl) hw;refine(aHw (w.forCall tape i) w.heap.size i.args ds gs before hval hw' (hz.weights hw) hsh (hX _ _ (by rfl) hx)).mono λe W' ⟨v,he,hp⟩=>?_;subst he;exact ChangeSpec.post_blind hp
end Go.Am
