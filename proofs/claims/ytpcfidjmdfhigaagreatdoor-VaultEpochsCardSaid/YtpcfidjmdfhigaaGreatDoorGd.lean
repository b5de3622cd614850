/- VM: one operation, and calls. -/
import Derived.Test.YtpcfidjmdfhigaaGreatDoorGc
import Derived.Test.YtpcfidjmdfhigaaGreatDoorGb
import GoSem.ClaimJoined
import Derived.OpenShut
import Derived.LaidMore
import Derived.SizedLaws
import Derived.Stop.Joined
import Derived.Handed

namespace Go.Am
open Go.RowKit Go.MapKept
section
variable{P:Program}{B:Nat->Prop}{Sb:St}{c c' d:Cx}{h h':Hp}{S S':St}{C C':Nat->Prop}
theorem Nh (s:VS P B Sb c h S) (l:bO h' h){O:Nat->Tag} (le:c.le d) (e:dI B d h'=dI B c h'){vs us:List V}{ws:List Value} (ht:∀(k:Nat) (w:Value),ws[k]? =some w->TB d S (dI B d h') (O k) w)
 (r:lN c S (dI B c h) vs ws) (hf:FzL h' h O vs us):lN d S (dI B d h') us ws:=by
 have f2:EX (dI B c h) S S (dI B d h'):=by rw [e];exact(s.drop l).2
 obtain⟨g1,g2⟩:=hf;refine⟨by rw [g1];exact r.len,fun k u w e1 e2=>?_⟩;have hk:k<vs.length:=by rw [<-g1];exact(List.getElem?_eq_some_iff.1 e1).1
 have ev:=aQ hk;have hr:=r.rd k _ w ev e2;have hz:=g2 k _ u ev e1;cases hz with
 | lT=>exact hr.mono le f2
 | Ao hfz=>
  have:=s.Cm l hfz hr;exact aPc (by rw [e];exact this) (ht k w e2)
def aJ9:List Value->List Value
 | .agg ⟨a⟩::l=>a++l
 | _=>[]
def aCf:Value->List Value
 | .agg ⟨l⟩=>l
 | .tuple ⟨l⟩=>l++aJ9 l
 | w=>[w]
theorem aPd (s:VS P B Sb c h S) (l:bO h' h){v:V}{w:Value}{u:(Nat->Tag)->V} (r:fI c S (dI B c h) v w) (hf:∀O,Fz h' h O v (u O)):
 ∃d O,c.le d/\VS P B Sb d h' S/\EX (dI B c h) S S (dI B d h')/\fI d S (dI B d h') (u O) w:=by
 obtain⟨s1,f1⟩:=s.drop l;obtain⟨d,O,le,s2,e,ht⟩:=s1.names (aCf w);have f2:EX (dI B c h) S S (dI B d h'):=by rw [e];exact f1
 refine⟨d,O,le,s2,f2,?_⟩;have hz:=hf O;generalize u O=x at hz;cases hz with
 | one hz=>
  cases hz with
  | lT=>exact r.mono le f2
  | Ao hfz=>
   have hd:=s.Cm l hfz r;have hp:aCf w=[w]:=by cases hd<;>rfl
   exact aPc (by rw [e];exact hd) (ht 0 w (by rw [hp];rfl))
 | agg hz=>
  cases r with
  | agg la ha=>
   have:=Nh s l le e ht ⟨la,ha⟩ hz;exact .agg this.len this.rd
 | tup hz=>
  cases r with
  | @tuple a a' la ha=>
   have ht:∀(k:Nat) (w:Value),(a'++aJ9 a')[k]? =some w->TB d S (dI B d h') (O k) w:=ht;have:=Nh s l le e (ws:=a') (fun k w hk=>ht k w (by rw [gI (List.getElem?_eq_some_iff.1 hk).1];exact hk)) ⟨la,ha⟩ hz;exact .tuple this.len this.rd
 | @aQ0 as bs vs us hl hz=>
  cases r with
  | @tuple _ a' la ha=>
   have ht:∀(k:Nat) (w:Value),(a'++aJ9 a')[k]? =some w->TB d S (dI B d h') (O k) w:=ht;cases a' with
   | nil=>cases la
   | cons w0 rest=>
    have h0:=ha 0 _ w0 rfl rfl;cases h0 with
    | @agg _ as' la0 ha0=>
     have hr:vs.length=rest.length:=by simpa using la
     have So:lN c S (dI B c h) (as++vs) (as'++rest):=by
      refine⟨by rw [jU,jU,la0,hr],fun k v w e1 e2=>?_⟩;rcases BF k as.length with hk | hk
      ·rw [gI hk]at e1
       rw [gI (by omega)]at e2;exact ha0 k v w e1 e2
      ·rw [kI hk]at e1
       rw [kI (by omega)]at e2;refine ha (k-as.length+1) v w ?_ ?_
       ·rw [Bg];exact e1
       ·rw [Bg,la0];exact e2
     have:=Nh s l le e (O:=fun k=>O (k+(vs.length+1))) (ws:=as'++rest) (fun k w hk=>ht (k+(vs.length+1)) w (by
      rw [kI (by rw [oU];omega),oU,hr,Nat.add_sub_cancel];exact hk)) So hz
     have lb:us.length=rest.length:=by
      have:=this.len;rw [jU,jU,hl,la0]at this;omega
     refine .tuple (by rw [oU,oU,lb]) fun k v w e1 e2=>?_;cases k with
     | zero=>
      injection e1 with e1;injection e2 with e2;subst e1 e2;refine .agg (by rw [hl,la0]) fun k v w e1 e2=>this.rd k v w ?_ ?_
      ·rw [gI (List.getElem?_eq_some_iff.1 e1).1];exact e1
      ·rw [gI (List.getElem?_eq_some_iff.1 e2).1];exact e2
     | succ k=>
      rw [Bg]at e1 e2;refine this.rd (bs.length+k) v w ?_ ?_
      ·rw [kI (by omega),Nat.add_sub_cancel_left];exact e1
      ·rw [kI (by rw [hl,la0];omega),hl,la0,Nat.add_sub_cancel_left];exact e2
structure ER (P:Program) (B:Nat->Prop) (Sb:St) (Ev:VE) (E:Env):Prop where
 eP:E.P=P
 eM:Ev.most=E.most
 eC:∀(f:FuncId) {args:List V} {ws:List Value} {c:Cx} {h:Hp} {S:St} {Kv:KV} {K:VK},VS P B Sb c h S->lN c S (dI B c h) args ws->KR P B Sb c h S Kv K->Ev.C f args h Kv->E.call f ws S K=true
 eR:∀(l b:Nat) {args:List V} {ws:List Value} {c:Cx} {h:Hp} {S:St} {Kv:KV} {K:VK},VS P B Sb c h S->c.Z l=some b->lN c S (dI B c h) args ws->KR P B Sb c h S Kv K->Ev.R l args h Kv->E.round b ws S K=true
theorem ER.aFA{Ev:VE}{E:Env} (r:ER P B Sb Ev E) (f:FuncId){args:List V}{ws:List Value}{Kv:KV}{K:VK} (s:VS P B Sb c h S) (ra:lN c S (dI B c h) args ws) (k:KR P B Sb c h S Kv K) (hv:Ev.call f args h Kv):E.call f ws S K=true:=by
 obtain⟨h',us,l,hf,hv⟩:=hv;obtain⟨s1,f1⟩:=s.drop l;obtain⟨d,O,le,s2,e,ht⟩:=s1.names ws;have f2:EX (dI B c h) S S (dI B d h'):=by rw [e];exact f1
 exact r.eC f s2 (Nh s l le e ht ra (hf O)) (fun c' h' S' v w a b=>k c' h' S' v w (le.trans a) (f2.trans b)) (hv O)
theorem aG4{Ev:VE}{E:Env} (r:ER P B Sb Ev E){A:VA}{A':bC} (s:VS P B Sb c h S) (a:AR c S (dI B c h) A A'){cl:Call}{Kv:KV}{K:VK} (k:KR P B Sb c h S Kv K) (hv:(aJK P cl).f Ev A h Kv):mX E A' cl S K=true:=by
 have hP:=r.eP;subst hP;unfold aJK at hv;split at hv
 ·rename_i hc
  split at hv
  ·rename_i t x ht ha
   unfold mX;rw [hc,ha,ht];simp only [VP,bU,vP];split at hv
   ·rename_i _ _ e hs
    refine cC a hv fun v w rv hv=>?_;rw [aId hs];exact aG1 s rv (fun v w rv h=>k.here s rv h) hv
   ·rename_i _ _ hs hu
    refine cC a hv fun v w rv hv=>?_;rw [aIe hu];exact aG2 rv (fun v w rv h=>k.here s rv h) hv
   ·rename_i _ _ kt et hs hu
    refine cC a hv fun v w rv hv=>?_;exact aG5 s hu rv k hv
   ·cases hv
  ·cases hv
 ·rename_i hc
  split at hv
  ·rename_i sT xT x y ht ha
   unfold mX;rw [hc,ha,ht];simp only [VP,bU,vP];split at hv
   ·rename_i el hs hx
    split at hv
    ·rename_i info hi
     split at hv
     ·rename_i n z hn hz
      split at hv
      ·rename_i Xk hsz
       have hsz:cN E.P el=some (n+1):=by
        have:=dE hsz;cases hq:cN E.P el with
        | none=>rw [hq]at this;simp at this
        | some m=>rw [hq]at this;simp at this;rw [this]
       refine cC a hv fun v w rv hv=>?_;refine cC a hv fun v2 w2 Hk hv=>?_;show RO E.P [sT,xT] w w2 S K=true;rw [Vr hs hx hi hn hz Xk];exact aJ1 s (by omega) hsz rv Hk k hv
      ·cases hv
     ·cases hv
    ·cases hv
   ·cases hv
  ·cases hv
 ·rename_i hc
  split at hv
  ·rename_i x y ha
   unfold mX;rw [hc,ha];simp only [VP,bU,vP];refine cC a hv fun v w rv hv=>?_;refine cC a hv fun v2 w2 Hk hv=>?_;exact aCe (big:=false) rv Hk (fun v w rv h=>k.here s rv h) hv
  ·cases hv
 ·rename_i hc
  split at hv
  ·rename_i x y ha
   unfold mX;rw [hc,ha];simp only [VP,bU,vP];refine cC a hv fun v w rv hv=>?_;refine cC a hv fun v2 w2 Hk hv=>?_;exact aCe (big:=true) rv Hk (fun v w rv h=>k.here s rv h) hv
  ·cases hv
 ·rename_i hc
  split at hv
  ·rename_i t x ht ha
   unfold mX;rw [hc,ha,ht];simp only [VP,bU,vP];split at hv
   ·rename_i el hs
    split at hv
    ·rename_i m zero hsz hz
     split at hv
     ·rename_i hl hf
      refine cC a hv fun v w rv hv=>?_;exact aDW s hs hsz hz hl hf rv (fun h' S' f s' hv=>k c h' S' Gh (.tuple #[]) (.refl c) f s' (.tuple (a':=[]) rfl fun k v w e=>by simp at e) hv) hv
     ·cases hv
    ·cases hv
   ·cases hv
  ·cases hv
 ·rename_i hc
  split at hv
  ·rename_i dT ts x y ht ha
   unfold mX;rw [hc,ha,ht];simp only [VP,bU,vP];split at hv
   ·rename_i el hs
    split at hv
    ·rename_i m hsz
     refine cC a hv fun v w rv hv=>?_;refine cC a hv fun v2 w2 Hk hv=>?_;exact aG3 (ts:=ts) s hs hsz rv Hk k hv
    ·cases hv
   ·cases hv
  ·cases hv
 ·cases hv
 ·rename_i f hc
  unfold mX;rw [hc];refine Gn a hv fun vs ws ra hv=>?_;refine cC a hv fun v w rv hv=>?_;unfold lX at hv;split at hv
  ·cases rv with
   | func la ld ha hd=>
    show(FL _ ws fun l=>FL l _ fun l=>E.call _ l S K)=true;rw [nA,nA];exact r.aFA _ s ((lN.app ⟨la,ha⟩ ra).app ⟨ld,hd⟩) k hv
  ·cases rv with
   | yield e=>exact r.eR _ _ s e ra k hv
  ·cases hv
 ·rename_i rc m hc
  unfold mX;rw [hc];refine Gn a hv fun vs ws ra hv=>?_;refine cC a hv fun v w rv hv=>?_;unfold aQR at hv;split at hv
  ·rename_i t v'
   split at hv
   ·rename_i g hg
    cases rv with
    | iface rv=>
     show(match KT E.P t m with | some g=>E.call g _ S K | none=>false)=true;rw [hg];exact r.aFA _ s (.cons rv ra) k hv
   ·cases hv
  ·cases hv
theorem OG{A:VA}{A':bC} (a:AR c S C A A'){x:Option Operand}{k:Option V->Prop}{k':Option Value->Bool} (hv:(evO x).f A k) (hk:∀o o',OR' c S C o o'->k o->k' o'=true):Bz A' x k'=true:=by
 cases x with
 | none=>exact hk _ _ .none hv
 | some x=>exact cC a hv fun v w rv hv=>hk _ _ (.some rv) hv
theorem aDX{A:VA}{A':bC} (s:VS P B Sb c h S) (a:AR c S (dI B c h) A A'){Ev:VE}{t:TypeId}{x:Operand}{lo hi mx:Option Operand}{Kv:KV}{K:VK} (k:∀v w,fI c S (dI B c h) v w->Kv v h->K w S=true) (hv:(aDM P t x lo hi mx).f Ev A h Kv):
 vM A' x (fun x=>Bz A' lo fun lo=>Bz A' hi fun hi=>Bz A' mx fun mx=>uQ P t x lo hi mx S fun v=>K v S)=true:=by
 unfold aDM at hv;split at hv
 ·rename_i el he
  split at hv
  ·rename_i size hs
   refine cC a hv fun v w rv hv=>?_;refine OG a hv fun o1 o1' r1 hv=>?_;refine OG a hv fun o2 o2' r2 hv=>?_;refine OG a hv fun o3 o3' r3 hv=>?_;exact aJ5 s he hs rv r1 r2 r3 k hv
  ·cases hv
 ·split at hv
  ·rename_i hu
   split at hv
   ·refine cC a hv fun v w rv hv=>?_
    refine OG a hv fun o1 o1' r1 hv=>?_;refine OG a hv fun o2 o2' r2 hv=>?_;exact aJ8 hu rv r1 r2 k hv
   ·cases hv
  ·rename_i len el hu
   split at hv
   ·rename_i size hs
    refine cC a hv fun v w rv hv=>?_;refine OG a hv fun o1 o1' r1 hv=>?_;refine OG a hv fun o2 o2' r2 hv=>?_;refine OG a hv fun o3 o3' r3 hv=>?_;exact aJ7 hu hs rv r1 r2 r3 k hv
   ·cases hv
  ·cases hv
theorem Rf{A:VA}{A':bC} (s:VS P B Sb c h S) (a:AR c S (dI B c h) A A'){Ev:VE}{t:TypeId}{x y:Operand}{Kv:KV}{K:VK} (k:KR P B Sb c h S Kv K) (hv:(Cz P t x y).f Ev A h Kv):
 vM A' x (fun l=>vM A' y fun c=>xJ P t l c S K)=true:=by
 unfold Cz at hv;split at hv
 ·rename_i el he
  split at hv
  ·rename_i info zero hi hz
   split at hv
   ·rename_i n hl hn hf
    refine cC a hv fun v w rv hv=>?_;refine cC a hv fun v2 w2 Hk hv=>?_;exact aMw s he hi hz hl hn hf rv Hk k hv
   ·cases hv
  ·cases hv
 ·cases hv
theorem aCg{A:VA}{A':bC} (s:VS P B Sb c h S) (a:AR c S (dI B c h) A A'){Ev:VE}{t:TypeId}{x ix:Operand}{ok:Bool}{Kv:KV}{K:VK} (k:KR P B Sb c h S Kv K) (hv:(aAi P t x ix ok).f Ev A h Kv):
 vM A' x (fun x=>vM A' ix fun ix=>YK P t x ix ok S K)=true:=by
 unfold aAi at hv;split at hv
 ·rename_i kt et ht
  split at hv
  ·rename_i sh z hs hz
   split at hv
   ·rename_i zv hzv
    refine cC a hv fun v w rv hv=>?_;refine cC a hv fun v2 w2 Hk hv=>?_;exact aG6 s ht hs hz hzv rv Hk k hv
   ·cases hv
  ·cases hv
 ·cases hv
theorem Rg{A:VA}{A':bC} (s:VS P B Sb c h S) (a:AR c S (dI B c h) A A'){Ev:VE}{t:TypeId}{m x y:Operand}{Kv:KV}{K:VK} (k:KR P B Sb c h S Kv K) (hv:(aAj P t m x y).f Ev A h Kv):
 vM A' m (fun m=>vM A' x fun x=>vM A' y fun y=>FP P t m x y S fun S=>K undef S)=true:=by
 unfold aAj at hv;split at hv
 ·rename_i kt et ht
  split at hv
  ·rename_i sh hs
   refine cC a hv fun v w rv hv=>?_;refine cC a hv fun v2 w2 Hk hv=>?_;refine cC a hv fun v3 w3 rv3 hv=>?_;exact aDY s ht hs rv Hk rv3 k hv
  ·cases hv
 ·cases hv
theorem Gq{Ev:VE}{E:Env} (r:ER P B Sb Ev E){A:VA}{A':bC} (s:VS P B Sb c h S) (a:AR c S (dI B c h) A A'){o:Oper}{Kv:KV}{K:VK} (k:KR P B Sb c h S Kv K) (hv:(opV P o).f Ev A h Kv):AD E o A' S K=true:=by
 have kh:∀v w,fI c S (dI B c h) v w->Kv v h->K w S=true:=fun v w rv hk=>k.here s rv hk;unfold opV at hv;have hP:=r.eP;subst hP;split at hv<;>rename_i Ot<;>try (unfold AD;rw [Ot])
 ·exact cC a hv kh
 ·exact cC a hv kh
 ·refine cC a hv fun v w rv hv=>?_
  refine cC a hv fun v1 w1 rv1 hv=>?_;refine cC a hv fun v2 w2 Hk hv=>?_;rw [aF]at hv;unfold Vz at hv;split at hv
  ·rename_i b hva hvb
   cases rv;cases b with
   | true=>exact kh _ _ rv1 hv
   | false=>exact kh _ _ Hk hv
  ·cases hv
 ·split at hv
  ·rename_i z hz
   split at hv
   ·rename_i hf
    show VT E.P _ S K=true;rw [aBA hz hf];exact aDQ s k hv
   ·cases hv
  ·cases hv
 ·exact cC a hv fun v w rv hv=>aJW s rv k hv
 ·have hx:(opX E.P o).f E A' S K=AD E o A' S K:=WZ E o A' S K
  unfold AD at hx;rw [Ot]at hx;simp only at hx ⊢;rw [<-hx];unfold opX;rw [Ot];simp only;split at hv
  ·rename_i zero fields hz hu
   try simp only [hz,hu]
   split at hv
   ·rename_i pl hp
    try simp only [hp]
    split at hv
    ·rename_i hf ha
     try simp only [hf,ha]
     exact Db a hv fun l l' hl hv=>Rb s hl kh hv
    ·cases hv
   ·cases hv
  ·rename_i zero n elem hz hu
   try simp only [hz,hu]
   split at hv
   ·rename_i size hs
    try simp only [hs]
    split at hv
    ·rename_i hf
     try simp only [hf]
     exact Db a hv fun l l' hl hv=>Rb s hl kh hv
    ·cases hv
   ·cases hv
  ·cases hv
 ·have hx:(opX E.P o).f E A' S K=AD E o A' S K:=WZ E o A' S K
  unfold AD at hx;rw [Ot]at hx;simp only at hx ⊢;rw [<-hx];unfold opX;rw [Ot];simp only;split at hv
  ·rename_i elem hs
   try simp only [hs]
   split at hv
   ·rename_i size zero hz Mp
    try simp only [hz,Mp]
    split at hv
    ·rename_i h1 h2
     try simp only [h1,h2]
     split at hv
     ·rename_i hf
      try simp only [hf]
      rw [GU];refine Db a hv fun l l' hl hv=>?_;have:=aCa (Sb:=Sb) (B:=B) s hl k hv;unfold Yv at this
      rwa [GU]at this
     ·cases hv
    ·cases hv
   ·cases hv
  ·cases hv
 ·split at hv
  ·rename_i h1
   refine cC a hv fun v w rv hv=>?_;show PO E.P _ w S K=true;rw [Ik h1];exact aFz s rv kh hv
  ·rename_i n h1 h2
   refine cC a hv fun v w rv hv=>?_;show PO E.P _ w S K=true;rw [Il h1 h2];exact aB9 s (by omega) rv kh hv
  ·cases hv
 ·split at hv
  ·rename_i n h1
   refine cC a hv fun v w rv hv=>?_;refine cC a hv fun v2 w2 Hk hv=>?_;show Bx E.P _ w w2 S _=true;rw [aBz h1];refine aMu s rv Hk (fun h' S' f s' hk=>?_) hv;exact k c h' S' Gh undef (.refl c) f s' (.tuple (a':=[]) rfl fun k v w e=>by simp at e) hk
  ·cases hv
 ·refine cC a hv fun v w rv hv=>?_
  show aLy E.P w (fun v=>K v S)=true;exact aJ2 rv kh hv
 ·split at hv
  ·refine cC a hv fun v w rv hv=>?_
   refine cC a hv fun v2 w2 Hk hv=>?_;rw [<-SK];exact aKa rv Hk kh hv
  ·refine cC a hv fun v w rv hv=>?_
   refine cC a hv fun v2 w2 Hk hv=>?_;rw [<-SK];exact aJ3 s.Gs rv Hk kh hv
 ·exact cC a hv fun v w rv hv=>aMv rv kh hv
 ·split at hv
  ·rename_i j kk h1 h2
   refine cC a hv fun v w rv hv=>?_;rw [aEO h1 h2];exact aJ0 rv kh hv
  ·cases hv
 ·split at hv
  ·rename_i t x hv0 hi
   refine cC a hv fun v w rv hv=>?_;unfold aB4 at hi;split at hi
   ·cases hi
   ·rename_i d hd hu
    have hw:=kh _ _ (.iface (t:=t) rv) hv
    try simp only [hu]
    cases d<;>first | exact hw | exact(hd _ rfl).elim
   ·cases hi
  ·cases hv
 ·split at hv
  ·refine Gn a hv fun vs ws ra hv=>?_
   refine Gn a hv fun vs2 ws2 ra2 hv=>?_;exact kh _ _ (.func ra.len ra2.len ra.rd ra2.rd) hv
  ·split at hv
   ·rename_i x h1 h2
    try simp only [h1,h2]
    exact cC a hv fun v w rv hv=>kh _ _ (.KZ rv) hv
   ·cases hv
  ·cases hv
 ·split at hv
  ·rename_i fd hf
   split at hv
   ·rename_i n hn
    refine cC a hv fun v w rv hv=>?_;rw [Ew hf hn];exact aJX rv kh hv
   ·cases hv
  ·cases hv
 ·split at hv
  ·rename_i fd hf
   split at hv
   ·rename_i h1
    refine cC a hv fun v w rv hv=>?_;rw [Pt hf h1];exact aDR rv kh hv
   ·rename_i n h1 h2
    refine cC a hv fun v w rv hv=>?_;rw [Pv hf h1 h2];exact aCb rv kh hv
   ·cases hv
  ·cases hv
 ·split at hv
  ·rename_i el he
   split at hv
   ·rename_i n hn
    refine cC a hv fun v w rv hv=>?_;refine cC a hv fun v2 w2 Hk hv=>?_;rw [Ey he hn];exact aJY s rv Hk kh hv
   ·cases hv
  ·cases hv
 ·split at hv
  ·rename_i hu
   refine cC a hv fun v w rv hv=>?_;refine cC a hv fun v2 w2 Hk hv=>?_;rw [aBC hu];exact aDS rv Hk kh hv
  ·cases hv
 ·split at hv
  ·rename_i t x lo hi mx _ hb
   have:=aDX s a kh hv;unfold aNv at hb;cases mx<;>cases hi<;>first | exact this | cases hb
  ·cases hv
 ·exact Rf s a k hv
 ·exact Ks s k hv
 ·split at hv
  ·rename_i kv ht
   refine cC a hv fun v w rv hv=>?_;exact aAp s rv ht k hv
  ·cases hv
 ·split at hv
  ·rename_i kv ht
   refine cC a hv fun v w rv hv=>?_;exact aCh s ht rv k hv
  ·cases hv
 ·refine cC a hv fun v w rv hv=>?_
  exact aDZ s rv k hv
 ·refine cC a hv fun v w rv hv=>?_
  exact aCi s rv k hv
 ·exact aCg s a k hv
 ·exact Rg s a k hv
 ·exact Rg s a k hv
 ·refine cC a hv fun v w rv hv=>?_
  show aIj _ w (fun v=>K v S)=true;exact aJZ rv kh hv
 ·exact aG4 r s a k hv
 ·cases hv
end
section
variable{P:Program}{B:Nat->Prop}{Sb:St}{c c' d:Cx}{h h':Hp}{S S':St}{C C':Nat->Prop}
def KSR (P:Program) (B:Nat->Prop) (Sb:St) (c:Cx) (h:Hp) (S:St) (kv:KSV) (k:bC->St->Bool):Prop:=
 ∀c' h' S' A A',c.le c'->EX (dI B c h) S S' (dI B c' h')->VS P B Sb c' h' S'->AR c' S' (dI B c' h') A A'->kv A h'->k A' S'=true
theorem KSR.mono{kv:KSV}{k:bC->St->Bool} (q:KSR P B Sb c h S kv k) (l:c.le c') (f:EX (dI B c h) S S' (dI B c' h')):KSR P B Sb c' h' S' kv k:=
 fun c2 h2 S2 A A' l2 f2=>q c2 h2 S2 A A' (l.trans l2) (f.trans f2)
theorem Rh (s:VS P B Sb c h S){v:V}{w:Value} (r:fI c S C v w) (ho:Nd v=true) (n:Nat):Jw n w w=true:=by
 have XC:∀b o n m,Eg (.slice (some ⟨b,o,none⟩) n m) (.slice (some ⟨b,o,none⟩) n m)=true:=fun b o n m=>by
  show((Nat.beq b b&&Nat.beq o o)&&(Nat.beq n n&&Nat.beq m m))=true;simp
 have hs0:∀b o n m,Eg (.slice (some ⟨b,o,some 0⟩) n m) (.slice (some ⟨b,o,some 0⟩) n m)=true:=fun b o n m=>by
  show((Nat.beq b b&&Nat.beq o o)&&(Nat.beq n n&&Nat.beq m m))=true;simp
 have hse:∀b o s,Eg (.slice (some ⟨b,o,some (s+2)⟩) 0 0) (.slice (some ⟨b,o,some (s+2)⟩) 0 0)=true:=fun b o s=>by
  show((Nat.beq b b&&Nat.beq o o)&&Nat.beq s s)=true;simp
 have Vk:∀b o,Eg (.pointer (some ⟨b,o,none⟩)) (.pointer (some ⟨b,o,none⟩))=true:=fun b o=>by
  show(Nat.beq b b&&Nat.beq o o)=true;simp
 have hmp:∀b,Eg (.map (some b)) (.map (some b))=true:=fun b=>by
  show Nat.beq b b=true;simp
 cases r with
 | @int k z=>cases n<;>exact aGy k z
 | @bool b=>cases n<;>cases b<;>rfl
 | str=>cases n<;>(show Nv _ _=true;rw [RT];simp)
 | list ht hd=>
  cases hd with
  | nil=>cases n<;>rfl
  | emp=>cases n<;>exact hse _ _ _
  | @row b o n' cc sp _ _ _ _ AO _ _ _ _ _ _=>
   match sp,AO with
   | none,_=>cases n<;>exact XC _ _ _ _
   | some 0,_=>cases n<;>exact hs0 _ _ _ _
 | pI=>cases n<;>exact Vk _ _
 | vY=>cases n<;>exact Vk _ _
 | nil=>cases n<;>rfl
 | acc e=>obtain⟨b,rfl⟩:=s.Gs _ _ _ e;cases n<;>exact hs0 _ _ _ _
 | own=>cases n<;>exact XC _ _ _ _
 | ID=>cases n<;>exact hs0 _ _ _ _
 | ptr=>cases n<;>exact Vk _ _
 | Lq=>cases n<;>rfl
 | Ug=>cases n<;>rfl
 | Ix=>cases n<;>rfl
 | Qq=>cases n<;>rfl
 | yM=>cases n<;>exact hmp _
 | _=>cases ho
theorem Ni{p:V->Bool}{q:Value->Prop}{a:List V}{a':List Value} (r:lN c S C a a') (hp:a.all p=true) (hq:∀v w,fI c S C v w->p v=true->q w):∀w∈a',q w:=by
 intro w hw;obtain⟨k,hk⟩:=Bh hw;have hlt:=(List.getElem?_eq_some_iff.1 hk).1;have hl:=r.len;exact hq a[k] w (r.rd k a[k] w (aQ (by omega)) hk) (List.all_eq_true.1 hp _ (cK (by omega)))
theorem Ri{f:Value->Value->Bool}:∀{l:List Value},(∀w∈l,f w w=true)->JW f l l=true:=by
 intro l;induction l with
 | nil=>intro _;rfl
 | cons x l ih=>
  intro h;show(f x x&&JW f l l)=true;rw [h x (.head _),ih fun y hy=>h y (.tail _ hy)];rfl
theorem aCj (s:VS P B Sb c h S){v:V}{w:Value} (r:fI c S C v w) (ho:Nf v=true):aA7 w w=true:=by
 unfold Nf at ho;split at ho
 ·rename_i f a d
  rw [dR]at ho;cases r with
  | @func _ _ _ a' d' la ld ha hd=>
   show(Nat.beq f f&&(JW (Jw 2) a' a'&&JW (Jw 2) d' d'))=true;rw [Ri (Ni (⟨la,ha⟩:lN c S C a a') ho.1 fun v w r o=>Rh s r o 2),Ri (Ni (⟨ld,hd⟩:lN c S C d d') ho.2 fun v w r o=>Rh s r o 2)];simp
 ·exact Rh s r ho 3
theorem aCk (s:VS P B Sb c h S){v:V}{w:Value} (r:fI c S C v w) (ho:Ng v=true):Jx w w=true:=by
 unfold Ng at ho;split at ho
 ·rename_i cs
  cases r with
  | @agg _ a' la ha=>
   show Vg a' a'=true;have rH:=Ni (⟨la,ha⟩:lN c S C cs a') ho fun v w r o=>aCj s r o;clear la ha;induction a' with
   | nil=>rfl
   | cons x l ih=>
    show(aA7 x x&&Vg l l)=true;rw [rH x (.head _),ih fun y hy=>rH y (.tail _ hy)];rfl
 ·rename_i oJ
  have h0:=aCj s r ho;cases w<;>first | exact h0 | (cases r<;>first | exact aX rfl (oJ _) | (rename_i e;obtain⟨b,e⟩:=s.Gs _ _ _ e;cases e) | (rename_i ht hd;cases hd))
theorem aKb (s:VS P B Sb c h S){v:V}{w:Value} (r:fI c S C v w) (ho:DS v=true):TS w w=true:=by
 unfold DS at ho;split at ho
 ·rename_i cs
  cases r with
  | @tuple _ a' la ha=>
   show Ib a' a'=true;have rH:=Ni (⟨la,ha⟩:lN c S C cs a') ho fun v w r o=>aCk s r o;clear la ha;induction a' with
   | nil=>rfl
   | cons x l ih=>
    show(Jx x x&&Ib l l)=true;rw [rH x (.head _),ih fun y hy=>rH y (.tail _ hy)];rfl
 ·rename_i oJ
  have h0:=aCk s r ho;cases w<;>first | exact h0 | (cases r<;>first | exact aX rfl (oJ _) | (rename_i e;obtain⟨b,e⟩:=s.Gs _ _ _ e;cases e) | (rename_i ht hd;cases hd))
theorem Rj{ops:Array Oper}{o:Oper}{A:bC}{k:Bool->Bool} (hg:o.guard=none):DC ops o A k=k true:=by
 unfold DC;rw [hg]
theorem aFB{ops:Array Oper}{o o':Oper}{A:bC}{k:Bool->Bool}{j:Nat}{w:Bool}{g:Tmp} (hg:o.guard=some (j,w)) (hj:ops[j]? =some o') (hd:o'.dst=some g):DC ops o A k=YJ A.tmps g fun v=>Kk w v k:=by
 unfold DC;rw [hg];simp only [hj,hd];rfl
theorem Wn{w:Bool}{v:V}{u:Value} (r:fI c S C v u){k:Bool->Prop} (hv:aJG w v k):∃b,k b/\∀K:Bool->Bool,Kk w u K=K b:=by
 cases r with
 | @bool b=>cases b<;>cases w<;>exact⟨_,hv,fun K=>rfl⟩
 | @tuple a a' la ha=>
  cases a with
  | nil=>exact⟨false,hv,fun K=>rfl⟩
  | cons x l=>cases hv
 | _=>cases hv
theorem aKc{A:VA}{A':bC} (a:AR c S (dI B c h) A A') (s:VS P B Sb c h S){o:Oper}{kv:KSV}{k:bC->St->Bool} (hk:KSR P B Sb c h S kv k){v:V}{w:Value} (r:fI c S (dI B c h) v w)
 (hv:match o.dst with | some d=>Ra A d v (fun A=>kv A h) | none=>kv A h):mJ A' o.dst w (fun A=>k A S)=true:=by
 cases hd:o.dst with
 | none=>rw [hd]at hv;exact hk c h S A A' (.refl c) (.refl _ S) s a hv
 | some d=>rw [hd]at hv;exact Wl a r hv fun X X' x hx=>hk c h S X X' (.refl c) (.refl _ S) s x hx
theorem aPe:fI c S C Gh undef:= .tuple (a':=[]) rfl fun k v w e=>by simp at e
theorem Gr{Ev:VE}{E:Env} (r:ER P B Sb Ev E){A:VA}{A':bC} (s:VS P B Sb c h S) (a:AR c S (dI B c h) A A'){ops:Array Oper}{o:Oper}{kv:KSV}{k:bC->St->Bool} (hk:KSR P B Sb c h S kv k) (hv:(doV P ops o).f Ev A h kv):Ca E ops o A' S k=true:=by
 have beh:∀{c' h' S' v w},c.le c'->EX (dI B c h) S S' (dI B c' h')->VS P B Sb c' h' S'->fI c' S' (dI B c' h') v w->(match o.dst with | some d=>Ra A d v (fun A=>kv A h') | none=>kv A h')->mJ A' o.dst w (fun A=>k A S')=true:=
  fun l f s' rv hv=>aKc (a.mono l f) s' (hk.mono l f) rv hv
 unfold doV at hv;unfold Ca;cases hg:o.guard with
 | none=>
  rw [hg]at hv;rw [Rj hg];simp only at hv;show AD E o A' S (fun v S=>mJ A' o.dst v fun A=>k A S)=true;unfold aNw at hv;cases hd:o.dst with
  | none=>
   rw [hd]at hv;exact Gq r s a (fun c' h' S' v w l f s' rv hv=>by have:=beh l f s' rv (by rw [hd];exact hv);rwa [hd]at this) hv
  | some d=>
   rw [hd]at hv;exact Gq r s a (fun c' h' S' v w l f s' rv hv=>by have:=beh l f s' rv (by rw [hd];exact hv);rwa [hd]at this) hv
 | some jw=>
  obtain⟨j,w⟩:=jw;rw [hg]at hv;simp only at hv;cases hj:ops[j]? with
  | none=>simp only [hj]at hv
  | some o'=>
   simp only [hj]at hv;cases hg':o'.dst with
   | none=>simp only [hg']at hv
   | some g=>
    simp only [hg']at hv;rw [aFB hg hj hg']
    have key:∀(v:V) (u:Value) (q:KV),(∀{c' h' S' v w},c.le c'->EX (dI B c h) S S' (dI B c' h')->VS P B Sb c' h' S'->fI c' S' (dI B c' h') v w->q v h'->mJ A' o.dst w (fun A=>k A S')=true)->fI c S (dI B c h) v u->PE w v (fun k=>(opV P o).f Ev A h k) h q->
     Kk w u (fun b=>fX b (AD E o A' S fun v S=>mJ A' o.dst v fun A=>k A S) (mJ A' o.dst undef fun A=>k A S))=true:=by
     intro v u q hq rv hv;obtain⟨b,hb,e⟩:=Wn rv hv;rw [e];cases b with
     | true=>exact Gq r s a (fun c' h' S' v w l f s' rv hv=>hq l f s' rv hv) hb
     | false=>exact hq (.refl c) (.refl _ S) s aPe hb
    cases hd:o.dst with
    | none=>
     rw [hd]at hv;refine EJ a hv fun v u rv hv=>?_;rw [aF]at hv;have:=key v u _ (fun l f s' rv hv=>beh l f s' rv (by rw [hd];exact hv)) rv hv
     rwa [hd]at this
    | some dd=>
     rw [hd]at hv;refine EJ a hv fun v u rv hv=>?_;rw [aF]at hv;have:=key v u _ (fun l f s' rv hv=>beh l f s' rv (by rw [hd];exact hv)) rv hv
     rwa [hd]at this
theorem aKd{Ev:VE}{E:Env} (r:ER P B Sb Ev E){ops:Array Oper}:∀{l:List Oper} {c:Cx} {h:Hp} {S:St} {A:VA} {A':bC} {kv:KSV} {k:bC->St->Bool},VS P B Sb c h S->AR c S (dI B c h) A A'->KSR P B Sb c h S kv k->(opsV P ops l).f Ev A h kv->ZH E ops l A' S k=true:=by
 intro l;induction l with
 | nil=>intro c h S A A' kv k s a hk hv;exact hk c h S A A' (.refl c) (.refl _ S) s a hv
 | cons o l ih=>
  intro c h S A A' kv k s a hk hv;have hv:(doV P ops o).f Ev A h (fun A S=>(opsV P ops l).f Ev A S kv):=hv;show Ca E ops o A' S (ZH E ops l · · k)=true;exact Gr r s a (fun c' h' S' X X' le f s' x hv=>ih s' x (hk.mono le f) hv) hv
theorem XV{Ev:VE}{E:Env} (r:ER P B Sb Ev E){ops:Array Oper}{A:VA}{A':bC} (s:VS P B Sb c h S) (a:AR c S (dI B c h) A A'){p:Prop}{b:Bool} (hb:p->b=true):∀{l:List Nat},(ZP P ops l).f Ev A h p->zC E ops A' S l b=true:=by
 intro l;induction l with
 | nil=>intro hv;exact hb hv
 | cons i l ih=>
  intro hv;rw [Ic]
  have e1:ZP P ops (i::l)=match ops[i]? with
   | some o=>match o.dst with
    | some d=>match o.guard with
     | none=>⟨fun E A S k=>Ui A.tmps d fun u=>(opV P o).f E A S fun v _=>aZ v u ((ZP P ops l).f E A S k)⟩
     | some (j,w)=>match ops[j]? with
      | some o'=>match o'.dst with
       | some g=>⟨fun E A S k=>Ui A.tmps d fun u=>Ui A.tmps g fun b=>UB E.most (Gj w b u (fun k=>(opV P o).f E A S fun v _=>aZ v u k) ((ZP P ops l).f E A S k))⟩
       | none=>⟨fun _ _ _ _=>False⟩
      | none=>⟨fun _ _ _ _=>False⟩
    | none=>⟨fun _ _ _ _=>False⟩
   | none=>⟨fun _ _ _ _=>False⟩:=rfl
  rw [e1]at hv;cases hi:ops[i]? with
  | none=>rw [hi]at hv;cases hv
  | some o=>
   rw [hi]at hv;simp only at hv ⊢;cases hd:o.dst with
   | none=>rw [hd]at hv;cases hv
   | some dd=>
    rw [hd]at hv;simp only at hv ⊢
    have run:∀{u:V} {uw:Value},fI c S (dI B c h) u uw->((opV P o).f Ev A h fun v _=>aZ v u ((ZP P ops l).f Ev A h p))->AD E o A' S (fun v _=>match TS v uw with | true=>zC E ops A' S l b | false=>false)=true:=by
     intro u uw ru hv;refine Gq r s a (fun c' h' S' v w le f s' rv hv=>?_) hv;obtain⟨rfl,ho,hv⟩:=hv;have:=rv.fn (ru.mono le f);subst this;rw [aKb s' rv ho];exact ih hv
    cases hg:o.guard with
    | none=>
     simp only [hg]at hv;refine EJ a hv fun u uw ru hv=>?_;rw [Rj hg];exact run ru hv
    | some jw=>
     obtain⟨j,w⟩:=jw;simp only [hg]at hv;cases hj:ops[j]? with
     | none=>simp only [hj]at hv
     | some o'=>
      simp only [hj]at hv;cases hg':o'.dst with
      | none=>simp only [hg']at hv
      | some g=>
       simp only [hg']at hv;refine EJ a hv fun u uw ru hv=>?_;rw [aFB hg hj hg'];refine EJ a hv fun q qw rq hv=>?_;rw [aF]at hv;obtain⟨bb,hbb,e⟩:=Wn rq hv;rw [e];cases bb with
       | true=>exact run ru hbb
       | false=>
        have hbb:aQS u ((ZP P ops l).f Ev A h p):=hbb;cases ru with
        | @tuple a a' la ha=>
         cases a with
         | nil=>
          have:a'=[]:=rY (by simpa using la.symm);subst this;exact ih hbb
         | cons x l=>cases hbb
        | _=>cases hbb
theorem Rk{Ev:VE}{E:Env} (r:ER P B Sb Ev E){ops:Array Oper}{i:Nat}{o:Oper}{A:VA}{A':bC} (s:VS P B Sb c h S) (a:AR c S (dI B c h) A A'){Kv:KV}{K:VK} (k:KR P B Sb c h S Kv K) (hv:(aB5 P ops i o).f Ev A h Kv):IM E ops i o A' S K=true:=by
 unfold aB5 at hv;unfold IM;rw [r.eP];cases hc:eV P ops i with
 | none=>rw [hc]at hv;exact Gq r s a k hv
 | some j=>rw [hc]at hv;cases hv
theorem YZ{Ev:VE}{E:Env} (r:ER P B Sb Ev E){ops:Array Oper}:∀{l:List Nat} {c:Cx} {h:Hp} {S:St} {A:VA} {A':bC} {kv:KSV} {k:bC->St->Bool},VS P B Sb c h S->AR c S (dI B c h) A A'->KSR P B Sb c h S kv k->(UC P ops l).f Ev A h kv->nW E ops l A' S k=true:=by
 intro l;induction l with
 | nil=>intro c h S A A' kv k s a hk hv;exact hk c h S A A' (.refl c) (.refl _ S) s a hv
 | cons i l ih=>
  intro c h S A A' kv k s a hk hv
  have e1:UC P ops (i::l)=match ops[i]? with
   | some o=>match o.dst with
    | some d=>⟨fun E A S k=>(aB5 P ops i o).f E A S fun v S=>Ra A d v fun A=>(UC P ops l).f E A S k⟩
    | none=>⟨fun E A S k=>(aB5 P ops i o).f E A S fun _ S=>(UC P ops l).f E A S k⟩
   | none=>⟨fun _ _ _ _=>False⟩:=rfl
  have e2:nW E ops (i::l) A' S k=match ops[i]? with
   | some o=>IM E ops i o A' S fun v S=>mJ A' o.dst v fun A=>nW E ops l A S k
   | none=>false:=rfl
  rw [e1]at hv;rw [e2];cases hi:ops[i]? with
  | none=>rw [hi]at hv;cases hv
  | some o=>
   rw [hi]at hv;simp only at hv ⊢;cases hd:o.dst with
   | none=>
    rw [hd]at hv;exact Rk r s a (fun c' h' S' v w le f s' rv hv=>ih s' (a.mono le f) (hk.mono le f) hv) hv
   | some d=>
    rw [hd]at hv;exact Rk r s a (fun c' h' S' v w le f s' rv hv=>Wl (a.mono le f) rv hv fun X X' x hx=>ih s' x (hk.mono le f) hx) hv
theorem Rl{Ev:VE}{E:Env} (r:ER P B Sb Ev E){ops:Array Oper}{A:VA}{A':bC} (s:VS P B Sb c h S) (a:AR c S (dI B c h) A A'){p:Prop}{b:Bool} (hb:p->b=true):∀{l:List (Nat×List Nat)},(aAk P ops l).f Ev A h p->UV E ops A' S l b=true:=by
 intro l;induction l with
 | nil=>intro hv;exact hb hv
 | cons q l ih=>
  intro hv
  have e1:aAk P ops (q::l)=match ops[q.1]? with
   | some o=>⟨fun E A S k=>aO9 A o (((UC P ops q.2).f E A S fun A S=>(aB5 P ops q.1 o).f E A S fun _ _=>True)/\(aAk P ops l).f E A S k)⟩
   | none=>⟨fun _ _ _ _=>False⟩:=rfl
  have e2:UV E ops A' S (q::l) b=match ops[q.1]? with
   | some o=>aCY A' o (fX (nW E ops q.2 A' S fun A S=>IM E ops q.1 o A S fun _ _=>true) (UV E ops A' S l b) false)
   | none=>false:=rfl
  rw [e1]at hv;rw [e2];cases hi:ops[q.1]? with
  | none=>rw [hi]at hv;cases hv
  | some o=>
   rw [hi]at hv;simp only at hv ⊢;unfold aO9 at hv;unfold aCY;cases hd:o.dst with
   | none=>rw [hd]at hv;cases hv
   | some dd=>
    rw [hd]at hv;simp only at hv ⊢;obtain⟨hg,h1,h2⟩:=aJT _ _ hv
    ·rw [mZ,a.abs dd hg]
     have hl:(nW E ops q.2 A' S fun A S=>IM E ops q.1 o A S fun _ _=>true)=true:=YZ r s a (fun c' h' S' X X' le f s' x hv=>Rk r s' x (fun _ _ _ _ _ _ _ _ _ _=>rfl) hv) h1;show fX (nW E ops q.2 A' S fun A S=>IM E ops q.1 o A S fun _ _=>true) (UV E ops A' S l b) false=true;rw [hl];exact ih h2
theorem XW{Ev:VE}{E:Env} (r:ER P B Sb Ev E){ops:Array Oper}:∀{l:List yT} {c:Cx} {h:Hp} {S:St} {A:VA} {A':bC} {kv:KSV} {k:bC->St->Bool},VS P B Sb c h S->AR c S (dI B c h) A A'->KSR P B Sb c h S kv k->(OF P ops l).f Ev A h kv->mE E ops l A' S k=true:=by
 intro l;induction l with
 | nil=>intro c h S A A' kv k s a hk hv;cases hv
 | cons st l ih=>
  intro c h S A A' kv k s a hk hv;cases st with
  | take i=>
   have e1:OF P ops (.take i::l)=match ops[i]? with
    | some o=>⟨fun E A S k=>(doV P ops o).f E A S fun A S=>(OF P ops l).f E A S k⟩
    | none=>⟨fun _ _ _ _=>False⟩:=rfl
   have e2:mE E ops (.take i::l) A' S k=match ops[i]? with
    | some o=>Ca E ops o A' S fun A S=>mE E ops l A S k
    | none=>false:=rfl
   rw [e1]at hv;rw [e2];cases hi:ops[i]? with
   | none=>rw [hi]at hv;cases hv
   | some o=>
    rw [hi]at hv;exact Gr r s a (fun c' h' S' X X' le f s' x hv=>ih s' x (hk.mono le f) hv) hv
  | Vj BO nB D q FX=>
   have e1:OF P ops (.Vj BO nB D q FX::l)=match ops[q]? with
    | some o=>⟨fun E A S k=>(ZP P ops BO).f E A S ((aAk P ops nB).f E A S ((UC P ops D).f E A S fun A S=>(doV P ops o).f E A S fun A S=>(ZP P ops FX).f E A S ((OF P ops l).f E A S k)))⟩
    | none=>⟨fun _ _ _ _=>False⟩:=rfl
   have e2:mE E ops (.Vj BO nB D q FX::l) A' S k=match ops[q]? with
    | some o=>zC E ops A' S BO (UV E ops A' S nB (nW E ops D A' S fun A S=>Ca E ops o A S fun A S=>zC E ops A S FX (mE E ops l A S k)))
    | none=>false:=rfl
   rw [e1]at hv;rw [e2];cases hi:ops[q]? with
   | none=>rw [hi]at hv;cases hv
   | some o=>
    rw [hi]at hv;refine XV r s a (fun hv=>?_) hv;refine Rl r s a (fun hv=>?_) hv;refine YZ r s a (fun c' h' S' X X' le f s' x hv=>?_) hv;refine Gr r s' x (fun c2 h2 S2 Y Y' fG f2 s2 y hv=>?_) hv;refine XV r s2 y (fun hv=>?_) hv;exact ih s2 y ((hk.mono le f).mono fG f2) hv
  | fin BO nB D=>
   have hv:(ZP P ops BO).f Ev A h ((aAk P ops nB).f Ev A h ((UC P ops D).f Ev A h kv)):=hv;show zC E ops A' S BO (UV E ops A' S nB (nW E ops D A' S k))=true;refine XV r s a (fun hv=>?_) hv;refine Rl r s a (fun hv=>?_) hv;exact YZ r s a hk hv
theorem aAq{Ev:VE}{E:Env} (r:ER P B Sb Ev E){ops:Array Oper}:∀{l:List yT} {c:Cx} {h:Hp} {S:St} {A:VA} {A':bC} {kv:KSV} {k:bC->St->Bool},VS P B Sb c h S->AR c S (dI B c h) A A'->KSR P B Sb c h S kv k->(MC P ops l).f Ev A h kv->yG E ops l A' S k=true:=by
 intro l;induction l with
 | nil=>intro c h S A A' kv k s a hk hv;exact hk c h S A A' (.refl c) (.refl _ S) s a hv
 | cons st l ih=>
  intro c h S A A' kv k s a hk hv;cases st with
  | take i=>
   have e1:MC P ops (.take i::l)=match ops[i]? with
    | some o=>⟨fun E A S k=>(doV P ops o).f E A S fun A S=>(MC P ops l).f E A S k⟩
    | none=>⟨fun _ _ _ _=>False⟩:=rfl
   have e2:yG E ops (.take i::l) A' S k=match ops[i]? with
    | some o=>Ca E ops o A' S fun A S=>yG E ops l A S k
    | none=>false:=rfl
   rw [e1]at hv;rw [e2];cases hi:ops[i]? with
   | none=>rw [hi]at hv;cases hv
   | some o=>
    rw [hi]at hv;exact Gr r s a (fun c' h' S' X X' le f s' x hv=>ih s' x (hk.mono le f) hv) hv
  | Vj BO nB D q FX=>
   have e1:MC P ops (.Vj BO nB D q FX::l)=match ops[q]? with
    | some o=>⟨fun E A S k=>(ZP P ops BO).f E A S ((aAk P ops nB).f E A S ((UC P ops D).f E A S fun A S=>(doV P ops o).f E A S fun A S=>(ZP P ops FX).f E A S ((MC P ops l).f E A S k)))⟩
    | none=>⟨fun _ _ _ _=>False⟩:=rfl
   have e2:yG E ops (.Vj BO nB D q FX::l) A' S k=match ops[q]? with
    | some o=>zC E ops A' S BO (UV E ops A' S nB (nW E ops D A' S fun A S=>Ca E ops o A S fun A S=>zC E ops A S FX (yG E ops l A S k)))
    | none=>false:=rfl
   rw [e1]at hv;rw [e2];cases hi:ops[q]? with
   | none=>rw [hi]at hv;cases hv
   | some o=>
    rw [hi]at hv;refine XV r s a (fun hv=>?_) hv;refine Rl r s a (fun hv=>?_) hv;refine YZ r s a (fun c' h' S' X X' le f s' x hv=>?_) hv;refine Gr r s' x (fun c2 h2 S2 Y Y' fG f2 s2 y hv=>?_) hv;refine XV r s2 y (fun hv=>?_) hv;exact ih s2 y ((hk.mono le f).mono fG f2) hv
  | fin BO nB D=>cases hv
end
section
variable{P:Program}{B:Nat->Prop}{Sb:St}{c c' d:Cx}{h h':Hp}{S S':St}{C C':Nat->Prop}
theorem AR.del{A:VA}{A':bC} (a:AR c S C A A') (d:Nat):AR c S C ⟨⟨A.tmps.t.del d,A.tmps.n⟩,A.g⟩ {A' with tmps:=⟨A'.tmps.t.del d,A'.tmps.n⟩}:=by
 refine⟨a.n,a.g,a.marks,fun i v e=>?_,fun i e=>?_⟩
 ·have e:(A.tmps.t.del d).get i=some v:=e
  rw [Ei]at e;show ∃w,(A'.tmps.t.del d).get i=some w/\_;rw [Ei];by_cases hi:i=d
  ·rw [aJ hi]at e;cases e
  ·rw [aG hi]at e ⊢;exact a.got i v e
 ·have e:(A.tmps.t.del d).get i=none:=e
  rw [Ei]at e;show(A'.tmps.t.del d).get i=none;rw [Ei];by_cases hi:i=d
  ·rw [aJ hi]
  ·rw [aG hi]at e ⊢;exact a.abs i e
theorem Wo{ops:Array Oper}{k:VA->Prop}{k':bC->Bool} (hk:∀X X',AR c S C X X'->k X->k' X'=true):∀{l:List Nat} {A:VA} {A':bC},AR c S C A A'->aB6 ops l A k->WO ops l A' k'=true:=by
 intro l;induction l with
 | nil=>intro A A' a hv;exact hk A A' a hv
 | cons i l ih=>
  intro A A' a hv
  have e1:aB6 ops (i::l) A k=match ops[i]? with
   | some o=>match o.dst with
    | some d=>match A with | ⟨⟨t,n⟩,g⟩=>aJJ t d fun t=>aB6 ops l ⟨⟨t,n⟩,g⟩ k
    | none=>False
   | none=>False:=rfl
  have e2:WO ops (i::l) A' k'=match ops[i]? with
   | some o=>match o.dst with
    | some d=>aHU A'.tmps.t d fun t=>WO ops l {A' with tmps:=⟨t,A'.tmps.n⟩} k'
    | none=>false
   | none=>false:=rfl
  rw [e1]at hv;rw [e2];cases hi:ops[i]? with
  | none=>simp only [hi]at hv
  | some o=>
   simp only [hi]at hv ⊢;cases hd:o.dst with
   | none=>simp only [hd]at hv
   | some d=>
    simp only [hd]at hv ⊢;rw [aMs]at hv;rw [aEC];exact ih (a.del d) hv
theorem aD0{w:Bool}{v:V}{k:Prop} (h:aFw w v k):v= .bool w/\k:=by
 unfold aFw at h;split at h
 ·rename_i b
  cases w<;>cases b<;>first | exact⟨rfl,h⟩ | exact h.elim
 ·exact h.elim
theorem aD1{Ev:VE}{E:Env} (r:ER P B Sb Ev E):∀{p:WW} {ops:Array Oper} {c:Cx} {h:Hp} {S:St} {A:VA} {A':bC} {kv:KSV} {k:bC->St->Bool},VS P B Sb c h S->AR c S (dI B c h) A A'->KSR P B Sb c h S kv k->(aDN P p ops).f Ev A h kv->WX E p ops A' S k=true:=by
 intro p;induction p with
 | fin l=>intro ops c h S A A' kv k s a hk hv;exact XW r s a hk hv
 | cut l g t b p ih=>
  intro ops c h S A A' kv k s a hk hv;have hv:(MC P ops l).f Ev A h (fun A S=>Ui A.tmps t fun v=>aFw b v ((aDN P p (eS ops g b)).f Ev A S kv)):=hv;show yG E ops l A' S (fun A S=>Eu A t b (WX E p (eS ops g b) A S k))=true;refine aAq r s a (fun c' h' S' X X' le f s' x hv=>?_) hv;unfold Eu;refine EJ x hv fun v w rv hv=>?_;obtain⟨e,hv2⟩:=aD0 hv;subst e;cases rv;have:=ih (ops:=eS ops g b) s' x (hk.mono le f) hv2;cases b<;>exact this
theorem aKe{Ev:VE}{E:Env} (r:ER P B Sb Ev E){ops:Array Oper}{draw:Bool}{A:VA}{A':bC} (s:VS P B Sb c h S) (a:AR c S (dI B c h) A A'){kv:KSV}{k:bC->St->Bool} (hk:KSR P B Sb c h S kv k) (hv:(aMq P ops draw).f Ev A h kv):(aGv P ops draw).f E A' S k=true:=by
 have hP:=r.eP;subst hP;rw [aER];cases draw with
 | false=>exact aKd r s a hk hv
 | true=>
  show drG E ops A' S k=true;unfold aMq at hv;simp only at hv;unfold drG;cases hp:Er E.P ops with
  | none=>
   simp only [hp]at hv ⊢;cases xA:LC ops with
   | false=>simp only [xA]at hv
   | true=>
    simp only [xA]at hv ⊢;cases VV:Et E.P (ops.size+1) ops ⟨List.replicate ops.size false⟩ []with
    | none=>simp only [VV]at hv
    | some p=>
     simp only [VV]at hv ⊢;exact Wo (fun X X' x hx=>aD1 r s x hk hx) a hv
  | some l=>
   simp only [hp]at hv ⊢;cases hl:PY l with
   | nil=>
    simp only [hl]at hv;exact XW r s a hk hv
   | cons x ls=>
    simp only [hl]at hv;exact Wo (fun X X' x hx=>XW r s x hk hx) a hv
def CKR (P:Program) (B:Nat->Prop) (Sb:St) (c:Cx) (h:Hp) (S:St) (Kv:CV) (K:Cb):Prop:=
 ∀c' h' S' A A' e,c.le c'->EX (dI B c h) S S' (dI B c' h')->VS P B Sb c' h' S'->AR c' S' (dI B c' h') A A'->Kv e A h'->K e A' S'=true
def LKR (P:Program) (B:Nat->Prop) (Sb:St) (c:Cx) (h:Hp) (S:St) (Kv:yS->List V->Nat->Hp->Prop) (K:yS->List Value->Nat->List Nat->St->Bool):Prop:=
 ∀c' h' S' vs ws n e,c.le c'->EX (dI B c h) S S' (dI B c' h')->VS P B Sb c' h' S'->lN c' S' (dI B c' h') vs ws->Kv e vs n h'->∀marks,Lr c' S' (dI B c' h') marks->K e ws n marks S'=true
def RoV (c:Cx) (r r':Option Nat):Prop:=(r=none/\r'=none)\/∃l b,r=some l/\r'=some b/\c.Z l=some b
theorem RoV.mono{r r':Option Nat} (q:RoV c r r') (l:c.le c'):RoV c' r r':=by
 rcases q with q | ⟨i,b,h1,h2,h3⟩
 ·exact .inl q
 ·exact .inr ⟨i,b,h1,h2,l.Z _ _ h3⟩
def aNy (P:Program) (B:Nat->Prop) (Sb:St) (Ev:VE) (E:Env) (r r':Option Nat) (lv:LpV) (lx:LpT):Prop:=
 ∀{c:Cx} {h:Hp} {S:St} {vs:List V} {ws:List Value} {n:Nat} {marks:List Nat} {Kv:yS->List V->Nat->Hp->Prop} {K:yS->List Value->Nat->List Nat->St->Bool},VS P B Sb c h S->RoV c r r'->Lr c S (dI B c h) marks->lN c S (dI B c h) vs ws->LKR P B Sb c h S Kv K->lv Ev vs n h Kv->lx E r' ws n marks S K=true
theorem CKR.mono{Kv:CV}{K:Cb} (q:CKR P B Sb c h S Kv K) (l:c.le c') (f:EX (dI B c h) S S' (dI B c' h')):CKR P B Sb c' h' S' Kv K:=
 fun c2 h2 S2 A A' e l2 f2=>q c2 h2 S2 A A' e (l.trans l2) (f.trans f2)
theorem LKR.mono{Kv:yS->List V->Nat->Hp->Prop}{K:yS->List Value->Nat->List Nat->St->Bool} (q:LKR P B Sb c h S Kv K) (l:c.le c') (f:EX (dI B c h) S S' (dI B c' h')):LKR P B Sb c' h' S' Kv K:=
 fun c2 h2 S2 vs ws n e l2 f2=>q c2 h2 S2 vs ws n e (l.trans l2) (f.trans f2)
theorem QS{A:VA}{A':bC} (a:AR c S C A A'):∀{l:List Nat} {k:List V->Prop} {k':List Value->Bool},QQ l A k->(∀vs ws,lN c S C vs ws->k vs->k' ws=true)->DR l A' k'=true:=by
 intro l;induction l with
 | nil=>intro k k' hv hk;exact hk [] [] .nil hv
 | cons i l ih=>
  intro k k' hv hk;have hv:Ui A.tmps i (fun v=>QQ l A fun vs=>k (v::vs)):=hv;show YJ A'.tmps i (fun v=>DR l A' fun vs=>k' (v::vs))=true;exact EJ a hv fun v w rv hv=>ih hv fun vs ws rs hv=>hk _ _ (.cons rv rs) hv
theorem aG7{A:VA}:∀{l:List Nat} {k:List V->Prop},QQ l A k->∃vs,k vs/\vs.length=l.length/\∀(j i:Nat) (v:V),l[j]? =some i->vs[j]? =some v->A.tmps.t.get i=some v:=by
 intro l;induction l with
 | nil=>intro k hv;exact⟨[],hv,rfl,fun j i v h=>by simp at h⟩
 | cons i l ih=>
  intro k hv;obtain⟨v,e,hv⟩:=aB8 _ _ _ (show Ui A.tmps i (fun v=>QQ l A fun vs=>k (v::vs))from hv);obtain⟨vs,h1,h2,h3⟩:=ih hv;refine⟨v::vs,h1,by simp [h2],fun j x u hx hu=>?_⟩;cases j with
  | zero=>simp at hx hu;subst hx hu;exact e
  | succ j=>simp at hx hu;exact h3 j x u hx hu
theorem aG8{g:Nat}{marks:List Nat}{k:VA->Prop}{k':bC->Bool} (hk:∀X X',AR c S C X X'->k X->k' X'=true):∀{l:List Nat} {vs:List V} {ws:List Value} {T:VTm} {T':Tm},lN c S C vs ws->AR c S C ⟨T,g⟩ ⟨T',marks,g⟩->
 gW (β:=List V->VTm->Prop) (fun _ T=>k ⟨T,g⟩) (fun i _ ih vs T=>match vs with | v::vs=>Av v T i fun T=>ih vs T | []=>False) l vs T->
 gW (β:=List Value->Tm->Bool) (fun _ T=>k' ⟨T,marks,g⟩) (fun i _ ih vs T=>match vs with | v::vs=>uC v T i fun T=>ih vs T | []=>false) l ws T'=true:=by
 intro l;induction l with
 | nil=>intro vs ws T T' _ a hv;exact hk _ _ a hv
 | cons i l ih=>
  intro vs ws T T' rs a hv;rw [bU]at hv ⊢;cases vs with
  | nil=>cases hv
  | cons v vs=>
   obtain⟨w,ws',rfl,rv,rs⟩:=rs.cons_inv;obtain⟨h1,h2⟩:=YY hv;show uC w T' i _=true;rw [Gm (by rw [show T'.n=T.n from a.n.symm];exact h1)];exact ih rs (a.put rv) h2
theorem AR.leaf{n g:Nat}{marks:List Nat} (m:Lr c S C marks):AR c S C ⟨⟨.leaf,n⟩,g⟩ ⟨⟨.leaf,n⟩,marks,g⟩:=⟨rfl,rfl,m,fun i v e=>(by cases e),fun i _=>rfl⟩
theorem TD{l:List Nat}{vs:List V}{ws:List Value}{n g:Nat}{k:VA->Prop}{k':bC->Bool}{marks:List Nat} (m:Lr c S C marks) (rs:lN c S C vs ws) (hv:SY l vs n g k) (hk:∀X X',AR c S C X X'->k X->k' X'=true):LK l ws n g marks k'=true:=aG8 hk rs (.leaf m) hv
variable{tb:sI}
theorem aPf (s:VS P B Sb c h S) (o:iW):VS P B Sb c h (S.new o)/\EX (dI B c h) S (S.new o) (dI B c h):=by
 have fr:EX (dI B c h) S (S.new o) (dI B c h):=⟨RJ _,fun j hj _=>gY (Nat.ne_of_lt hj),fun b l=> .inl l⟩;refine⟨⟨s.base.trans (.new S _),s.bB,fun i o' e eg=>?_,fun i vs t n e=>?_,s.inj,s.Gs,s.room,s.XU,fun i vs t n m b e e3=>⟨(s.Gb i vs t n m b e e3).1,rZ (s.Gb i vs t n m b e e3).2⟩,fun i vs t n b ws e' olds e e3 e4=>s.old i vs t n b ws e' olds e e3 (by rw [gY (by have:=(s.Gb i vs t n n b e e3).2;omega)]at e4;exact e4)⟩,fr⟩
 ·obtain⟨b,a,a1,a2,a3,a4,a5⟩:=s.ob i o' e eg
  exact⟨b,a,a1,a2,rZ a3,by rw [gY (by omega)];exact a4,a5.mono (.refl c) fr⟩
 ·obtain⟨b,ws,olds,sz,a1,a2,a3,a4,a5,a6⟩:=s.fW i vs t n e
  exact⟨b,ws,olds,sz,a1,a2,rZ a3,by rw [gY (by omega)];exact a4,a5.mono (.refl c) fr,a6⟩
theorem aCl{k:iW->Bool}{b:Nat}{a:iW} (e:S.obj b=some a):rE S.h b k=k a:=by
 rw [mZ];have e:S.h.get b=some a:=e;rw [e]
theorem aD2{l:Nat}{p:Prop} (hv:SP l h p):∃ls vs n ps as bo st pe,h l=some (.loop ls vs n ps as bo st pe)/\p:=by
 unfold SP at hv;split at hv
 ·rename_i e;exact⟨_,_,_,_,_,_,_,_,e,hv⟩
 ·cases hv
theorem aMx{X X':bC}{Kv:CV}{K:Cb}{A:VA}{pe:Option Code}{kn:bC} (e:X=X') (hn:kn=X') (h1:Kv .normal A h->K .normal X' S=true) (h2:Kv .ret A h->K .ret X' S=true) (h3:∀i,Kv (.exit i) A h->K (.exit i) X' S=true)
 (hv:UA pe (Kv .normal A h) (Kv .ret A h) (fun id=>Kv (.exit id) A h)):(match(generalizing:=false) pe with | none=>K .normal X S | some .ret=>K .ret X S | some (.exit id)=>K (.exit id) X S | _=>false)=true:=by
 subst e;unfold UA at hv;split at hv
 ·exact h1 hv
 ·exact h2 hv
 ·exact h3 _ hv
 ·cases hv
theorem Kt{Ev:VE}{E:Env} (r:ER P B Sb Ev E){A:VA}{A':bC} (s:VS P B Sb c h S) (a:AR c S (dI B c h) A A'){ls:List Nat}{vs:List V} (hl:vs.length=ls.length) (hg:∀(j i:Nat) (v:V),ls[j]? =some i->vs[j]? =some v->A.tmps.t.get i=some v){g:FuncId}{fa fc:List V}{fa' fc':List Value}
 (ra:lN c S (dI B c h) fa fa') (rc:lN c S (dI B c h) fc fc') {ps:List Tmp} {as bo:Code} {Kv:CV} {K:Cb} (k:CKR P B Sb c h S Kv K)
 (hv:PG Ev (.func g fa fc) ls vs A.tmps.n ps as bo h fun pe h'=>UA pe (Kv .normal A h') (Kv .ret A h') fun id=>Kv (.exit id) A h'):
 (zB S (.loop A'.tmps ps as bo .ready none) fun l S=>FL fa' [.func (.yield l) #[] #[]] fun as=>FL as fc' fun as=>E.call g as S fun _ S=>
  rE S.h l fun o=>match o with
   | .loop tm ps as bo st pe=>match st with
    | .busy=>false
    | _=>sR S l (.loop tm ps as bo .exhausted pe) fun S=>match pe with
     | none=>K .normal A' S
     | some .ret=>K .ret A' S
     | some (.exit id)=>K (.exit id) A' S
     | _=>false
   | _=>false)=true:=by
 obtain⟨l,h0,h1,h2⟩:=s.fresh;have hv:=hv l h0;rw [jB]
 obtain⟨s1,le,fr,hb⟩:=s.aFy h0 h1 h2 (o:= .loop ls vs A.tmps.n ps as bo .ready none) (ao:= .loop A'.tmps ps as bo .ready none) rfl (fun d S' C' le f=>⟨_,rfl,a.n,hl,fun j i v e1 e2=>by
  obtain⟨w,g1,g2⟩:=a.got i v (hg j i v e1 e2);exact⟨w,g1,g2.mono le f⟩⟩)
 rw [nA,nA];have ry:fI (c.putZ l S.n) (S.new (.loop A'.tmps ps as bo .ready none)) (dI B (c.putZ l S.n) (aK h l (.loop ls vs A.tmps.n ps as bo .ready none))) (.yield l) (.func (.yield S.n) #[] #[]):= .yield hb;refine r.aFA g s1 (((ra.mono le fr).app (.cons ry .nil)).app (rc.mono le fr)) ?_ hv;intro c' h' S' v w l2 f2 s2 rv hv;unfold Wg at hv;split at hv
 ·rename_i ls' vs' n' Su as' bo' st pe e
  obtain⟨b,ao,b1,b2,b3,b4,b5⟩:=s2.ob l _ e rfl;have hbb:=l2.Z _ _ hb;rw [hbb]at b1;injection b1 with b1;subst b1;obtain⟨T,rfl,b6,b7,b8⟩:=b5;show(rE S'.h S.n _)=true;rw [aCl b4];simp only
  have fin:∀{p:Prop},(UA pe (Kv .normal A (aK h' l (.loop ls' vs' n' Su as' bo' .exhausted pe))) (Kv .ret A (aK h' l (.loop ls' vs' n' Su as' bo' .exhausted pe))) fun id=>Kv (.exit id) A (aK h' l (.loop ls' vs' n' Su as' bo' .exhausted pe)))->
   (sR S' S.n (.loop T Su as' bo' .exhausted pe) fun S=>match(generalizing:=false) pe with
    | none=>K .normal A' S
    | some .ret=>K .ret A' S
    | some (.exit id)=>K (.exit id) A' S
    | _=>false)=true:=by
   intro _ hv;rw [gS]
   obtain⟨s3,f3⟩:=s2.Wk e rfl hbb (o:= .loop ls' vs' n' Su as' bo' .exhausted pe) (ao:= .loop T Su as' bo' .exhausted pe) rfl (fun S' C' f=>⟨T,rfl,b6,b7,fun j i v e1 e2=>by
    obtain⟨w,g1,g2⟩:=b8 j i v e1 e2;exact⟨w,g1,g2.mono (.refl _) f⟩⟩)
   have EV:=le.trans l2;have frA:=(fr.trans f2).trans f3;have aA:=a.mono EV frA;refine aMx (X:=A') (X':=A') (Kv:=Kv) (K:=K) (kn:=A') rfl rfl (fun hv=>k _ _ _ A A' .normal EV frA s3 aA hv) (fun hv=>k _ _ _ A A' .ret EV frA s3 aA hv) (fun i hv=>k _ _ _ A A' (.exit i) EV frA s3 aA hv) hv
  split at hv
  ·cases hv
  ·rename_i TN
   split
   ·exact aX rfl TN
   ·exact fin (p:=True) hv
 ·cases hv
theorem aD3{Ev:VE}{E:Env} (r:ER P B Sb Ev E){ro ro':Option Nat}{f:Operand}{ps:Array Tmp}{as bo:Code}{A:VA}{A':bC}{Kv:CV}{K:Cb} (s:VS P B Sb c h S) (uD:RoV c ro ro') (a:AR c S (dI B c h) A A') (k:CKR P B Sb c h S Kv K) (hv:(aAn tb ro f ps as bo).f Ev A h Kv):Cc E ro' f ps as bo A' S K=true:=by
 unfold aAn at hv;unfold Cc;refine cC a hv fun fv fw rf hv=>?_;obtain⟨vs,hv,hl,hg⟩:=aG7 hv;rcases uD with ⟨rfl,rfl⟩ | ⟨l,b,rfl,rfl,hb⟩
 ·have hv:PG Ev fv (aAm tb bo) vs A.tmps.n ps.toList as bo h _:=hv
  cases rf with
  | @func g fa fc fa' fc' la lc ha hc=>
   simp only;rw [jB];obtain⟨s1,f1⟩:=aPf s .defers
   have m1:Lr c (S.new .defers) (dI B c h) (S.n::A'.marks):=by
    have m:=a.marks.mono (.refl c) f1;refine⟨m.n0,List.nodup_cons.2 ⟨fun hx=>?_,m.nd⟩,fun d hd=>?_⟩
    ·exact Nat.lt_irrefl _ (a.marks.ok _ hx).2.1
    ·rcases List.mem_cons.1 hd with rfl | hd
     ·exact⟨a.marks.n0,xF _,fun x=>Nat.lt_irrefl _ (s.aGZ x),uU⟩
     ·exact m.ok d hd
   have a0:=a.mono (.refl c) f1;have a1:AR c (S.new .defers) (dI B c h) A ⟨A'.tmps,S.n::A'.marks,A'.g⟩:=⟨a0.n,a0.g,m1,a0.got,a0.abs⟩;exact Kt r s1 a1 hl hg ((⟨la,ha⟩:lN _ _ _ fa fa').mono (.refl c) f1) ((⟨lc,hc⟩:lN _ _ _ fc fc').mono (.refl c) f1) (fun c' h' S' X X' e l2 f2=>k c' h' S' X X' e l2 (f1.trans f2)) hv
  | _=>cases hv
 ·have hv:SP l h (PG Ev fv (aAm tb bo) vs A.tmps.n ps.toList as bo h _):=hv
  obtain⟨_,_,_,_,_,_,_,_,e,hv⟩:=aD2 hv;cases rf with
  | @func g fa fc fa' fc' la lc ha hc=>
   simp only;obtain⟨b',ao,b1,b2,b3,b4,b5⟩:=s.ob l _ e rfl;rw [hb]at b1;injection b1 with b1;subst b1;obtain⟨T,rfl,_⟩:=b5;rw [aCl b4];exact Kt r s a hl hg ⟨la,ha⟩ ⟨lc,hc⟩ k hv
  | _=>cases hv
theorem ZA{Ev:VE}{E:Env} (r:ER P B Sb Ev E){ro ro':Option Nat}{lv:Code->LpV}{lx:Code->LpT} (hl:∀a,aNy P B Sb Ev E ro ro' (lv a) (lx a)):∀(q:Code) {c:Cx} {h:Hp} {S:St} {A:VA} {A':bC} {Kv:CV} {K:Cb},
 VS P B Sb c h S->RoV c ro ro'->AR c S (dI B c h) A A'->CKR P B Sb c h S Kv K->(sM P tb ro lv q).f Ev A h Kv->(pP P tb lx q).f E ro' A' S K=true:=by
 intro q;induction q with
 | skip=>intro c h S A A' Kv K s uD a k hv;exact k c h S A A' .normal (.refl c) (.refl _ S) s a hv
 | label l=>intro c h S A A' Kv K s uD a k hv;exact k c h S A A' .normal (.refl c) (.refl _ S) s a hv
 | ret=>intro c h S A A' Kv K s uD a k hv;exact k c h S A A' .ret (.refl c) (.refl _ S) s a hv
 | exit i=>intro c h S A A' Kv K s uD a k hv;exact k c h S A A' (.exit i) (.refl c) (.refl _ S) s a hv
 | goto l=>intro c h S A A' Kv K s uD a k hv;cases hv
 | refuse l=>intro c h S A A' Kv K s uD a k hv;cases hv
 | rangeFunc f ps as bo _ _=>
  intro c h S A A' Kv K s uD a k hv;have hv:(aAn tb ro f ps as bo).f Ev A h Kv:=hv;exact aD3 r s uD a k hv
 | region i ops draw=>
  intro c h S A A' Kv K s uD a k hv;have hv:(aMq P ops draw).f Ev A h (fun A S=>Kv .normal A S):=hv;show(aGv P ops draw).f E A' S (fun A S=>K .normal A S)=true;exact aKe r s a (fun c' h' S' X X' l f s' x hv=>k c' h' S' X X' .normal l f s' x hv) hv
 | seq x y ihx ihy=>
  intro c h S A A' Kv K s uD a k hv;refine ihx s uD a ?_ (show(sM P tb ro lv x).f Ev A h (aFx P (IN tb y) (sM P tb ro lv y) Ev Kv)from hv);intro c' h' S' X X' e l f s' x hv;cases e with
  | normal=>
   unfold aFx at hv;show aBF P (IN tb y) (pP P tb lx y) E ro' K .normal X' S'=true;unfold aBF;simp only at hv ⊢;cases hj:IN tb y with
   | none=>simp only [hj]at hv ⊢;exact ihy s' (uD.mono l) x (k.mono l f) hv
   | some ls=>
    simp only [hj]at hv ⊢;refine QS x hv fun vs ws rs hv=>?_;unfold aJM at hv;unfold aES;rw [r.eM]at hv;cases hm:E.most with
    | zero=>rw [hm]at hv;cases hv
    | succ m=>
     rw [hm]at hv;obtain⟨h2,hle,hv⟩:=hv;obtain⟨s2,f2⟩:=s'.drop hle;have hv:SY ls vs X.tmps.n P.globals.size (fun A=>(sM P tb ro lv y).f Ev A h2 Kv):=hv;rw [x.n]at hv;show LK ls ws X'.tmps.n P.globals.size X'.marks (fun A=>(pP P tb lx y).f E ro' A S' K)=true;exact TD (x.marks.mono (.refl _) f2) (rs.mono (.refl _) f2) hv fun Y Y' y hv=>ihy s2 (uD.mono l) y ((k.mono l f).mono (.refl _) f2) hv
  | exit i=>exact k c' h' S' X X' (.exit i) l f s' x hv
  | ret=>exact k c' h' S' X X' .ret l f s' x hv
 | cond b x y ihx ihy=>
  intro c h S A A' Kv K s uD a k hv;have hv:(AK b).f A (fun v=>fS v ((sM P tb ro lv x).f Ev A h Kv) ((sM P tb ro lv y).f Ev A h Kv)):=hv;show(AQ b).f A' (fun v=>match v with | .bool b=>fX b ((pP P tb lx x).f E ro' A' S K) ((pP P tb lx y).f E ro' A' S K) | _=>false)=true;rw [kU];refine cC a hv fun v w rv hv=>?_;cases rv with
  | @bool b=>
   cases b with
   | true=>exact ihx s uD a k hv
   | false=>exact ihy s uD a k hv
  | _=>cases hv
 | block i x ih=>
  intro c h S A A' Kv K s uD a k hv;refine ih s uD a ?_ (show(sM P tb ro lv x).f Ev A h (aDO i Kv)from hv);intro c' h' S' X X' e l f s' x hv;cases e with
  | normal=>exact k c' h' S' X X' .normal l f s' x hv
  | ret=>exact k c' h' S' X X' .ret l f s' x hv
  | exit j=>
   show(match Nat.beq j i with | true=>K .normal X' S' | false=>K (.exit j) X' S')=true;have hv:Au j i (Kv .normal X h') (Kv (.exit j) X h'):=hv;unfold Au at hv;cases hj:Nat.beq j i with
   | true=>rw [hj]at hv;exact k c' h' S' X X' .normal l f s' x hv
   | false=>rw [hj]at hv;exact k c' h' S' X X' (.exit j) l f s' x hv
 | scope x ih=>
  intro c h S A A' Kv K s uD a k hv;exact ih s uD a k hv
 | loop x ih=>
  intro c h S A A' Kv K s uD a k hv;have hv:QQ (zD tb x) A (fun vs=>lv x Ev vs A.tmps.n h (aGY P tb x Kv)):=hv;show DR (zD tb x) A' (fun vs=>lx x E ro' vs A'.tmps.n A'.marks S (aOn P tb x K))=true;refine QS a hv fun vs ws rs hv=>?_;rw [<-a.n];refine hl x s uD a.marks rs ?_ hv;intro c' h' S' vs ws n e l f s' rs hv marks m;exact TD m rs hv fun X X' x hx=>k c' h' S' X X' e l f s' x hx
theorem aAr{Ev:VE}{E:Env} (r:ER P B Sb Ev E){ro ro':Option Nat}:∀(m:Nat) (a:Code),aNy P B Sb Ev E ro ro' (ZO P tb ro m a) (lpX P tb m a):=by
 intro m;induction m with
 | zero=>intro a c h S vs ws n marks Kv K s uD mk rs k hv;cases hv
 | succ m ih=>
  intro a
  have go:∀(j:Nat) {c:Cx} {h:Hp} {S:St} {vs:List V} {ws:List Value} {n:Nat} {marks:List Nat} {Kv:yS->List V->Nat->Hp->Prop} {K:yS->List Value->Nat->List Nat->St->Bool},VS P B Sb c h S->RoV c ro ro'->Lr c S (dI B c h) marks->lN c S (dI B c h) vs ws->LKR P B Sb c h S Kv K->YV P tb a (sM P tb ro (ZO P tb ro m) a) Ev Kv j vs n h->Fe P tb a (pP P tb (lpX P tb m) a) E ro' K j ws n marks S=true:=by
   intro j;induction j with
   | zero=>intro c h S vs ws n marks Kv K s uD mk rs k hv;cases hv
   | succ j ihj=>
    intro c h S vs ws n marks Kv K s uD mk rs k hv;obtain⟨h2,hle,hv⟩:=hv;obtain⟨s2,f2⟩:=s.drop hle;show LK (zD tb a) ws n P.globals.size marks (fun A=>(pP P tb (lpX P tb m) a).f E ro' A S (Za tb a (Fe P tb a (pP P tb (lpX P tb m) a) E ro' K j) K))=true;refine TD (mk.mono (.refl _) f2) (rs.mono (.refl _) f2) hv fun X X' x hv=>?_;refine ZA r ih a s2 uD x ?_ hv;intro c' h' S' Y Y' e l f s' y hv;have kk:=(k.mono (.refl _) f2).mono l f;cases e with
    | normal=>
     have hv:QQ (zD tb a) Y (fun vs=>YV P tb a (sM P tb ro (ZO P tb ro m) a) Ev Kv j vs Y.tmps.n h'):=hv;show DR (zD tb a) Y' (fun vs=>Fe P tb a (pP P tb (lpX P tb m) a) E ro' K j vs Y'.tmps.n Y'.marks S')=true;refine QS y hv fun vs ws rs hv=>?_;rw [<-y.n];exact ihj s' (uD.mono l) y.marks rs kk hv
    | exit i=>
     have hv:QQ (Fd tb a (.exit i)) Y (fun vs=>Kv (.exit i) vs Y.tmps.n h'):=hv;show DR (Fd tb a (.exit i)) Y' (fun vs=>K (.exit i) vs Y'.tmps.n Y'.marks S')=true;refine QS y hv fun vs ws rs hv=>?_;rw [<-y.n];exact kk c' h' S' vs ws _ _ (.refl _) (.refl _ S') s' rs hv _ y.marks
    | ret=>
     have hv:QQ (Fd tb a .ret) Y (fun vs=>Kv .ret vs Y.tmps.n h'):=hv;show DR (Fd tb a .ret) Y' (fun vs=>K .ret vs Y'.tmps.n Y'.marks S')=true;refine QS y hv fun vs ws rs hv=>?_;rw [<-y.n];exact kk c' h' S' vs ws _ _ (.refl _) (.refl _ S') s' rs hv _ y.marks
  intro c h S vs ws n marks Kv K s uD mk rs k hv;have hv:YV P tb a (sM P tb ro (ZO P tb ro m) a) Ev Kv Ev.most vs n h:=hv;rw [r.eM]at hv;exact go _ s uD mk rs k hv
theorem aKf{k:VTm->Prop}{k':Tm->Bool}{g:Nat}{marks:List Nat} (hk:∀T T',AR c S C ⟨T,g⟩ ⟨T',marks,g⟩->k T->k' T'=true):∀{vs:List V} {ws:List Value} {i:Nat} {T:VTm} {T':Tm},lN c S C vs ws->AR c S C ⟨T,g⟩ ⟨T',marks,g⟩->
 gW (β:=Nat->VTm->Prop) (fun _ T=>k T) (fun a _ ih i T=>Av a T i fun T=>ih (Nat.succ i) T) vs i T->
 gW (β:=Nat->Tm->Bool) (fun _ T=>k' T) (fun a _ ih i T=>uC a T i fun T=>bV (Nat.succ i) fun i=>ih i T) ws i T'=true:=by
 intro vs;induction vs with
 | nil=>intro ws i T T' rs a hv;rw [rs.rK];exact hk _ _ a hv
 | cons v vs ih=>
  intro ws i T T' rs a hv;obtain⟨w,ws',rfl,rv,rs⟩:=rs.cons_inv;rw [bU]at hv ⊢;obtain⟨h1,h2⟩:=YY hv;rw [Gm (by rw [show T'.n=T.n from a.n.symm];exact h1),bK];exact ih rs (a.put rv) h2
theorem aG9{k:VTm->Prop}{k':Tm->Bool}{g:Nat}{marks:List Nat} (hk:∀T T',AR c S C ⟨T,g⟩ ⟨T',marks,g⟩->k T->k' T'=true):∀{ps:List Tmp} {vs:List V} {ws:List Value} {T:VTm} {T':Tm},lN c S C vs ws->AR c S C ⟨T,g⟩ ⟨T',marks,g⟩->aJO ps vs T k->aA5 ps ws T' k'=true:=by
 intro ps;induction ps with
 | nil=>
  intro vs ws T T' rs a hv;cases vs with
  | nil=>rw [rs.rK];exact hk _ _ a hv
  | cons v vs=>cases hv
 | cons p ps ih=>
  intro vs ws T T' rs a hv;cases vs with
  | nil=>cases hv
  | cons v vs=>
   obtain⟨w,ws',rfl,rv,rs⟩:=rs.cons_inv;have hv:Av v T p (fun T=>aJO ps vs T k):=hv;obtain⟨h1,h2⟩:=YY hv;show uC w T' p (fun T=>aA5 ps ws' T k')=true;rw [Gm (by rw [show T'.n=T.n from a.n.symm];exact h1)];exact ih rs (a.put rv) h2
def Cx.at (c:Cx) (n:Nat):Cx:=⟨c.Z,c.G,c.Yz,n⟩
theorem Cx.at0 (c:Cx) (n:Nat):c.le0 (c.at n):=⟨fun _ _ e=>e,fun _ _ _ e=>e,fun _ _ e=>e⟩
theorem Fc.refl:Fc C S S C:=⟨bR _,fun _ _ _ _ _ _ e=>e,fun _ h=> .inl h⟩
theorem VS.at (s:VS P B Sb c h S) (n:Nat):VS P B Sb (c.at n) h S:=by
 refine⟨s.base,s.bB,fun i o e eg=>?_,fun i vs t m e=>?_,s.inj,s.Gs,s.room,s.XU,s.Gb,s.old⟩
 ·obtain⟨b,a,a1,a2,a3,a4,a5⟩:=s.ob i o e eg
  exact⟨b,a,a1,a2,a3,a4,a5.tO (c.at0 n) .refl⟩
 ·obtain⟨b,ws,olds,sz,a1,a2,a3,a4,a5,a6⟩:=s.fW i vs t m e
  exact⟨b,ws,olds,sz,a1,a2,a3,a4,a5.tO (c.at0 n) .refl,a6⟩
def kill (l:List Nat) (S:St):St:=l.foldl (fun S d=>S.set d .dead) S
theorem Dc:∀(l:List Nat) (S:St),(kill l S).n=S.n:=by
 intro l;induction l with
 | nil=>intro S;rfl
 | cons d l ih=>intro S;exact ih _
theorem GK:∀(l:List Nat) (S:St) {b:Nat},b∉l->(kill l S).obj b=S.obj b:=by
 intro l;induction l with
 | nil=>intro S b _;rfl
 | cons d l ih=>
  intro S b hb;have:=ih (S.set d .dead) (b:=b) (fun h=>hb (.tail _ h));refine Eq.trans this ?_;exact kY fun e=>hb (e▸ .head _)
theorem aHa:∀(l:List Nat) (S:St) (k:St->Bool),l.Nodup->(∀d∈l,S.obj d=some .defers)->OX l S k=k (kill l S):=by
 intro l;induction l with
 | nil=>intro S k _ _;rfl
 | cons d l ih=>
  intro S k hn ho;show(rE S.h d fun o=>match o with | .defers=>sR S d .dead fun S=>OX l S k | _=>false)=_;rw [aCl (ho d (.head _))];simp only;rw [gS];obtain⟨h1,h2⟩:=List.nodup_cons.1 hn;exact ih _ k h2 fun x hx=>by rw [kY (fun e:x=d=>h1 (e▸hx))];exact ho x (.tail _ hx)
theorem aFC{l:List Nat} (hd:∀d∈l,S.obj d=some .defers):Fc C S (kill l S) C:=by
 refine⟨Bu (Dc l S).symm,fun b h1 h2 vs e ck ho=>?_,fun _ h=> .inl h⟩;rw [GK l S (fun hb=>by rw [hd b hb]at ho;cases ho)];exact ho
theorem VS.kill (s:VS P B Sb c h S){l:List Nat} (hd:∀d∈l,Sb.n<=d/\¬dI B c h d/\S.obj d=some .defers):VS P B Sb c h (Am.kill l S):=by
 have fc:Fc (dI B c h) S (Am.kill l S) (dI B c h):=aFC fun d hx=>(hd d hx).2.2;have l0:c.le0 c:=⟨fun _ _ e=>e,fun _ _ _ e=>e,fun _ _ e=>e⟩;refine⟨⟨by rw [Dc];exact s.base.n,fun j hj=>?_⟩,s.bB,fun i o e eg=>?_,fun i vs t m e=>?_,s.inj,s.Gs,s.room,s.XU,fun i vs t n m b e e3=>by rw [Dc];exact s.Gb i vs t n m b e e3,fun i vs t n b ws e' olds e e3 e4=>s.old i vs t n b ws e' olds e e3 (by rw [GK l S (fun hx=>(hd b hx).2.1 (.inr ⟨i,.inr ⟨vs,t,n,n,e,e3⟩⟩))]at e4;exact e4)⟩
 ·rw [GK l S (fun hx=>by have:=(hd j hx).1;omega)]
  exact s.base.same j hj
 ·obtain⟨b,a,a1,a2,a3,a4,a5⟩:=s.ob i o e eg
  have hb:b∉l:=fun hx=>(hd b hx).2.1 (.inr ⟨i,.inl ⟨o,e,eg,a1⟩⟩);exact⟨b,a,a1,a2,by rw [Dc];exact a3,by rw [GK l S hb];exact a4,a5.tO l0 fc⟩
 ·obtain⟨b,ws,olds,sz,a1,a2,a3,a4,a5,a6⟩:=s.fW i vs t m e
  have hb:b∉l:=fun hx=>(hd b hx).2.1 (.inr ⟨i,.inr ⟨vs,t,m,m,e,a1⟩⟩);exact⟨b,ws,olds,sz,a1,a2,by rw [Dc];exact a3,by rw [GK l S hb];exact a4,a5.tO l0 fc,a6⟩
theorem aAs (s:VS P B Sb c h S){A:VA}{A':bC} (a:AR c S (dI B c h) A A'):∀{rs:List ResultVar} {k:List V->Prop} {k':List Value->Bool},MD P rs A h k->(∀vs ws,lN c S (dI B c h) vs ws->k vs->k' ws=true)->sZ P rs A' S k'=true:=by
 intro rs;induction rs with
 | nil=>intro k k' hv hk;exact hk [] [] .nil hv
 | cons x rs ih=>
  intro k k' hv hk;cases x with
  | tmp t=>
   have hv:Ui A.tmps t (fun v=>MD P rs A h fun vs=>k (v::vs)):=hv;show YJ A'.tmps t (fun v=>sZ P rs A' S fun vs=>k' (v::vs))=true;exact EJ a hv fun v w rv hv=>ih hv fun vs ws rs hv=>hk _ _ (.cons rv rs) hv
  | cell x t=>
   have e1:MD P (.cell x t::rs) A h k=match xI P t,cN P t with
    | some false,_=>Ui A.tmps x fun a=>aT a h fun v _=>MD P rs A h fun vs=>k (v::vs)
    | some true,some (n+1)=>Ui A.tmps x fun a=>bN (n+1) a h fun v _=>MD P rs A h fun vs=>k (v::vs)
    | _,_=>False:=rfl
   rw [e1]at hv;show YJ A'.tmps x (fun a=>PO P t a S fun v _=>sZ P rs A' S fun vs=>k' (v::vs))=true;split at hv
   ·rename_i h1
    refine EJ a hv fun v w rv hv=>?_;rw [Ik h1];exact aFz s rv (fun u y ru hu=>ih hu fun vs ws rs hv=>hk _ _ (.cons ru rs) hv) hv
   ·rename_i n h1 h2
    refine EJ a hv fun v w rv hv=>?_;rw [Il h1 h2];exact aB9 s (by omega) rv (fun u y ru hu=>ih hu fun vs ws rs hv=>hk _ _ (.cons ru rs) hv) hv
   ·cases hv
theorem Rm (s:VS P B Sb c h S){v:V}{w:Value} (rv:fI c S (dI B c h) v w){Kv:KV}{K:VK} (k:KR P B Sb c h S Kv K) (hv:bD v h Kv):K w S=true:=by
 obtain⟨h',u,hle,hf,hv⟩:=hv;obtain⟨d,O,le,s2,f2,r2⟩:=aPd s hle rv hf;exact k d h' S _ w le f2 s2 r2 (hv O)
theorem aMy{tb:FuncId->sI}{Ev:VE}{E:Env} (r:ER P B Sb Ev E) (f:FuncId){args:List V}{ws:List Value}{Kv:KV}{K:VK} (s:VS P B Sb c h S) (ra:lN c S (dI B c h) args ws) (k:KR P B Sb c h S Kv K) (hv:jI P tb f Ev args h Kv):fnX P tb f E ws S K=true:=by
 unfold jI at hv;unfold fnX;cases hf:P.funcs[f]? with
 | none=>simp only [hf]at hv
 | some fn=>
  simp only [hf]at hv ⊢;cases hb:fn.body with
  | none=>simp only [hb]at hv
  | some q=>
   simp only [hb]at hv ⊢;rw [bK];have m0:Lr (c.at S.n) S (dI B c h) []:=⟨bR _,.nil,fun d hd=>by cases hd⟩;refine aKf (c:=c.at S.n) (g:=P.globals.size) (fun T T' a hv=>?_) (ra.tO (c.at0 _) .refl) (.leaf m0) hv;refine ZA r (aAr r FC) q (s.at S.n) (.inl ⟨rfl,rfl⟩) a ?_ hv;intro c' h' S' X X' e l f s' x hv
   have fin:MD P fn.results.toList X h' (fun vs=>match vs with | [v]=>bD v h' Kv | vs=>bD (.tuple vs) h' Kv)->OX X'.marks S' (fun S=>sZ P fn.results.toList X' S fun vs=>match vs with | [v]=>K v S | vs=>K (.tuple ⟨vs⟩) S)=true:=by
    intro hv;have hm:=x.marks;have hn0:c'.n0=S.n:=l.n0;rw [aHa X'.marks S' _ hm.nd fun d hd=>(hm.ok d hd).2.2.2];have s1:VS P B Sb c' h' (kill X'.marks S'):=s'.kill fun d hd=>⟨by have:=(hm.ok d hd).1;have:=s.base.n;omega,(hm.ok d hd).2.2.1,(hm.ok d hd).2.2.2⟩;have s2:VS P B Sb (c'.at c.n0) h' (kill X'.marks S'):=s1.at c.n0;have fG:c.le (c'.at c.n0):=⟨fun i b e=>l.Z i b e,fun i n v e=>l.G i n v e,fun i v e=>l.Yz i v e,rfl⟩
    have f2:EX (dI B c h) S (kill X'.marks S') (dI B c' h'):=by
     refine⟨by rw [Dc];exact f.n,fun b h1 h2=>?_,f.sub⟩;rw [GK _ _ fun hx=>by have:=(hm.ok b hx).1;omega];exact f.same b h1 h2
    have fc:Fc (dI B c' h') S' (kill X'.marks S') (dI B c' h'):=aFC fun d hd=>(hm.ok d hd).2.2.2
    have x2:AR c' (kill X'.marks S') (dI B c' h') X ⟨X'.tmps,[],X'.g⟩:=
     ⟨x.n,x.g,⟨by rw [Dc];exact hm.n0,.nil,fun d hd=>by cases hd⟩,fun i v e=>let⟨w,p,q⟩:=x.got i v e;⟨w,p,(q.tO ⟨fun _ _ e=>e,fun _ _ _ e=>e,fun _ _ e=>e⟩ fc)⟩,x.abs⟩
    show sZ P fn.results.toList ⟨X'.tmps,[],X'.g⟩ (kill X'.marks S') (fun vs=>match vs with | [v]=>K v (kill X'.marks S') | vs=>K (.tuple ⟨vs⟩) (kill X'.marks S'))=true;refine aAs s1 x2 hv fun vs ws rs hv=>?_;have rs:lN (c'.at c.n0) (kill X'.marks S') (dI B (c'.at c.n0) h') vs ws:=rs.tO (c'.at0 c.n0) .refl;have kk:KR P B Sb (c'.at c.n0) h' (kill X'.marks S') Kv K:=fun c2 h2 S2 v w l2 f3=>k c2 h2 S2 v w (fG.trans l2) (f2.trans f3)
    match vs,ws,rs,hv with
    | [v],ws,rs,hv=>
     obtain⟨w,ws',rfl,rv,rs⟩:=rs.cons_inv;rw [rs.rK];exact Rm s2 rv kk hv
    | [],ws,rs,hv=>
     rw [rs.rK];exact Rm s2 (.tuple (a':=[]) rfl fun k v w e=>by simp at e) kk hv
    | a::b::vs,ws,rs,hv=>
     obtain⟨w,ws',rfl,rv,rs⟩:=rs.cons_inv;obtain⟨w2,ws2,rfl,Hk,rs⟩:=rs.cons_inv;exact Rm s2 (.tuple (lN.cons rv (.cons Hk rs)).len (lN.cons rv (.cons Hk rs)).rd) kk hv
   cases e with
   | normal=>exact fin hv
   | ret=>exact fin hv
   | exit i=>cases hv
theorem aKg{T:Tm}{g:Nat}:∀{ls:List Nat} {vs:List V},vs.length=ls.length->(∀(j i:Nat) (v:V),ls[j]? =some i->vs[j]? =some v->∃w,T.t.get i=some w/\fI c S C v w)->∃ws,lN c S C vs ws/\∀k':List Value->Bool,DR ls ⟨T,[],g⟩ k'=k' ws:=by
 intro ls;induction ls with
 | nil=>
  intro vs hl _;obtain rfl:vs=[]:=rY (by simpa using hl);exact⟨[],.nil,fun k'=>rfl⟩
 | cons i ls ih=>
  intro vs hl hg;cases vs with
  | nil=>simp at hl
  | cons v vs=>
   obtain⟨w,e,rv⟩:=hg 0 i v rfl rfl;obtain⟨ws,rs,hk⟩:=ih (vs:=vs) (by simpa using hl) fun j x u h1 h2=>hg (j+1) x u (by simpa using h1) (by simpa using h2);refine⟨w::ws,.cons rv rs,fun k'=>?_⟩;show YJ T i (fun v=>DR ls ⟨T,[],g⟩ fun vs=>k' (v::vs))=_;unfold YJ;rw [mZ,e];exact hk _
theorem Jg{l b:Nat}{st:LoopState}{pe:Option Code}{bb:Bool}{Kv:KV}{K:VK} (s:VS P B Sb c h S) (hb:c.Z l=some b) (k:KR P B Sb c h S Kv K) (hv:JI l st pe bb h Kv):
 ∃T ps as bo Mr pe',S.obj b=some (.loop T ps as bo Mr pe')/\K (.bool bb) (S.set b (.loop T ps as bo st pe))=true:=by
 unfold JI at hv;split at hv
 ·rename_i ls vs n ps as bo Mr pe' e
  obtain⟨b',ao,b1,b2,b3,b4,b5⟩:=s.ob l _ e rfl;rw [hb]at b1;injection b1 with b1;subst b1;obtain⟨T,rfl,b6,b7,b8⟩:=b5
  obtain⟨s3,f3⟩:=s.Wk e rfl hb (o:= .loop ls vs n ps as bo st pe) (ao:= .loop T ps as bo st pe) rfl (fun S' C' f=>⟨T,rfl,b6,b7,fun j i v e1 e2=>by
   obtain⟨w,g1,g2⟩:=b8 j i v e1 e2;exact⟨w,g1,g2.mono (.refl _) f⟩⟩)
  exact⟨T,ps,as,bo,Mr,pe',b4,k _ _ _ _ _ (.refl _) f3 s3 .bool hv⟩
 ·cases hv
theorem aD4{tb:FuncId->sI}{Ev:VE}{E:Env} (r:ER P B Sb Ev E) (l b:Nat){args:List V}{ws:List Value}{Kv:KV}{K:VK} (s:VS P B Sb c h S) (hb:c.Z l=some b) (ra:lN c S (dI B c h) args ws) (k:KR P B Sb c h S Kv K) (hv:Cy P tb Ev l args h Kv):Py P tb E b ws S K=true:=by
 unfold Cy at hv;split at hv
 ·rename_i ls vs n ps as bo st pe e
  obtain⟨rfl,hv⟩:=hv;obtain⟨b',ao,b1,b2,b3,b4,b5⟩:=s.ob l _ e rfl;rw [hb]at b1;injection b1 with b1;subst b1;obtain⟨T,rfl,rfl,b7,b8⟩:=b5;unfold Py;rw [aCl b4];simp only;have m0:Lr (c.at S.n) S (dI B c h) []:=⟨bR _,.nil,fun d hd=>by cases hd⟩;obtain⟨us,rs,hus⟩:=aKg (g:=P.globals.size) b7 b8;rw [hus];unfold XT at hv;refine TD (c:=c.at S.n) m0 (rs.tO (c.at0 _) .refl) hv fun X X' x hv=>?_;refine aG9 (g:=P.globals.size) (marks:=[]) (fun T1 T1' a hv=>?_) (ra.tO (c.at0 _) .refl) (show AR (c.at S.n) S (dI B c h) ⟨X.tmps,P.globals.size⟩ ⟨X'.tmps,[],P.globals.size⟩from⟨x.n,rfl,m0,x.got,x.abs⟩) hv
  have back:∀{c':Cx} {h':Hp} {S':St},(c.at S.n).le c'->EX (dI B c h) S S' (dI B c' h')->KR P B Sb (c'.at c.n0) h' S' Kv K:=by
   intro c' h' S' l1 f1 c2 h2 S2 v w l2 f2;have l3:c.le (c'.at c.n0):=⟨fun i b e=>l1.Z i b e,fun i n v e=>l1.G i n v e,fun i v e=>l1.Yz i v e,rfl⟩;exact k c2 h2 S2 v w (l3.trans l2) (f1.trans f2)
  refine ZA r (aAr r FC) as (s.at S.n) (.inr ⟨l,b,rfl,rfl,hb⟩) a ?_ hv;intro c' h' S' Y Y' e' l1 f1 s' y hv;cases e' with
  | exit i=>cases hv
  | ret=>cases hv
  | normal=>
   have hv:At l h' (fun S=>(sM P (tb (Io T.n bo)) (some l) (ZO P (tb (Io T.n bo)) (some l) FC) bo).f Ev Y S (aQ2 l Kv)):=hv;have TN:c'.Z l=some b:=l1.Z _ _ hb;unfold At at hv;split at hv
   ·rename_i ls2 vs2 n2 ps2 as2 bo2 pe2 e2
    obtain⟨b',ao,q1,q2,q3,q4,q5⟩:=s'.ob l _ e2 rfl;rw [TN]at q1;injection q1 with q1;subst q1;obtain⟨T2,rfl,q6,q7,q8⟩:=q5
    show(rE S'.h b fun o=>match o with
     | .loop tm ps as bo' .ready pe=>sR S' b (.loop tm ps as bo' .busy pe) fun S=>(pP P (tb (Io T.n bo)) (lpX P (tb (Io T.n bo)) FC) bo).f E (some b) Y' S (aLE b K)
     | _=>false)=true
    rw [aCl q4];simp only;rw [gS]
    obtain⟨s3,f3⟩:=s'.Wk e2 rfl TN (o:= .loop ls2 vs2 n2 ps2 as2 bo2 .busy pe2) (ao:= .loop T2 ps2 as2 bo2 .busy pe2) rfl (fun S' C' f=>⟨T2,rfl,q6,q7,fun j i v e1 e2=>by
     obtain⟨w,g1,g2⟩:=q8 j i v e1 e2;exact⟨w,g1,g2.mono (.refl _) f⟩⟩)
    refine ZA r (aAr r FC) bo s3 (.inr ⟨l,b,rfl,rfl,TN⟩) (y.mono (.refl _) f3) ?_ hv;intro c2 h2 S2 z0 z0' e3 l2 f2 s2 z hv;have NH:c2.Z l=some b:=l2.Z _ _ TN;have kk:=back (l1.trans l2) ((f1.trans f3).trans f2);unfold aLE;cases e3 with
    | normal=>
     obtain⟨T3,ps3,as3,bo3,st3,pe3,g1,g2⟩:=Jg (s2.at c.n0) NH kk hv;rw [aCl g1];simp only;rw [gS];exact g2
    | ret=>
     obtain⟨T3,ps3,as3,bo3,st3,pe3,g1,g2⟩:=Jg (s2.at c.n0) NH kk hv;rw [aCl g1];simp only;rw [gS];exact g2
    | exit i=>
     obtain⟨T3,ps3,as3,bo3,st3,pe3,g1,g2⟩:=Jg (s2.at c.n0) NH kk hv;rw [aCl g1];simp only;rw [gS];exact g2
   ·cases hv
 ·cases hv
def aNh (P:Program) (B:Nat->Prop) (Sb:St) (ovv:OvV) (ov:FuncId->Option (List Value->St->VK->Bool)):Prop:=
 (∀f,ovv f=none->ov f=none)/\∀f g,ovv f=some g->∃g',ov f=some g'/\∀{args:List V} {ws:List Value} {c:Cx} {h:Hp} {S:St} {Kv:KV} {K:VK},VS P B Sb c h S->lN c S (dI B c h) args ws->KR P B Sb c h S Kv K->g args h Kv->g' ws S K=true
theorem aKh{tb:FuncId->sI}{ovv:OvV}{ov:FuncId->Option (List Value->St->VK->Bool)} (ho:aNh P B Sb ovv ov) (most:Nat):∀n,ER P B Sb (aAh P tb ovv most n) (aGz P tb ov most n):=by
 intro n;induction n with
 | zero=>exact⟨rfl,rfl,fun f args ws c h S Kv K s ra k hv=>(by cases hv),fun l b args ws c h S Kv K s hb ra k hv=>(by cases hv)⟩
 | succ n ih=>
  refine⟨rfl,rfl,fun f args ws c h S Kv K s ra k hv=>?_,fun l b args ws c h S Kv K s hb ra k hv=>aD4 ih l b s hb ra k hv⟩;have hv:(match ovv f with | some g=>g args h Kv | none=>jI P tb f (aAh P tb ovv most n) args h Kv):=hv;show(match ov f with | some g=>g ws S K | none=>fnX P tb f (aGz P tb ov most n) ws S K)=true;cases hf:ovv f with
  | none=>
   rw [hf]at hv;rw [ho.1 f hf];exact aMy ih f s ra k hv
  | some g=>
   rw [hf]at hv;obtain⟨g',e,hg⟩:=ho.2 f g hf;rw [e];exact hg s ra k hv
end
section
variable (P:Program) (T:sI) (r:Option Nat) (E:VE)
theorem Uh (m:Nat) (k k':Nat->Code->CV->Prop) (h:∀D c K,k D c K=pL m False fun _=>k' D c K):∀(p:List Dir) (D:Nat) (c:Code) (ms:List Nat) (K:CV),tL P T r E p D c ms K k=pL m False fun _=>tL P T r E p D c ms K k':=by
 have hf:(False:Prop)=pL m False fun _=>False:=by cases m<;>rfl
 intro p;induction p with
 | nil=>intro D c ms K;exact h D c K
 | cons q p ih=>
  intro D c ms K
  cases q<;>cases c<;>first
   | exact hf
   | exact ih _ _ _ _
   | (cases D with
      | zero=>exact hf
      | succ D=>cases ms with
       | nil=>exact hf
       | cons m ms=>exact ih _ _ _ _)
end
section
variable{P:Program}{tb:FuncId->sI}
theorem XS (f:FuncId) (E:VE) (p:List Dir) (ms:List Nat) (vs:List V) (S:Hp) (K:KV) (hm:E.most≠0):Qv P tb f E p ms vs S K=Qw P tb f E p ms vs S K:=by
 obtain⟨m,hm⟩:=bG hm;unfold Qv Qw;cases P.funcs[f]? with
 | none=>rfl
 | some fn=>
  simp only;cases fn.body with
  | none=>rfl
  | some c=>
   simp only
   rw [Uh P (tb f) none E E.most _ (fun D c K=>match IN (tb f) c with
    | some l=>cH S fun S=>SY l vs fn.ntmps P.globals.size fun A=>(sM P (tb f) none (ZO P (tb f) none D) c).f E A S K
    | none=>False) (fun D c K=>by
     cases IN (tb f) c with
     | none=>rw [hm];rfl
     | some l=>rfl),hm]
   rfl
theorem QK{E:VE}{l n:Nat}{ls:List Nat}{vs args:List V}{ps:List Tmp}{as bo:Code}{st:LoopState}{pe:Option Code}{S:Hp}{K:KV} (h:S l=some (.loop ls vs n ps as bo st pe)) (e:ls=Ag tb n bo) (hr:XT P tb E n ps as bo l vs args S K):Cy P tb E l args S K:=by
 unfold Cy;simp only [h];exact⟨e,hr⟩
theorem aL{v:V}{S:Hp}{K:KV} (h:K v S):bD v S K:=⟨S,fun _=>v,fun _ _ h=>h,fun _=> .one (.lT v),fun _=>h⟩
theorem aE{S:Hp}{k:Hp->Prop} (h:k S):cH S k:=⟨S,fun _ _ h=>h,h⟩
theorem tI{S:Hp}{k:Hp->Prop} (S':Hp) (l:bO S' S) (h:k S'):cH S k:=⟨S',l,h⟩
theorem VE.Wi{E:VE}{c:FuncId}{args:List V}{S:Hp}{K:KV} (h:E.C c args S K):E.call c args S K:=
 ⟨S,fun _=>args,fun _ _ h=>h,fun _=>⟨rfl,fun j v u a b=>by rw [a]at b;injection b with b;subst b;exact .lT v⟩,fun _=>h⟩
theorem aGS{ov:OvV}{most n:Nat}{f:FuncId} (h:ov f=none) (args:List V) (S:Hp) (K:KV):(aAh P tb ov most (n+1)).C f args S K=jI P tb f (aAh P tb ov most n) args S K:=by
 show(match(generalizing:=false) ov f with | some g=>g args S K | none=>jI P tb f (aAh P tb ov most n) args S K)=_;rw [h]
theorem aMo{ov:OvV}{most n:Nat}{f:FuncId}{g:List V->Hp->KV->Prop} (h:ov f=some g) (args:List V) (S:Hp) (K:KV):(aAh P tb ov most (n+1)).C f args S K=g args S K:=by
 show(match(generalizing:=false) ov f with | some g=>g args S K | none=>jI P tb f (aAh P tb ov most n) args S K)=_;rw [h]
end
end Go.Am
namespace Go.Proofs.NQ
def ZL:Nat->Nat->Nat->Nat->Nat->Nat
 | 0,out,_,_,_=>out
 | f+1,out,a,e,m=>match Nat.beq e 0 with
  | true=>out
  | false=>ZL f (match Nat.beq (e%2) 1 with | true=>out*a%m | false=>out) (a*a%m) (e / 2) m
theorem Vu (f out a m:Nat):ZL f out a 0 m=out:=by cases f<;>rfl
theorem Vv{f out a e m:Nat} (h:0<e):ZL (f+1) out a e m=ZL f (if e%2=1 then out*a%m else out) (a*a%m) (e / 2) m:=by
 have e1:Nat.beq e 0=false:=by cases e with | zero=>omega | succ e=>rfl
 show(match Nat.beq e 0 with | true=>out | false=>_)=_;rw [e1];by_cases h2:e%2=1
 ·have e2:Nat.beq (e%2) 1=true:=by rw [h2];rfl
  simp only [e2,if_pos h2]
 ·have e2:Nat.beq (e%2) 1=false:=by have:e%2=0:=by omega
                                    rw [this];rfl
  simp only [e2,if_neg h2]
def iB (a b m:Nat):Nat:=(a%m+m-b%m)%m
def CO:Nat->Nat->Nat->Nat->Nat->Nat->Nat×Nat
 | 0,r,_,x,_,_=>(r,x)
 | f+1,r,s,x,y,m=>match Nat.beq s 0 with
  | true=>(r,x)
  | false=>CO f s (r%s) y (iB x (r / s*y%m) m) m
theorem Vw (f r x y m:Nat):CO f r 0 x y m=(r,x):=by cases f<;>rfl
theorem aGB{f r s x y m:Nat} (h:0<s):CO (f+1) r s x y m=CO f s (r%s) y (iB x (r / s*y%m) m) m:=by
 have e1:Nat.beq s 0=false:=by cases s with | zero=>omega | succ s=>rfl
 show(match Nat.beq s 0 with | true=>_ | false=>_)=_;rw [e1]
end Go.Proofs.NQ
namespace Go.Am
open Go.RowKit Go.MapKept
section
variable{P:Program}{S S' S0:Hp}{K:KV}
theorem dU{i:Nat}{a b:Ob}:aK (aK S i a) i b=aK S i b:=by
 funext j
 unfold aK;by_cases h:j=i
 ·rw [aJ h,aJ h]
 ·rw [aG h,aG h,aG h]
theorem aB2{i:Nat}{a:Ob} (h:S i=some a):aK S i a=S:=by
 funext j
 unfold aK;by_cases e:j=i
 ·rw [aJ e,e,h]
 ·rw [aG e]
theorem bO.refl (S:Hp):bO S S:=fun _ _ h=>h
theorem bO.trans{a b c:Hp} (h:bO a b) (k:bO b c):bO a c:=fun i o e=>k i o (h i o e)
theorem bO.aI{i:Nat}{a:Ob} (h:S i=none):bO S (aK S i a):=fun j o e=>by
 unfold aK;by_cases h1:j=i
 ·subst h1;rw [h]at e;cases e
 ·rw [aG h1];exact e
@[simp] theorem aTd {i o:Nat} {vs:List V} {t:TypeId} (h:S i=some (.row vs t)):aT (.ptr i o) S K=Gi vs o fun v=>K v S:=by
  show(match S i with | some (.row vs _)=>Gi vs o fun v=>K v S | _=>False)=_;rw [h]
@[simp] theorem tC {n i o:Nat} {vs:List V} {t:TypeId} (h:S i=some (.row vs t)):bN n (.ptr i o) S K=XQ vs o n fun l=>K (.agg l) S:=by
  show(match S i with | some (.row vs _)=>XQ vs o n fun l=>K (.agg l) S | _=>False)=_;rw [h]
theorem sJ{O:Tag}{cs:List Dt}{o:Nat}:aT (.pI O cs o) S K=Gi cs o fun d=>K (T (.sub O o) d) S:=rfl
theorem SU{n:Nat}{O:Tag}{cs:List Dt}{o:Nat}:bN n (.pI O cs o) S K=XQ cs o n fun l=>K (.agg (Tl O o l)) S:=rfl
theorem bA{off i o:Nat}{k:V->Prop}:aP off (.ptr i o) k=k (.ptr i (o+off)):=rfl
theorem ED{off o:Nat}{O:Tag}{cs:List Dt}{k:V->Prop}:aP off (.pI O cs o) k=k (.pI O cs (o+off)):=rfl
theorem dA{i o:Nat}{k:V->Prop}:oW P (.ptr i o) k=k (.ptr i o):=rfl
theorem Qx{b:Bool}{p q:Prop}:fS (.bool b) p q=if b then p else q:=by cases b<;>rfl
theorem aM{w:Bool}{op:KV->Prop}{k:KV}:PE w (.bool w) op S k=op k:=by cases w<;>rfl
theorem cD{O:Tag}{cs:List Dt}{n:Nat}{k:V->Prop}:bH (.list O cs n) k=k (.int .i64 (.ofNat n)):=rfl
theorem fH{size n:Nat}{O:Tag}{cs:List Dt}{j:IntKind}{i:Nat} (h:i<n){k:V->Prop}:cF size (.list O cs n) (.int j (.ofNat i)) k=k (.pI O cs (i*size)):=by
 show(i<n/\_)=_;simp [h]
theorem cI{α:Type}{l:List α}{i:Nat}{a:α} (h:l[i]? =some a){k:α->Prop}:Gi l i k=k a:=by unfold Gi;rw [h]
theorem dL{α:Type}{l:List α}{o n:Nat} (h:o+n<=l.length){k:List α->Prop}:XQ l o n k=k ((l.drop o).take n):=by unfold XQ;simp [h]
theorem bO.none{a b:Hp} (h:bO a b){i:Nat} (e:b i=none):a i=none:=by
 cases q:a i with
 | none=>rfl
 | some o=>rw [h i o q]at e;cases e
theorem aIJ{i j:Nat}{a:Ob} (e:aK S i a j=none):j≠i/\S j=none:=by
 by_cases h:j=i
 ·subst h;rw [aC]at e;cases e
 ·rw [aB h]at e;exact⟨h,e⟩
theorem HP{el:TypeId}{n:Nat}{zero:List Value}{z cs:List V} (hz:LO zero=some z) (Mp:z.length=n) (hc:cs.length=n) (ho:cs.all fR=true) (hk:∀j,S j=none->K (.own j 0 1 1) (aK S j (.row cs el))):aS el 1 zero [(0,n,.agg cs)] S K:=by
 unfold aS rL;rw [hz];show iG [(0,n,.agg cs)] (List.replicate 1 z).flatten _;unfold iG;refine⟨ho,hc,by simp [Mp],?_⟩;unfold iG;have:aY 0 cs (List.replicate 1 z).flatten=cs:=by simp [aY,hc,<-Mp]
 rw [this];exact hk
theorem LN{size i m c:Nat}{vs:List V}{t:TypeId} (h:S i=some (.row vs t)) (hl:vs.length=m*size){k:Nat->List V->Prop} (hk:k m vs):Tx size (.own i 0 m c) S k:=by
 unfold Tx;simp only [h];rw [dL (by omega),xG,lQ (by omega)];exact hk
theorem rC{t:TypeId}{k:IntKind}{x y:Int}{K:V->Prop}:aH P .lss t (.int k x) (.int k y) K=K (.bool (decide (x<y))):=by simp [aH,yJ,TU]
theorem KL{t:TypeId}{k:IntKind}{x y:Int}{K:V->Prop}:aH P .leq t (.int k x) (.int k y) K=K (.bool (decide (x<=y))):=by simp [aH,yJ,TU]
theorem QF{t:TypeId}{k:IntKind}{x y:Int}{K:V->Prop}:aH P .gtr t (.int k x) (.int k y) K=K (.bool (decide (y<x))):=by simp [aH,yJ,TU]
theorem CH{t:TypeId}{k:IntKind}{x y:Int}{K:V->Prop}:aH P .geq t (.int k x) (.int k y) K=K (.bool (decide (y<=x))):=by simp [aH,yJ,TU]
theorem KI{t:TypeId}{k:IntKind}{x y:Int}{K:V->Prop}:aH P .eql t (.int k x) (.int k y) K=K (.bool (decide (x=y))):=by simp [aH,yJ,TU]
theorem KJ{t:TypeId}{k:IntKind}{x y:Int}{K:V->Prop}:aH P .neq t (.int k x) (.int k y) K=K (.bool (!decide (x=y))):=by simp [aH,yJ,TU]
theorem KK{t:TypeId}{k:IntKind}{x y:Int}{K:V->Prop}:aH P .add t (.int k x) (.int k y) K=K (.int k (sH k (x+y))):=by simp [aH,yJ,TU]
theorem Ir{t:TypeId}{k:IntKind}{x y:Int}{K:V->Prop}:aH P .sub t (.int k x) (.int k y) K=K (.int k (sH k (x-y))):=by simp [aH,yJ,TU]
theorem Vy{t:TypeId}{k:IntKind}{x y:Int}{K:V->Prop}:aH P .mul t (.int k x) (.int k y) K=K (.int k (sH k (x*y))):=by simp [aH,yJ,TU]
theorem aGK{t:TypeId}{k:IntKind}{x y:Int} (hy:y≠0){K:V->Prop}:aH P .rem t (.int k x) (.int k y) K=K (.int k (x.tmod y)):=by simp [aH,yJ,TU,hy]
theorem wrap_small{n:Int} (h0: -9223372036854775808<=n) (h1:n<=9223372036854775807):sH .i64 n=n:=by
 rw [KW,Ek _ _ (by simpa [IntKind.min,IntKind.bits,IntKind.signed]using h0) (by simpa [IntKind.max,IntKind.bits,IntKind.signed]using h1)]
theorem aDK{i:Nat} (h:i<4611686018427387904):sH .i64 (Int.ofNat i+Int.ofNat 1)=Int.ofNat (i+1):=by
 rw [wrap_small]<;>simp<;>omega
end
def Deep (P:Program) (tb:FuncId->sI) (ov:OvV) (M:Nat):Nat->VE->Prop
 | 0,x=>x.most=M
 | n+1,x=>x.most=M/\(∀f g,ov f=some g->x.C f=g)/\∃y,Deep P tb ov M n y/\(∀f,ov f=none->∀args S K,x.C f args S K=jI P tb f y args S K)/\∀l args S K,x.R l args S K=Cy P tb y l args S K
section
variable{P:Program}{tb:FuncId->sI}{ov:OvV}{M:Nat}{x:VE}{S:Hp}{K:KV}
theorem Deep.most{n:Nat} (h:Deep P tb ov M n x):x.most=M:=by cases n with | zero=>exact h | succ n=>exact h.1
theorem Deep.call{n:Nat} (hx:Deep P tb ov M (n+1) x){f:FuncId} (hf:ov f=none){args:List V} (h:∀y,Deep P tb ov M n y->jI P tb f y args S K):x.call f args S K:=by
 obtain⟨h1,h2,y,h3,h4,_⟩:=hx;exact VE.Wi (by rw [h4 f hf];exact h y h3)
theorem Deep.round{n:Nat} (hx:Deep P tb ov M (n+1) x){l:Nat}{args:List V} (h:∀y,Deep P tb ov M n y->Cy P tb y l args S K):x.R l args S K:=by
 obtain⟨h1,h2,y,h3,h4,h5⟩:=hx;rw [h5];exact h y h3
theorem Deep.IQ{n:Nat} (hx:Deep P tb ov M (n+1) x){f:FuncId}{g:List V->Hp->KV->Prop} (hf:ov f=some g){args:List V} (h:g args S K):x.call f args S K:=by
 obtain⟨h1,h2,_⟩:=hx;exact VE.Wi (by rw [h2 f g hf];exact h)
theorem aGT (n:Nat):Deep P tb ov M n (aAh P tb ov M n):=by
 induction n with
 | zero=>rfl
 | succ n ih=>exact⟨rfl,fun f g h=>by funext args S K;exact aMo h args S K,_,ih,fun f h args S K=>aGS h args S K,fun l args S K=>rfl⟩
theorem NT{i o:Nat}{vs:List V}{t:TypeId}{v:V} (h:S i=some (.row vs t)) (ho:fR v=true) (hl:o<vs.length){k:Hp->Prop} (hk:k (aK S i (.row (aY o [v] vs) t))):mL 1 (.ptr i o) v S k:=by
 unfold mL;simp only [h];unfold vZ;cases v<;>first | (cases ho;done) | exact⟨rfl,by omega,hk⟩
theorem bL{v:V}{S':Hp} (l:bO S' S) (h:K v S'):bD v S K:=⟨S',fun _=>v,l,fun _=> .one (.lT v),fun _=>h⟩
theorem cA{t:TypeId}{cs:List V} (ho:cs.all fR=true) (hk:∀i,S i=none->K (.ptr i 0) (aK S i (.row cs t))):iD t (.agg cs) S K:=⟨ho,hk⟩
theorem cB{z:List Value}{l:List V}{t:TypeId} (hz:LO z=some l) (hk:∀i,S i=none->K (.ptr i 0) (aK S i (.row l t))):cW z t S K:=by
 unfold cW rL;rw [hz];exact hk
theorem aFg{t:TypeId}{i o:Nat} (h:Fl P t=some .ptr){k:V->Prop} (hk:k (.bool false)):aH P .eql t (.ptr i o) .Lq k:=⟨rfl,h,.inr rfl,(fun e=>by cases e),hk⟩
theorem Qy{sh:KSh}{z a:V}{ok:Bool}{m:Nat}{es:List (V×V)} (hm:S m=some (.map es)) (ha:SW sh a) (ho:∀e∈es,SW sh e.1) (h1:∀v,XR es a=some v->K (aAg ok v true) S) (h2:XR es a=none->K (aAg ok z false) S):Qt sh z ok (.yM m) a S K:=by
 unfold Qt;simp only [hm];exact⟨ha,ho,h1,h2⟩
theorem gV{n i:Nat}{vs cs:List V}{t:TypeId} (h:S i=some (.row vs t)) (ho:cs.all fR=true) (hc:cs.length=n) (hl:vs.length=n){k:Hp->Prop} (hk:k (aK S i (.row cs t))):mL n (.ptr i 0) (.agg cs) S k:=by
 unfold mL;simp only [h];refine⟨ho,hc,by omega,?_⟩;have:aY 0 cs vs=cs:=by simp [aY,hc,<-hl]
 rw [this];exact hk
theorem cO{n i:Nat}{vs:List V}{t:TypeId} (h:S i=some (.row vs t)) (hl:vs.length=n) (hk:K (.agg vs) S):bN n (.ptr i 0) S K:=by
 rw [tC h,dL (by omega),xG,lQ (by omega)];exact hk
theorem cJ{i:Nat}{vs:List V}{v:V}{k:V->Prop} (h:vs[i]? =some v) (hk:k v):tK i (.tuple vs) k:=by
 show Gi vs i k;rw [cI h];exact hk
theorem QP{w:Bool}{op:KV->Prop}{k:KV}:PE w Gh op S k=k Gh S:=by cases w<;>rfl
theorem tJ{w:Bool}{u:V}{op:Prop->Prop}{k:Prop}:Gj w (.bool w) u op k=op k:=by cases w<;>rfl
theorem SZ{op:Prop->Prop}{k:Prop}:Gj true (.bool false) Gh op k=k:=rfl
end
section
variable{P:Program}{S S' S0:Hp}{K:KV}{x:VE}
theorem LM{size n b:Nat}{j:IntKind}{i:Nat} (h:i<n){k:V->Prop}:cF size (.acc b n) (.int j (.ofNat i)) k=k (.vY b n (i*size)):=by
 show(i<n/\_)=_;simp [h]
theorem Qz{size n b o q c:Nat}{j:IntKind}{i:Nat} (h:i<q){k:V->Prop}:cF size (.ID b n o q c) (.int j (.ofNat i)) k=k (.vY b n (o+i*size)):=by
 show(i<q/\_)=_;simp [h]
theorem Jc{b n:Nat}{k:V->Prop}:bH (.acc b n) k=k (.int .i64 (.ofNat n)):=rfl
theorem Wj{b n o q c:Nat}{k:V->Prop}:bH (.ID b n o q c) k=k (.int .i64 (.ofNat q)):=rfl
theorem aB3{i n o:Nat}{vs:List V}{t:TypeId}{v:V} (h:S i=some (.fW vs t n)) (hv:vs[o]? =some v) (hk:K v S):aT (.vY i n o) S K:=by
 unfold aT;simp only [h];exact⟨trivial,by rw [cI hv];exact hk⟩
theorem aQX{i n o:Nat}{vs:List V}{t:TypeId}{v:V} (h:S i=some (.fW vs t n)) (ho:fR v=true) (hl:o<vs.length){k:Hp->Prop} (hk:k (aK S i (.fW (aY o [v] vs) t n))):mL 1 (.vY i n o) v S k:=by
 unfold mL;simp only [h];unfold vZ;cases v<;>first | (cases ho;done) | exact⟨trivial,rfl,by omega,hk⟩
theorem Zm{el size i n a:Nat}{vs:List V}{j:IntKind} (h:S i=some (.fW vs el n)) (hl:a<n){k:V->Prop} (hk:k (.ID i n (a*size) (n-a) (n-a))):LU el size (.acc i n) (some (.int j (.ofNat a))) none none S k:=by
 unfold LU;simp only [h];refine⟨trivial,trivial,?_⟩;show a<=n/\n<=n/\n<=n/\(a<n->k _)/\_;refine⟨by omega,by omega,by omega,fun _=>?_,fun e=>aX e (by omega)⟩;rw [eG];exact hk
theorem aMp{el size i n a:Nat}{vs:List V}{j:IntKind} (h:S i=some (.fW vs el n)) (h0:0<n) (hl:a<=n){k:V->Prop} (hk:k (.ID i n 0 a n)):LU el size (.acc i n) none (some (.int j (.ofNat a))) none S k:=by
 unfold LU;simp only [h];refine⟨trivial,trivial,?_⟩;show 0<=a/\a<=n/\n<=n/\(0<n->k _)/\_;refine⟨by omega,by omega,by omega,fun _=>?_,fun e=>aX e (by omega)⟩;simpa using hk
theorem aIU{el size i n:Nat}{vs:List V}{j:IntKind} (h:S i=some (.fW vs el n)){k:V->Prop} (hk:k (.emp i n)):LU el size (.acc i n) (some (.int j (.ofNat n))) none none S k:=by
 unfold LU;simp only [h];refine⟨trivial,trivial,?_⟩;show n<=n/\n<=n/\n<=n/\(n<n->k _)/\_;exact⟨by omega,by omega,by omega,fun e=>aX e (by omega),fun _=>hk⟩
theorem aDL{zero:List Value}{z vs:List V}{i n o q c:Nat}{t:TypeId} (h:S i=some (.fW vs t n)) (hz:LO zero=some z) (hq:0<q) (hl:o+(List.replicate q z).flatten.length<=vs.length){k:Hp->Prop} (hk:k (aK S i (.fW (aY o (List.replicate q z).flatten vs) t n))):Cw zero (.ID i n o q c) S k:=by
 obtain⟨p,rfl⟩:=bG (Nat.ne_of_gt hq);unfold Cw rL;simp only [hz,h];exact⟨trivial,hl,hk⟩
def del (S:Hp) (i:Nat):Hp:=fun j=>if j=i then none else S j
theorem Zj{i:Nat}:bO (del S i) S:=fun j o e=>by
 unfold del at e;by_cases h:j=i
 ·rw [aJ h]at e;cases e
 ·rw [aG h]at e;exact e
theorem LQ{i:Nat}:del S i i=none:=aJ rfl
theorem XG{l n:Nat}{ls:List Nat}{vs:List V}{ps:List Tmp}{as bo:Code}{pe:Option Code} (h:S l=some (.loop ls vs n ps as bo .ready pe)){k:Hp->Prop} (hk:k (aK S l (.loop ls vs n ps as bo .busy pe))):At l S k:=by
 unfold At;simp only [h];exact hk
theorem XH{l n:Nat}{ls:List Nat}{vs:List V}{ps:List Tmp}{as bo:Code}{st Mr:LoopState}{pe pe':Option Code}{b:Bool} (h:S l=some (.loop ls vs n ps as bo st pe)) (hk:K (.bool b) (aK S l (.loop ls vs n ps as bo Mr pe'))):JI l Mr pe' b S K:=by
 unfold JI;simp only [h];exact hk
theorem XI{l n:Nat}{ls:List Nat}{vs:List V}{ps:List Tmp}{as bo:Code}{st:LoopState}{pe:Option Code} (h:S l=some (.loop ls vs n ps as bo st pe)) (hs:st≠ .busy){k:Option Code->Hp->Prop} (hk:k pe (aK S l (.loop ls vs n ps as bo .exhausted pe))):Wg l S k:=by
 unfold Wg;simp only [h];cases st<;>first | exact aX rfl hs | exact hk
theorem QL{g n:Nat}{a c:List V}{ls:List Nat}{vs:List V}{ps:List Tmp}{as bo:Code}{k:Option Code->Hp->Prop} (hk:∀l,S l=none->x.call g (a++[.yield l]++c) (aK S l (.loop ls vs n ps as bo .ready none)) fun _ S=>Wg l S k):PG x (.func g a c) ls vs n ps as bo S k:=hk
theorem Fo{kn kr:Prop}{ke:Nat->Prop}:UA none kn kr ke=kn:=rfl
theorem GB{vs:List V}{o:Nat}{v:V} (h:o<vs.length):aY o [v] vs=vs.set o v:=by
 unfold aY;apply xE;intro j;rw [Nn];by_cases h1:j<o
 ·rw [aG (by omega),BE,gI (by rw [mP];omega),pK,aJ h1]
 ·by_cases h2:j=o
  ·subst h2
   rw [aJ rfl,aJ h,gI (by simp;omega),kI (by rw [mP];omega),mP];rw [show j-min j vs.length=0 by omega];rfl
  ·rw [aG (by omega),kI (by simp;omega),oT]
   simp only [jU,mP,oU,List.length_nil];rw [show o+(0+1)+(j-(min o vs.length+(0+1)))=j by omega]
end
section
variable{P:Program}{S S':Hp}{K:KV}{x:VE}
theorem aU{off i:Nat}{k:V->Prop}:aP off (.ptr i 0) k=k (.ptr i off):=by show k (.ptr i (0+off))=_;rw [eG]
theorem cR{v:V}{p:Prop} (h:DS v=true):aZ v v p=p:=propext ⟨fun q=>q.2.2,fun q=>⟨rfl,h,q⟩⟩
theorem cS{k:IntKind}{z:Int}{p:Prop}:aZ (.int k z) (.int k z) p=p:=cR rfl
theorem lW{b:Bool}{k:V->Prop}:SO .not (.bool b) k=k (.bool (!b)):=rfl
theorem gJ{v:V}{cs:List Dt}{n:Nat} (l:bO S' S) (h:Fi S' S v (.list cs n)) (hk:∀O,K (.list O cs n) S'):bD v S K:=
 ⟨S',fun O=> .list (O 0) cs n,l,fun _=> .one (.Ao h),fun _=>hk _⟩
end
end Go.Am
namespace Go.Mq
def RF:BitVec 64:=0x9E3779B97F4A7C15#64
def m1:BitVec 64:=0xBF58476D1CE4E5B9#64
def m2:BitVec 64:=0x94D049BB133111EB#64
def XB (s:BitVec 64):BitVec 64:=
 let a:=(s ^^^ (s >>> 30))*m1
 let b:=(a ^^^ (a >>> 27))*m2
 b ^^^ (b >>> 31)
def i1:BitVec 64:=0x96de1b173f119089#64
def i2:BitVec 64:=0x319642b2d24d8ec3#64
theorem aQr:m1*i1=1#64:=by decide
theorem aQs:m2*i2=1#64:=by decide
theorem aOy (z:BitVec 64) (k:Nat) (h:64<=3*k):(z ^^^ (z >>> k)) ^^^ ((z ^^^ (z >>> k)) >>> k) ^^^ ((z ^^^ (z >>> k)) >>> (2*k))=z:=by
 apply BitVec.eq_of_getLsbD_eq;intro i hi;simp only [BitVec.getLsbD_xor,BitVec.getLsbD_ushiftRight];have e1:z.getLsbD (2*k+(k+i))=false:=BitVec.getLsbD_of_ge _ _ (by omega);have e2:k+(2*k+i)=2*k+(k+i):=by omega
 have e3:k+(k+i)=2*k+i:=by omega
 rw [e2,e1,e3];cases z.getLsbD i<;>cases z.getLsbD (k+i)<;>cases z.getLsbD (2*k+i)<;>rfl
def unB (y:BitVec 64):BitVec 64:=
 let b:=y ^^^ (y >>> 31) ^^^ (y >>> 62)
 let b:=b*i2
 let a:=b ^^^ (b >>> 27) ^^^ (b >>> 54)
 let a:=a*i1
 a ^^^ (a >>> 30) ^^^ (a >>> 60)
theorem aID (s:BitVec 64):unB (XB s)=s:=by
 unfold unB XB;simp only;rw [aOy _ 31 (by omega),BitVec.mul_assoc,aQs,BitVec.mul_one,aOy _ 27 (by omega),BitVec.mul_assoc,aQr,BitVec.mul_one,aOy _ 30 (by omega)]
def aBJ (x:BitVec 64):Prop:=18446744073709551610<=x.toNat
theorem aOz (x:BitVec 64) (h:aBJ x):x=0xfffffffffffffffa#64\/x=0xfffffffffffffffb#64\/x=0xfffffffffffffffc#64\/x=0xfffffffffffffffd#64\/x=0xfffffffffffffffe#64\/x=0xffffffffffffffff#64:=by
 unfold aBJ at h;have hl:=x.isLt;have:x.toNat=18446744073709551610\/x.toNat=18446744073709551611\/x.toNat=18446744073709551612\/x.toNat=18446744073709551613\/x.toNat=18446744073709551614\/x.toNat=18446744073709551615:=by omega
 rcases this with h | h | h | h | h | h
 ·exact .inl (BitVec.eq_of_toNat_eq h)
 ·exact .inr (.inl (BitVec.eq_of_toNat_eq h))
 ·exact .inr (.inr (.inl (BitVec.eq_of_toNat_eq h)))
 ·exact .inr (.inr (.inr (.inl (BitVec.eq_of_toNat_eq h))))
 ·exact .inr (.inr (.inr (.inr (.inl (BitVec.eq_of_toNat_eq h)))))
 ·exact .inr (.inr (.inr (.inr (.inr (BitVec.eq_of_toNat_eq h)))))
theorem once (s:BitVec 64) (h:aBJ (XB s)):¬aBJ (XB (s+RF)):=by
 have e:=aID s;rcases aOz _ h with q | q | q | q | q | q
 all_goals
  rw [q]at e;rw [<-e];unfold aBJ;decide
end Go.Mq
namespace Go.Am
open Go.RowKit Go.MapKept
theorem mapM_some{α β:Type}{f:α->Option β}:∀{l:List α} {xs:List β},l.mapM f=some xs->xs.length=l.length/\∀(i:Nat) (a:α),l[i]? =some a->∃x,xs[i]? =some x/\f a=some x:=by
 intro l;induction l with
 | nil=>intro xs h;simp at h;subst h;exact⟨rfl,fun i a h=>by simp at h⟩
 | cons b l ih=>
  intro xs h;rw [Hr]at h;cases hb:f b with
  | none=>rw [hb]at h;cases h
  | some y=>
   rw [hb]at h;cases hl:l.mapM f with
   | none=>rw [hl]at h;cases h
   | some ys=>
    rw [hl]at h;have h:some (y::ys)=some xs:=h;injection h with h;subst h;obtain⟨i1,i2⟩:=ih hl;refine⟨by simp [i1],fun i a ha=>?_⟩;cases i with
    | zero=>simp at ha;subst ha;exact⟨y,rfl,hb⟩
    | succ i=>simpa using i2 i a (by simpa using ha)
def aC3 (P:Program) (g:TypeId->Option (List It)):List Field->Nat->Option (List It)
 | [],_=>some []
 | fd::fs,off=>if fd.offset=off then match g fd.type,cN P fd.type with
  | some its,some m=>if m=its.length then(aC3 P g fs (off+m)).map (its++ ·)else none
  | _,_=>none else none
def aGo (P:Program):Nat->TypeId->Option (List It)
 | 0,_=>none
 | f+1,t=>match P.underlying t with
  | some .bool=>some [.is]
  | some (.int .u64)=>some [.num]
  | some (.int .u8)=>some [.kind]
  | some (.int .i64)=>some [.int]
  | some .string=>some [.text]
  | some (.slice e)=>match aGo P f e,cN P e,P.bytesOf e with
   | some (i::its),some m,by0+1=>if m=its.length+1/\aC4 (i::its)<=by0+1 then(match i,its with | .num,[]=>some [.Ih] | i,its=>some [.list (i::its)])else none
   | _,_,_=>none
  | some (.struct fs)=>match aC3 P (aGo P f) fs.toList 0,cN P t with
   | some its,some m=>if m=its.length then some its else none
   | _,_=>none
  | _=>none
def Lay (P:Program) (w:World) (U:Rn) (S:St):Prop:=Rel P w U S w/\∀i o,S.obj i=some o->o.reads=true
section
variable{P:Program}{w:World}
theorem Lay.add{U:Rn}{S:St} (h:Lay P w U S) (vs:List Value) (e:TypeId) (L:Loc){cs:Array Value}{t:TypeId}{fz:Nat×Nat} (hb:w.heap[L.b]? =some (.cells cs t fz))
 (hc:∀(j:Nat) (v:Value),vs[j]? =some v->∃v',cs[L.s+j]? =some v'/\VR U v v') (hm:cN P e=some L.m) (hz:∀j,j<vs.length->¬(fz.1<=L.s+j/\L.s+j<fz.2)):
 Lay P w (U.put S.n L) (S.new (.cells vs e .rs))/\Ext U (U.put S.n L):=by
 obtain⟨h,hr⟩:=h;have TO:=h.dom S.n (bR _);have he:Ext U (U.put S.n L):=Rn.RX TO
 have vO:∀j M,U.put S.n L j=some M->(j=S.n/\M=L)\/(j≠S.n/\U j=some M):=fun j M hj=>by
  unfold Rn.put at hj;by_cases e:j=S.n
  ·rw [aJ e]at hj;injection hj with hj;exact .inl ⟨e,hj.symm⟩
  ·rw [aG e]at hj;exact .inr ⟨e,hj⟩
 have uR:∀j x,(S.new (.cells vs e .rs)).obj j=some x->(j=S.n/\x= .cells vs e .rs)\/(j≠S.n/\S.obj j=some x):=fun j x hx=>by
  rw [YN]at hx;by_cases e:j=S.n
  ·rw [aJ e]at hx;injection hx with hx;exact .inl ⟨e,hx.symm⟩
  ·rw [aG e]at hx;exact .inr ⟨e,hx⟩
 have WT:∀j x,(S.new (.cells vs e .rs)).obj j=some x->x.reads=true:=fun j x hx=>by
  rcases uR j x hx with ⟨_,rfl⟩ | ⟨_,hx⟩
  ·rfl
  ·exact hr j x hx
 have hlt:L.b<w.heap.size:=(Array.getElem?_eq_some_iff.1 hb).1;refine⟨⟨⟨fun g hg=>let⟨M,h1,h2⟩:=h.Oi g hg;⟨M,he _ _ h1,h2⟩,fun j x hx=>?_,fun j hj=>?_,fun j x hx=>?_,fun j M hj=>?_,fun i j a b M N Tc ha TN _ _ _ _ _=> .inl ⟨WT i a ha,WT j b TN⟩,fun j us e' olds hj i hi=>?_,h.base⟩,WT⟩,he⟩
 ·rcases uR j x hx with ⟨rfl,rfl⟩ | ⟨_,hx⟩
  ·exact⟨L,cs,t,fz,Rn.mK _ _ _,hb,fun j v hv=>let⟨v',a,b⟩:=hc j v hv;⟨v',a,b.mono he⟩,hm,hz⟩
  ·exact(h.OY j x hx).frame he fun _ _=>rfl
 ·have Xp:S.n+1<=j:=hj
  unfold Rn.put;rw [aG (by omega)];exact h.dom j (by omega)
 ·rcases uR j x hx with ⟨rfl,_⟩ | ⟨_,hx⟩
  ·exact xF _
  ·exact rZ (h.lt j x hx)
 ·rcases vO j M hj with ⟨_,rfl⟩ | ⟨_,hM⟩
  ·exact hlt
  ·exact h.loc j M hM
 ·have:=WT j _ hj
  simp [iW.reads]at this
def uT (P:Program) (w:World) (cs:List Value) (its:List It):Prop:=
 ∀(U:Rn) (S:St),Lay P w U S->∃U' S' vs ds,Ext U U'/\Lay P w U' S'/\SJ S S'/\lM U' vs cs/\RdA S' (fun _=>False) its vs ds
theorem SJ.none{S S':St} (h:SJ S S'):EX (fun _=>False) S S' (fun _=>False):=h.fr _
theorem uT.plain{v:Value}{it:It}{d:D} (hf:bW v=true) (hr:∀S,Rd S (fun _=>False) it v d):uT P w [v] [it]:=fun U S h=>
 ⟨U,S,[v],[d],.refl U,h,.refl S,.cons (.flat hf) (.nil U),rfl,rfl,fun j it' v' d' a b c=>by
  cases j with
  | zero=>simp at a b c;subst a b c;exact hr S
  | succ j=>simp at a⟩
theorem uT.append{a b:List Value}{x y:List It} (h:uT P w a x) (k:uT P w b y):uT P w (a++b) (x++y):=fun U S hl=>by
 obtain⟨U1,S1,v1,d1,e1,l1,x1,r1,s1⟩:=h U S hl;obtain⟨U2,S2,v2,d2,e2,l2,x2,r2,s2⟩:=k U1 S1 l1;refine⟨U2,S2,v1++v2,d1++d2,e1.trans e2,l2,x1.trans x2,(r1.mono e2).append r2,by simp [s1.len,s2.len],by simp [s1.Yi,s2.Yi],fun j it v d p q r=>?_⟩;have s1':=s1.fr x2.none;by_cases hj:j<x.length
 ·rw [gI hj]at p
  rw [gI (by rw [s1.len];exact hj)]at q;rw [gI (by rw [s1.Yi];exact hj)]at r;exact s1'.rd j it v d p q r
 ·rw [kI (by omega)]at p
  rw [kI (by rw [s1.len];omega),s1.len]at q;rw [kI (by rw [s1.Yi];omega),s1.Yi]at r;exact s2.rd _ it v d p q r
theorem aLs{its:List It}:∀{css:List (List Value)},(∀cs∈css,uT P w cs its)->∀(U:Rn) (S:St),Lay P w U S->∃(U':Rn) (S':St) (vss:List (List Value)) (ZK:List (List D)),Ext U U'/\Lay P w U' S'/\SJ S S'/\vss.length=css.length/\ZK.length=css.length/\
 (∀(k:Nat) (vs cs:List Value),vss[k]? =some vs->css[k]? =some cs->lM U' vs cs)/\∀(k:Nat) (vs:List Value) (ds:List D),vss[k]? =some vs->ZK[k]? =some ds->RdA S' (fun _=>False) its vs ds:=by
 intro css;induction css with
 | nil=>intro _ U S h;exact⟨U,S,[],[],.refl U,h,.refl S,rfl,rfl,by simp,by simp⟩
 | cons cs css ih=>
  intro rH U S h;obtain⟨U1,S1,v1,d1,e1,l1,x1,r1,s1⟩:=rH cs (.head _) U S h;obtain⟨U2,S2,vss,ZK,e2,l2,x2,n1,n2,r2,s2⟩:=ih (fun c hc=>rH c (.tail _ hc)) U1 S1 l1;refine⟨U2,S2,v1::vss,d1::ZK,e1.trans e2,l2,x1.trans x2,by simp [n1],by simp [n2],fun k vs cs' a b=>?_,fun k vs ds a b=>?_⟩
  ·cases k with
   | zero=>simp at a b;subst a b;exact r1.mono e2
   | succ k=>exact r2 k vs cs' (by simpa using a) (by simpa using b)
  ·cases k with
   | zero=>simp at a b;subst a b;exact s1.fr x2.none
   | succ k=>exact s2 k vs ds (by simpa using a) (by simpa using b)
theorem Ke{α:Type}{m:Nat}:∀{l:List (List α)},(∀x∈l,x.length=m)->∀(k j:Nat),j<m->l.flatten[k*m+j]? =(l[k]?).bind (·[j]?):=by
 intro l;induction l with
 | nil=>intro _ k j _;simp
 | cons x l ih=>
  intro h k j hj;have hx:=h x (.head _);cases k with
  | zero=>
   rw [OS,gI (by omega)];simp
  | succ k=>
   rw [OS,kI (by rw [hx,KP];omega),hx];rw [show(k+1)*m+j-m=k*m+j by rw [KP];omega,ih (fun y hy=>h y (.tail _ hy)) k j hj];simp
theorem aBt{α:Type}{m:Nat}:∀{l:List (List α)},(∀x∈l,x.length=m)->l.flatten.length=l.length*m:=by
 intro l;induction l with
 | nil=>intro _;simp
 | cons x l ih=>intro h;rw [OS,jU,h x (.head _),ih fun y hy=>h y (.tail _ hy),oU,KP];omega
end
section
variable{P:Program}{w:World}
theorem Kf{a:Addr}{n:Nat}{cs:List Value} (h:w.cells? 0 a n=some cs) (hn:0<n):∃c t fz,w.heap[a.block]? =some (.cells c t fz)/\a.spot=none:=by
 unfold World.cells? at h;rw [aJ (BG _)]at h;obtain⟨_,h2⟩:=mapM_some h;obtain⟨x,_,hx⟩:=h2 0 0 (by simp [hn]);have hx:w.cell? a=some x:=by simpa [Addr.add]using hx
 unfold World.cell? at hx;cases hb:w.heap[a.block]? with
 | none=>rw [hb]at hx;cases hx
 | some o=>
  rw [hb]at hx;cases o with
  | cells c t fz=>
   simp only at hx;cases hs:a.spot with
   | none=>exact⟨c,t,fz,rfl,rfl⟩
   | some s=>rw [hs]at hx;simp at hx
  | _=>cases hx
theorem aGp{b off n:Nat}{cs:List Value}{c:Array Value}{t:TypeId}{fz:Nat×Nat} (h:w.cells? 0 ⟨b,off,none⟩ n=some cs) (hb:w.heap[b]? =some (.cells c t fz)):cs.length=n/\∀(j:Nat) (v:Value),cs[j]? =some v->c[off+j]? =some v:=by
 unfold World.cells? at h;rw [aJ (BG _)]at h;obtain⟨h1,h2⟩:=mapM_some h;have h1:cs.length=n:=by simpa using h1
 refine⟨h1,fun j v hv=>?_⟩;have hj:j<n:=by rw [<-h1];exact(List.getElem?_eq_some_iff.1 hv).1
 obtain⟨x,hx,hc⟩:=h2 j j (by simp [hj]);rw [hv]at hx;injection hx with hx;subst hx;rw [rG]at hc;unfold World.cell? at hc;rw [hb]at hc;simpa using hc
variable{H:Type}{enc:TypeId×Value->H}
theorem aBu{e:TypeId}{x:Nat}:∀{l:List (DataW H)} {d:DataW H},d∈l->x∈d.weights P e->x∈DataW.weightsAll P e l:=by
 intro l;induction l with
 | nil=>intro d h;cases h
 | cons y l ih=>
  intro d h hx;rw [DataW.weightsAll];rcases List.mem_cons.1 h with rfl | h
  ·exact List.mem_append.2 (.inl hx)
  ·exact List.mem_append.2 (.inr (ih h hx))
theorem aGq{g:TypeId->Option (List It)}:∀{fs:List Field} {off:Nat} {its:List It},aC3 P g fs off=some its->∀(cs:List Value) (F:TypeId->List Value->Option (DataW H×List MemPlace)) (xs:List (DataW H×List MemPlace)),
 (fs.mapM fun f=>F f.type ((cs.drop f.offset).take (P.cellsOf f.type)))=some xs->cs.length=off+its.length->
 (∀(k:Nat) (f:Field) (x:DataW H×List MemPlace),fs[k]? =some f->xs[k]? =some x->∀(i:List It) (c:List Value),g f.type=some i->F f.type c=some x->uT P w c i)->uT P w (cs.drop off) its:=by
 intro fs;induction fs with
 | nil=>
  intro off its h cs F xs _ hl _;unfold aC3 at h;injection h with h;subst h;rw [oS (by simp at hl;omega)];exact fun U S hl=>⟨U,S,[],[],.refl U,hl,.refl S,.nil U,rfl,rfl,fun j it v d a=>by simp at a⟩
 | cons f fs ih=>
  intro off its h cs F xs hx hl rH;unfold aC3 at h;split at h
  ·rename_i aFY
   split at h
   ·rename_i i m hg hm
    split at h
    ·rename_i hmi
     cases hr:aC3 P g fs (off+m)with
     | none=>rw [hr]at h;cases h
     | some rest=>
      rw [hr]at h;have h:some (i++rest)=some its:=h;injection h with h;subst h;obtain⟨x1,x2⟩:=mapM_some hx;obtain⟨x,hx0,hF⟩:=x2 0 f rfl
      have hcm:P.cellsOf f.type=m:=by
       unfold Program.cellsOf;unfold cN at hm;rw [hm];rfl
      rw [hcm,aFY]at hF;have h1:uT P w ((cs.drop off).take m) i:=rH 0 f x rfl hx0 i _ hg hF
      have hxs:∃ys,xs=x::ys:=by
       cases xs with
       | nil=>simp at hx0
       | cons y ys=>simp at hx0;subst hx0;exact⟨ys,rfl⟩
      obtain⟨ys,rfl⟩:=hxs
      have hys:(fs.mapM fun f=>F f.type ((cs.drop f.offset).take (P.cellsOf f.type)))=some ys:=by
       rw [Hr]at hx;cases ha:F f.type ((cs.drop f.offset).take (P.cellsOf f.type))with
       | none=>rw [ha]at hx;cases hx
       | some y=>
        rw [ha]at hx;cases hb:(fs.mapM fun f=>F f.type ((cs.drop f.offset).take (P.cellsOf f.type)))with
        | none=>rw [hb]at hx;cases hx
        | some zs=>
         rw [hb]at hx;have hx:some (y::zs)=some (x::ys):=hx;injection hx with hx;injection hx with _ hx;rw [hx]
      have h2:=ih hr cs F ys hys (by rw [hl,jU];omega) fun k f' x' a b=>rH (k+1) f' x' (by simpa using a) (by simpa using b);have:=h1.append h2
      rwa [show(cs.drop off).take m++cs.drop (off+m)=cs.drop off by rw [<-Bn];exact List.take_append_drop _ _]at this
    ·cases h
   ·cases h
  ·cases h
end
section
variable{P:Program}{w:World}{H:Type}{enc:TypeId×Value->H}
theorem aH2{k:IntKind}{n:Int} (h:(Lit.int k n).wf=true):k.min<=n/\n<=k.max:=by
 unfold Lit.wf at h;simpa using h
theorem aGr{a:Addr}{len cap m:Nat}{e:TypeId}{its:List It}{els:List (DataW H×List MemPlace)}{F:List Value->Option (DataW H×List MemPlace)} (hm:its.length=m) (Lf:0<m) (hsz:cN P e=some m) (aSd:P.cellsOf e=m) (hlc:len<=cap)
 (hel:(List.range len).mapM (fun i=>(w.cells? 0 (a.add (i*m)) m).bind F)=some els) (hN:len<=140737488355328/\len*aC4 its<=140737488355328)
 (AO:cap=0\/∃c t fz,w.heap[a.block]? =some (.cells c t fz)/\a.spot=none)
 (hz:∀i,i<len*m->w.frozen? ⟨a.block,a.off+i,none⟩=false)
 (rH:∀x∈els,∀cs,F cs=some x->uT P w cs its):
 ∀(U:Rn) (S:St),Lay P w U S->∃U' S' v ds,Ext U U'/\Lay P w U' S'/\SJ S S'/\VR U' v (.slice (some a) len cap)/\Rd S' (fun _=>False) (.list its) v (.l ds):=by
 intro U S hl;rcases RH cap with hc0 | hc0
 ·have:len=0:=by omega
  subst this hc0;obtain⟨b,o,sp⟩:=a;refine⟨U,S,.slice (some ⟨b,o,some ((match sp with | none=>0 | some k=>k+1)+2)⟩) 0 0,[],.refl U,hl,.refl S,.DF ?_,.Yj⟩;cases sp<;>rfl
 ·rcases AO with AO | ⟨c,t,fz,hb,aH3⟩
  ·omega
  ·obtain⟨b,o,sp⟩:=a
   have aH3:sp=none:=aH3;subst aH3;obtain⟨h1,h2⟩:=mapM_some hel;have h1:els.length=len:=by simpa using h1
   let css:List (List Value):=(List.range len).map fun i=>(w.cells? 0 ((⟨b,o,none⟩:Addr).add (i*m)) m).getD []
   have aQl:∀i,i<len->∃cs x,css[i]? =some cs/\w.cells? 0 ⟨b,o+i*m,none⟩ m=some cs/\els[i]? =some x/\F cs=some x:=by
    intro i hi;obtain⟨x,hx,hF⟩:=h2 i i (by simp [hi]);rw [rG]at hF;cases vX:w.cells? 0 ⟨b,o+i*m,none⟩ m with
    | none=>rw [vX]at hF;cases hF
    | some cs=>
     rw [vX]at hF;refine⟨cs,x,?_,rfl,hx,hF⟩;show((List.range len).map fun i=>(w.cells? 0 ((⟨b,o,none⟩:Addr).add (i*m)) m).getD [])[i]? =some cs;rw [dO,Bi hi];show some ((w.cells? 0 ((⟨b,o,none⟩:Addr).add (i*m)) m).getD [])=some cs;rw [rG,vX];rfl
   have Hi:css.length=len:=by show((List.range len).map _).length=len;simp
   have aSe:∀cs∈css,uT P w cs its:=by
    intro cs vX;obtain⟨i,hi⟩:=Bh vX;have hil:i<len:=by rw [<-Hi];exact(List.getElem?_eq_some_iff.1 hi).1
    obtain⟨cs',x,g1,_,g3,g4⟩:=aQl i hil;rw [hi]at g1;injection g1 with g1;subst g1;exact rH x (CW g3) cs g4
   obtain⟨U1,S1,vss,ZK,e1,l1,x1,n1,n2,r1,s1⟩:=aLs aSe U S hl
   have hvl:∀vs∈vss,vs.length=m:=by
    intro vs LB;obtain⟨i,hi⟩:=Bh LB;have hil:i<ZK.length:=by rw [n2,<-n1];exact(List.getElem?_eq_some_iff.1 hi).1
    rw [(s1 i vs _ hi (aQ hil)).len,hm]
   have RQ:=aBt hvl
   have hA:∀(j:Nat) (v:Value),vss.flatten[j]? =some v->∃v',c[o+j]? =some v'/\VR U1 v v':=by
    intro j v hj
    have hjl:j<len*m:=by
     have:=(List.getElem?_eq_some_iff.1 hj).1;rw [RQ,n1,Hi]at this;exact this
    have hk:j / m<len:=Nat.div_lt_of_lt_mul (by rw [Nat.mul_comm];exact hjl);have hjm:j%m<m:=iY _ Lf;have ej:j=(j / m)*m+j%m:=by rw [Nat.mul_comm];exact(Nat.div_add_mod j m).symm
    rw [ej,Ke hvl _ _ hjm]at hj;obtain⟨cs,x,g1,g2,g3,g4⟩:=aQl (j / m) hk;cases hvk:vss[j / m]? with
    | none=>rw [hvk]at hj;cases hj
    | some vs=>
     rw [hvk]at hj;have hvr:=r1 _ vs cs hvk g1;obtain⟨v',PU,hr'⟩:=hvr.get hj;obtain⟨_,q2⟩:=aGp g2 hb;have:=q2 _ _ PU;exact⟨v',by rw [uO,<-ej]at this;exact this,hr'⟩
   have hB:∀j,j<vss.flatten.length->¬(fz.1<=o+j/\o+j<fz.2):=by
    intro j hj;have hjl:j<len*m:=by rw [RQ,n1,Hi]at hj;exact hj
    have:=hz j hjl;unfold World.frozen? at this;rw [hb]at this;intro⟨q1,q2⟩;simp at this;have:=this q1;omega
   obtain⟨l2,e2⟩:=l1.add vss.flatten e ⟨b,o,0,m⟩ hb hA hsz hB;have x2:=SJ.new S1 (.cells vss.flatten e .rs);refine⟨_,_,.slice (some ⟨S1.n,0,none⟩) len cap,ZK,e1.trans e2,l2,x1.trans x2,?_,?_⟩
   ·have:=VR.slice (U:=U1.put S1.n ⟨b,o,0,m⟩) (o:=0) (n:=len) (c:=cap) (Rn.mK U1 S1.n ⟨b,o,0,m⟩)
    exact this
   ·refine .row (e:=e) (ck:= .rs) rfl (xF _) (fun h=>h) uU (.inl rfl) (by rw [n2,Hi]) (by rw [RQ,n1,Hi,hm];omega) (fun ds hds=>?_) hN hlc (fun k ds j it v d a1 a2 a3 a4=>?_)
    ·obtain⟨i,hi⟩:=Bh hds
     have hil:i<vss.length:=by rw [n1,<-n2];exact(List.getElem?_eq_some_iff.1 hi).1
     exact(s1 i _ ds (aQ hil) hi).Yi
    ·have hjm:j<m:=by rw [<-hm];exact(List.getElem?_eq_some_iff.1 a2).1
     rw [hm,eG,Ke hvl k j hjm]at a3;cases hk:vss[k]? with
     | none=>rw [hk]at a3;cases a3
     | some vs=>
      rw [hk]at a3;exact((s1 k vs ds hk a1).fr x2.none).rd j it v d a2 a3 a4
theorem Ym{y:Nat}:∀{fs:List Field} {xs:List (DataW H×List MemPlace)} {j:Nat} {f:Field} {x:DataW H×List MemPlace},fs[j]? =some f->xs[j]? =some x->y∈x.1.weights P f.type->y∈DataW.weightsEach P (fs.map (·.type)) (xs.map (·.1)):=by
 intro fs;induction fs with
 | nil=>intro xs j f x h;simp at h
 | cons g fs ih=>
  intro xs j f x h1 h2 h3;cases xs with
  | nil=>simp at h2
  | cons z xs=>
   rw [Bp,Bp,DataW.weightsEach];cases j with
   | zero=>simp at h1 h2;subst h1 h2;exact List.mem_append.2 (.inl h3)
   | succ j=>exact List.mem_append.2 (.inr (ih (by simpa using h1) (by simpa using h2) h3))
theorem lay (sp:Nat->Bool) (AO:∀b,sp b=true):∀(F k:Nat) (t:TypeId) (cs:List Value) (d:DataW H) (ps:List MemPlace),DataW.trod enc P w 0 sp true F t cs=some (d,ps)->(∀b off,MemPlace.cell b off∈ps->w.frozen? ⟨b,off,none⟩=false)->
 (∀x∈d.weights P t,x<=reachBytes)->∀its,aGo P k t=some its->uT P w cs its:=by
 intro F;induction F with
 | zero=>intro k t cs d ps h;cases h
 | succ F ih=>
  intro k t cs d ps h hz hw its hi;cases k with
  | zero=>cases hi
  | succ k=>
   unfold aGo at hi;unfold DataW.trod at h;cases hu:P.underlying t with
   | none=>rw [hu]at hi;cases hi
   | some td=>
    rw [hu]at hi h;cases td with
    | bool=>
     injection hi with hi;subst hi
     match cs,h with
     | [.bool b],_=>exact uT.plain rfl fun S=> .is
    | int kd=>
     match cs,h with
     | [.int k' n],h=>
      simp only at h;split at h
      ·rename_i hk
       obtain⟨rfl,hwf⟩:=hk;obtain⟨r1,r2⟩:=aH2 hwf;cases k' with
       | u64=>
        injection hi with hi;subst hi;have r1:(0:Int)<=n:=r1;have r2:n<=18446744073709551615:=r2;obtain⟨m,rfl⟩:=Int.eq_ofNat_of_zero_le r1;exact uT.plain rfl fun S=> .num (z:=m) (by omega)
       | u8=>
        injection hi with hi;subst hi;have r1:(0:Int)<=n:=r1;have r2:n<=255:=r2;obtain⟨m,rfl⟩:=Int.eq_ofNat_of_zero_le r1;exact uT.plain rfl fun S=> .kind (z:=m) (by omega)
       | i64=>
        injection hi with hi;subst hi;have r1:(-9223372036854775808:Int)<=n:=r1;have r2:n<=9223372036854775807:=r2;exact uT.plain rfl fun S=> .int r1 (by omega)
       | _=>cases hi
      ·cases h
    | string=>
     injection hi with hi;subst hi
     match cs,h with
     | [.string s],h=>
      simp only at h;split at h
      ·injection h with h
       injection h with h _;subst h;obtain⟨⟨l⟩⟩:=s;have:=hw l.length (by simp [DataW.weights]);exact uT.plain rfl fun S=> .text (l:=l) (by unfold reachBytes at this;omega)
      ·cases h
    | slice e=>
     simp only at hi;split at hi
     ·rename_i i0 aLt m by0 hit hsz hby
      split at hi
      ·rename_i hm
       obtain⟨hm,aSf⟩:=hm;have hcell:P.cellsOf e=m:=by unfold Program.cellsOf;unfold cN at hsz;rw [hsz];rfl
       have aH4:(∀(U:Rn) (S:St),Lay P w U S->∃U' S' v ds,Ext U U'/\Lay P w U' S'/\SJ S S'/\lM U' [v] cs/\Rd S' (fun _=>False) (.list (i0::aLt)) v (.l ds))->uT P w cs its:=by
        intro Sr U S hl;obtain⟨U',S',v,ds,g1,g2,g3,g4,g5⟩:=Sr U S hl;refine⟨U',S',[v],[.l ds],g1,g2,g3,g4,?_⟩;split at hi
        ·injection hi with hi;subst hi
         exact⟨rfl,rfl,fun j it v' d' a b c=>by
          cases j with
          | zero=>simp at a b c;subst a b c;exact .Ih g5
          | succ j=>simp at a⟩
        ·injection hi with hi;subst hi
         exact⟨rfl,rfl,fun j it v' d' a b c=>by
          cases j with
          | zero=>simp at a b c;subst a b c;exact g5
          | succ j=>simp at a⟩
       match cs,h,aH4 with
       | [.slice none 0 0],_,aH4=>exact aH4 fun U S hl=>⟨U,S,_,[],.refl U,hl,.refl S,.cons (.flat rfl) (.nil U),.empty⟩
       | [.slice (some a) len cap],h,aH4=>
        simp only at h;split at h
        ·rename_i aQm
         rw [hcell]at h;cases aLu:(List.range len).mapM (fun i=>(w.cells? 0 (a.add (i*m)) m).bind (DataW.trod enc P w 0 sp true F e))with
         | none=>rw [aLu]at h;cases h
         | some els=>
          rw [aLu]at h;simp only [Hq,AO,if_true]at h;cases xO:(List.range (cap-len)).mapM (fun j=>(w.cells? 0 (a.add ((len+j)*m)) m).bind (DataW.trod enc P w 0 sp true F e))with
          | none=>rw [xO]at h;cases h
          | some rest=>
           rw [xO]at h;injection h with h;injection h with hd VV;subst hd VV;obtain⟨n1,n2⟩:=mapM_some aLu;obtain⟨n3,n4⟩:=mapM_some xO;have n1:els.length=len:=by simpa using n1
           have n3:rest.length=cap-len:=by simpa using n3
           have hwt:(els.length+rest.length)*P.bytesOf e<=reachBytes:=hw _ (by rw [DataW.weights,hu];simp);rw [hby,n1]at hwt
           have aOc:len*aC4 (i0::aLt)<=140737488355328:=by
            unfold reachBytes at hwt;have h1:len*aC4 (i0::aLt)<=len*by0.succ:=Nat.mul_le_mul_left _ aSf;have h2:len*by0.succ<=(len+rest.length)*by0.succ:=RG _ (Nat.le_add_right _ _);omega
           have aOd:len<=140737488355328:=by
            unfold reachBytes at hwt;have:len<=(len+rest.length)*by0.succ:=zA (Nat.le_add_right _ _) (Nat.le_mul_of_pos_right _ (Nat.succ_pos _));omega
           refine aH4 fun U S hl=>?_
           obtain⟨U',S',v,ds,g1,g2,g3,g4,g5⟩:=aGr (F:=DataW.trod enc P w 0 sp true F e) (its:=i0::aLt) (e:=e) (by rw [hm];rfl) (by omega) hsz hcell aQm.2.1 aLu ⟨aOd,aOc⟩ (by
            rcases RH cap with h0 | h0
            ·exact .inl h0
            ·right
             rcases RH len with h1 | h1
             ·obtain⟨x,_,hx⟩:=n4 0 0 (Bi (by omega))
              cases vX:w.cells? 0 (a.add ((len+0)*m)) m with
              | none=>rw [vX]at hx;cases hx
              | some c0=>
               rw [h1]at vX;simp only [VN,Bq]at vX;exact Kf (by simpa [Addr.add]using vX) (by omega)
             ·obtain⟨x,_,hx⟩:=n2 0 0 (Bi (by omega))
              cases vX:w.cells? 0 (a.add (0*m)) m with
              | none=>rw [vX]at hx;cases hx
              | some c0=>
               simp only [Bq]at vX;exact Kf (by simpa [Addr.add]using vX) (by omega)) (fun i hi=>by
            refine hz a.block (a.off+i) (List.mem_append.2 (.inl ?_));unfold MemPlace.row;refine List.mem_map.2 ⟨i,List.mem_range.2 ?_,rfl⟩;rw [n1];have:len*m<=(len+rest.length)*m:=RG _ (Nat.le_add_right _ _);omega) (fun x hx cs' hF=>by
            obtain⟨dx,px⟩:=x;refine ih k e cs' dx px hF (fun b off hb=>hz b off (List.mem_append.2 (.inr (List.mem_flatMap.2 ⟨(dx,px),List.mem_append.2 (.inl hx),hb⟩)))) (fun y hy=>hw y ?_) _ hit;rw [DataW.weights,hu];exact List.mem_cons_of_mem _ (List.mem_append.2 (.inl (aBu (List.mem_map.2 ⟨(dx,px),hx,rfl⟩) hy)))) U S hl
           exact⟨U',S',v,ds,g1,g2,g3,.cons g4 (.nil U'),g5⟩
        ·cases h
      ·cases hi
     ·cases hi
    | struct fs=>
     simp only at hi h
     have hi:∃m,aC3 P (aGo P k) fs.toList 0=some its/\cN P t=some m/\m=its.length:=by
      split at hi
      ·rename_i aTh m' h1 h2
       split at hi
       ·rename_i h3
        injection hi with hi;subst hi;exact⟨m',h1,h2,h3⟩
       ·cases hi
      ·cases hi
     obtain⟨mm,hi,hsz,hmm⟩:=hi;have hct:P.cellsOf t=mm:=by unfold Program.cellsOf;unfold cN at hsz;rw [hsz];rfl
     split at h
     ·rename_i hlen
      cases hxs:(fs.toList.mapM fun f=>DataW.trod enc P w 0 sp true F f.type ((cs.drop f.offset).take (P.cellsOf f.type)))with
      | none=>rw [hxs]at h;cases h
      | some xs=>
       rw [hxs]at h;injection h with h;injection h with hd VV;subst hd VV
       have:=aGq (w:=w) hi cs (fun t c=>DataW.trod enc P w 0 sp true F t c) xs hxs (by omega) (fun j f x hf hx i c hg hF=>by
        obtain⟨dx,px⟩:=x;refine ih k f.type c dx px hF (fun b off hb=>hz b off (List.mem_flatMap.2 ⟨(dx,px),CW hx,hb⟩)) (fun y hy=>hw y ?_) i hg;rw [DataW.weights,hu];exact Ym hf hx hy)
       rwa [xG]at this
     ·cases h
    | _=>cases hi
end
end Go.Am
namespace Go.Am
open Go.RowKit Go.ChangeShapes
section
variable{H:Type}{enc:TypeId×Value->H}{P:Program}{w:World}{base fuel:Nat}{spare:Nat->Bool}{held:Bool}{t e:TypeId}{k:IntKind}{n:Nat}{cs:List Value}
theorem ints_of_trod{x:DataW H×List MemPlace} (ht:P.underlying t=some (.array n e)) (he:P.underlying e=some (.int k)) (hc:P.cellsOf e=1) (hct:P.cellsOf t=n) (h:DataW.trod enc P w base spare held fuel t cs=some x){ns:List Int}
 (hx:x.1= .agg (ns.map fun i=> .lit (.int k i))):cs=ns.map (Value.int k):=by
 obtain⟨xs,m,rfl,rfl,hlen,hn,hel⟩:=DataW.trod_array ht h;simp only [DataW.agg.injEq]at hx;have hl:xs.length=ns.length:=by have:=iZ List.length hx;simpa using this
 apply xE;intro i;by_cases hi:i<n
 ·have h1:=hel i hi
  have hix:i<xs.length:=by omega
  rw [aQ hix]at h1;obtain⟨j,e1,e2,_⟩:=DataW.trod_int he h1;have h2:=iZ (·[i]?) hx;have So:i<ns.length:=by omega
  simp only [dO,aQ hix,aQ So,CY,e2,Option.some.injEq,DataW.lit.injEq,Lit.int.injEq,true_and]at h2;subst h2;rw [hc,jL]at e1;have h3:cs[i]? =((cs.drop i).take 1)[0]? :=by rw [pK,aJ (by omega),oT];simp
  rw [h3,e1];simp [aQ So]
 ·rw [FK (by omega),FK (by simp;omega)]
end
theorem var?_heap{P:Program}{w:World}{n:String}{g:Nat}{cs:Array Value} (hg:P.globalNamed n=some g) (h:w.var? P n=some cs):∃t fz,w.heap[g]? =some (.cells cs t fz):=by
 simp only [World.var?,hg,Hq]at h;split at h
 ·rename_i c t fr hb
  cases h;exact⟨t,fr,hb⟩
 ·cases h
theorem size_of_shaped{P:Program}{w:World} (h:w.ShapedOpen P){g:Nat} (hg:g<P.globals.size) (hk:(((begin P (fun _ _=>0) default).world.heap[g]?).bind Obj.row?).isSome=true):g<w.heap.size:=by
 obtain⟨⟨zero,t⟩,hz⟩:=Option.isSome_iff_exists.1 hk;obtain⟨cs,hc,_⟩:=h.1 g zero t hg hz;exact(Array.getElem?_eq_some_iff.1 hc).1
end Go.Am
namespace Go.Am
open Go.RowKit
theorem returns_open{H:Type}{enc:TypeId×Value->H}{a:Assume}{C:Checked}{os:Os}{f:FuncId}{fn:Func}{s:ChangeSpec}{X:World->Prop} (hX:∀w w':World,w.heap=w'.heap->X w->X w')
 (own:ownKnob C.prog.godebug=none) (started:os.Started) (aOq:C.prog.inits.idxOf? f=none) (hfn:C.prog.funcs[f]? =some fn)
 (witness:∃(w:World) (tape:Tape) (i:Input),w.os=os/\(w.forCall tape i).Shaped C.prog/\i.vars=[]/\Input.okWide C.prog (w.forCall tape i) .any w.heap.size f i/\
  ((s.pre enc C.prog fn [] false (w.forCall tape i).memory i.args/\X (w.forCall tape i).memory)/\sizedMet enc C.prog fn (OpenSpec.ofChange s) false (w.forCall tape i).memory i.args)/\a.holds C.prog (lone (Frame.enter C.prog f i.args .normal) [] (w.forCall tape i)))
 (aIw:∀(W:World) (base:Nat) (args:Array Value) (ds gs:List (DataW H)) (before:List MemPlace),(∀(j:Nat) t v,fn.params[j]? =some t->args[j]? =some v->Value.okWide C.prog W .any base t v)->DataW.Whole enc C.prog fn.params.toList s.vars false W args.toList ds gs before->
  (DataW.weightsEach C.prog (fn.params.toList++s.plain.varTypes C.prog) (ds++gs)).all (· <=reachBytes)=true->W.ShapedOpen C.prog->X W->
  Calls C.prog f args W fun e W'=>∃v,e= .returned v/\s.post enc C.prog fn false true false false W args v W'):
 ReturnsInHanded a C os f .any (fun w args=>(s.pre enc C.prog fn [] false w args/\X w)/\sizedMet enc C.prog fn (OpenSpec.ofChange s) false w args) (s.post enc C.prog fn false true false false):=by
 refine returnsInHanded_of_calls own started aOq witness ?_;intro w tape i _ hsh _ PL Pf _;obtain⟨_,_,_,fn',aSo,_,_,_,_,hval⟩:=PL;have e:fn'=fn:=Option.some.inj (aSo.symm.trans hfn);subst e;obtain⟨⟨⟨ds,gs,before,hw,_⟩,hx⟩,hz⟩:=Pf;have hw':=DataW.Whole.of_heap (w':=w.forCall tape i) (by rfl) hw;refine(aIw (w.forCall tape i) w.heap.size i.args ds gs before hval hw' (hz.weights hw) hsh (hX _ _ (by rfl) hx)).mono fun e W' ⟨v,he,hp⟩=>?_;subst he;exact ChangeSpec.post_blind hp
end Go.Am
