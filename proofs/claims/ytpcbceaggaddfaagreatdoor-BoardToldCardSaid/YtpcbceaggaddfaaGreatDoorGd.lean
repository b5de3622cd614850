/- VM: one operation, and calls. -/
import Derived.Test.YtpcbceaggaddfaaGreatDoorGc
import Derived.Maps.RangeWalk
import Derived.Sort.MapsRangeIn
import Derived.Test.YtpcbceaggaddfaaGreatDoorGb
import GoSem.ClaimJoined
import Derived.OpenShut
import Derived.LaidMore
import Derived.SizedLaws
import Derived.Stop.Joined
import Derived.Handed

set_option maxRecDepth 100000
set_option linter.unusedVariables false
namespace Go.Am
open Go.RowKit Go.MapKept
section
variable{P:Program}{B:Nat->Prop}{Sb:St}{c c' d:Cx}{h h':Hp}{S S':St}{C C':Nat->Prop}
theorem Bt (s:VS P B Sb c h S) (l:gA h' h){O:Nat->Tag} (le:c.le d) (e:cY B d h'=cY B c h'){vs us:List V}{ws:List Value} (ht:∀(k:Nat) (w:Value),ws[k]? =some w->JD d S (cY B d h') (O k) w)
 (r:kE c S (cY B c h) vs ws) (hf:FzL h' h O vs us):kE d S (cY B d h') us ws:=by
 have f2:yG (cY B c h) S S (cY B d h'):=by rw [e];exact(s.drop l).2
 obtain⟨g1,g2⟩:=hf;refine⟨by rw [g1];exact r.len,fun k u w e1 e2=>?_⟩;have hk:k<vs.length:=by rw [<-g1];exact(cZ.1 e1).1
 have ev:=aS hk;have hr:=r.rd k _ w ev e2;have hz:=g2 k _ u ev e1;cases hz with
 | rK=>exact hr.mono le f2
 | dat hfz=>
  have:=s.frz l hfz hr;exact aKA (by rw [e];exact this) (ht k w e2)
def aFF:List Value->List Value
 | .agg ⟨a⟩::l=>a++l
 | _=>[]
def Un:Value->List Value
 | .agg ⟨l⟩=>l
 | .tuple ⟨l⟩=>l++aFF l
 | w=>[w]
theorem aKB (s:VS P B Sb c h S) (l:gA h' h){v:V}{w:Value}{u:(Nat->Tag)->V} (r:fC c S (cY B c h) v w) (hf:∀O,Fz h' h O v (u O)):
 ∃d O,c.le d/\VS P B Sb d h' S/\yG (cY B c h) S S (cY B d h')/\fC d S (cY B d h') (u O) w:=by
 obtain⟨s1,f1⟩:=s.drop l;obtain⟨d,O,le,s2,e,ht⟩:=s1.names (Un w);have f2:yG (cY B c h) S S (cY B d h'):=by rw [e];exact f1
 refine⟨d,O,le,s2,f2,?_⟩;have hz:=hf O;generalize u O=x at hz;cases hz with
 | one hz=>
  cases hz with
  | rK=>exact r.mono le f2
  | dat hfz=>
   have hd:=s.frz l hfz r;have hp:Un w=[w]:=by cases hd<;>rfl
   exact aKA (by rw [e];exact hd) (ht 0 w (by rw [hp];rfl))
 | agg hz=>
  cases r with
  | agg la ha=>
   have:=Bt s l le e ht ⟨la,ha⟩ hz;exact .agg this.len this.rd
 | tup hz=>
  cases r with
  | @tuple a a' la ha=>
   have ht:∀(k:Nat) (w:Value),(a'++aFF a')[k]? =some w->JD d S (cY B d h') (O k) w:=ht;have:=Bt s l le e (ws:=a') (fun k w hk=>ht k w (by rw [fQ (cZ.1 hk).1];exact hk)) ⟨la,ha⟩ hz;exact .tuple this.len this.rd
 | @aOU as bs vs us hl hz=>
  cases r with
  | @tuple _ a' la ha=>
   have ht:∀(k:Nat) (w:Value),(a'++aFF a')[k]? =some w->JD d S (cY B d h') (O k) w:=ht;cases a' with
   | nil=>cases la
   | cons w0 rest=>
    have h0:=ha 0 _ w0 rfl rfl;cases h0 with
    | @agg _ Xs la0 ha0=>
     have hr:vs.length=rest.length:=by simpa using la
     have JT:kE c S (cY B c h) (as++vs) (Xs++rest):=by
      refine⟨by rw [bW,bW,la0,hr],fun k v w e1 e2=>?_⟩;rcases yL k as.length with hk | hk
      ·rw [fQ hk]at e1
       rw [fQ (by omega)]at e2;exact ha0 k v w e1 e2
      ·rw [iO hk]at e1
       rw [iO (by omega)]at e2;refine ha (k-as.length+1) v w ?_ ?_
       ·rw [KQ];exact e1
       ·rw [KQ,la0];exact e2
     have:=Bt s l le e (O:=fun k=>O (k+(vs.length+1))) (ws:=Xs++rest) (fun k w hk=>ht (k+(vs.length+1)) w (by
      rw [iO (by rw [rZ];omega),rZ,hr,Nat.add_sub_cancel];exact hk)) JT hz
     have lb:us.length=rest.length:=by
      have:=this.len;rw [bW,bW,hl,la0]at this;omega
     refine .tuple (by rw [rZ,rZ,lb]) fun k v w e1 e2=>?_;cases k with
     | zero=>
      injection e1 with e1;injection e2 with e2;subst e1 e2;refine .agg (by rw [hl,la0]) fun k v w e1 e2=>this.rd k v w ?_ ?_
      ·rw [fQ (cZ.1 e1).1];exact e1
      ·rw [fQ (cZ.1 e2).1];exact e2
     | succ k=>
      rw [KQ]at e1 e2;refine this.rd (bs.length+k) v w ?_ ?_
      ·rw [iO (by omega),Wv];exact e1
      ·rw [iO (by rw [hl,la0];omega),hl,la0,Wv];exact e2
structure ER (P:Program) (B:Nat->Prop) (Sb:St) (Ev:VE) (E:Env):Prop where
 eP:E.P=P
 eM:Ev.most=E.most
 eC:∀(f:FuncId) {args:List V} {ws:List Value} {c:Cx} {h:Hp} {S:St} {Kv:KV} {K:VK},VS P B Sb c h S->kE c S (cY B c h) args ws->KR P B Sb c h S Kv K->Ev.C f args h Kv->E.call f ws S K=true
 eR:∀(l b:Nat) {args:List V} {ws:List Value} {c:Cx} {h:Hp} {S:St} {Kv:KV} {K:VK},VS P B Sb c h S->c.Z l=some b->kE c S (cY B c h) args ws->KR P B Sb c h S Kv K->Ev.R l args h Kv->E.round b ws S K=true
theorem ER.aBF{Ev:VE}{E:Env} (r:ER P B Sb Ev E) (f:FuncId){args:List V}{ws:List Value}{Kv:KV}{K:VK} (s:VS P B Sb c h S) (ra:kE c S (cY B c h) args ws) (k:KR P B Sb c h S Kv K) (hv:Ev.call f args h Kv):E.call f ws S K=true:=by
 obtain⟨h',us,l,hf,hv⟩:=hv;obtain⟨s1,f1⟩:=s.drop l;obtain⟨d,O,le,s2,e,ht⟩:=s1.names ws;have f2:yG (cY B c h) S S (cY B d h'):=by rw [e];exact f1
 exact r.eC f s2 (Bt s l le e ht ra (hf O)) (fun c' h' S' v w a b=>k c' h' S' v w (le.trans a) (f2.trans b)) (hv O)
theorem aC3{Ev:VE}{E:Env} (r:ER P B Sb Ev E){A:VA}{A':aM} (s:VS P B Sb c h S) (a:AR c S (cY B c h) A A'){cl:Call}{Kv:KV}{K:VK} (k:KR P B Sb c h S Kv K) (hv:(aFk P cl).f Ev A h Kv):lU E A' cl S K=true:=by
 have hP:=r.eP;subst hP;unfold aFk at hv;split at hv
 ·rename_i hc
  split at hv
  ·rename_i t x ht ha
   unfold lU;rw [hc,ha,ht];simp only [LD,aO,rR];split at hv
   ·rename_i _ _ e hs
    refine bF a hv fun v w rv hv=>?_;rw [aEq hs];exact aC0 s rv (fun v w rv h=>k.here s rv h) hv
   ·rename_i _ _ hs hu
    refine bF a hv fun v w rv hv=>?_;rw [aEr hu];exact aC1 rv (fun v w rv h=>k.here s rv h) hv
   ·rename_i _ _ kt et hs hu
    refine bF a hv fun v w rv hv=>?_;exact aC4 s hu rv k hv
   ·cases hv
  ·cases hv
 ·rename_i hc
  split at hv
  ·rename_i sT xT x y ht ha
   unfold lU;rw [hc,ha,ht];simp only [LD,aO,rR];split at hv
   ·rename_i el hs hx
    split at hv
    ·rename_i info hi
     split at hv
     ·rename_i n z hn hz
      split at hv
      ·rename_i WG hsz
       have hsz:bP E.P el=some (n+1):=by
        have:=cV hsz;cases hq:bP E.P el with
        | none=>rw [hq]at this;simp at this
        | some m=>rw [hq]at this;simp at this;rw [this]
       refine bF a hv fun v w rv hv=>?_;refine bF a hv fun v2 w2 RZ hv=>?_;show oF E.P [sT,xT] w w2 S K=true;rw [WV hs hx hi hn hz WG];exact MZ s (by omega) hsz rv RZ k hv
      ·cases hv
     ·cases hv
    ·cases hv
   ·cases hv
  ·cases hv
 ·rename_i hc
  split at hv
  ·rename_i x y ha
   unfold lU;rw [hc,ha];simp only [LD,aO,rR];refine bF a hv fun v w rv hv=>?_;refine bF a hv fun v2 w2 RZ hv=>?_;exact Um (big:=false) rv RZ (fun v w rv h=>k.here s rv h) hv
  ·cases hv
 ·rename_i hc
  split at hv
  ·rename_i x y ha
   unfold lU;rw [hc,ha];simp only [LD,aO,rR];refine bF a hv fun v w rv hv=>?_;refine bF a hv fun v2 w2 RZ hv=>?_;exact Um (big:=true) rv RZ (fun v w rv h=>k.here s rv h) hv
  ·cases hv
 ·rename_i hc
  split at hv
  ·rename_i t x ht ha
   unfold lU;rw [hc,ha,ht];simp only [LD,aO,rR];split at hv
   ·rename_i el hs
    split at hv
    ·rename_i m zero hsz hz
     split at hv
     ·rename_i hl hf
      refine bF a hv fun v w rv hv=>?_;exact aAe s hs hsz hz hl hf rv (fun h' S' f s' hv=>k c h' S' JA (.tuple #[]) (.refl c) f s' (.tuple (a':=[]) rfl fun k v w e=>by simp at e) hv) hv
     ·cases hv
    ·cases hv
   ·cases hv
  ·cases hv
 ·rename_i hc
  split at hv
  ·rename_i dT ts x y ht ha
   unfold lU;rw [hc,ha,ht];simp only [LD,aO,rR];split at hv
   ·rename_i el hs
    split at hv
    ·rename_i m hsz
     refine bF a hv fun v w rv hv=>?_;refine bF a hv fun v2 w2 RZ hv=>?_;exact aC2 (ts:=ts) s hs hsz rv RZ k hv
    ·cases hv
   ·cases hv
  ·cases hv
 ·cases hv
 ·rename_i f hc
  unfold lU;rw [hc];refine UF a hv fun vs ws ra hv=>?_;refine bF a hv fun v w rv hv=>?_;unfold fF at hv;split at hv
  ·cases rv with
   | func la ld ha hd=>
    show(wQ _ ws fun l=>wQ l _ fun l=>E.call _ l S K)=true;rw [kL,kL];exact r.aBF _ s ((kE.app ⟨la,ha⟩ ra).app ⟨ld,hd⟩) k hv
  ·cases rv with
   | yield e=>exact r.eR _ _ s e ra k hv
  ·cases hv
 ·rename_i rc m hc
  unfold lU;rw [hc];refine UF a hv fun vs ws ra hv=>?_;refine bF a hv fun v w rv hv=>?_;unfold aMX at hv;split at hv
  ·rename_i t v'
   split at hv
   ·rename_i g hg
    cases rv with
    | iface rv=>
     show(match DG E.P t m with | some g=>E.call g _ S K | none=>false)=true;rw [hg];exact r.aBF _ s (.cons rv ra) k hv
   ·cases hv
  ·cases hv
theorem FW{A:VA}{A':aM} (a:AR c S C A A'){x:Option Operand}{k:Option V->Prop}{k':Option Value->Bool} (hv:(evO x).f A k) (hk:∀o o',OR' c S C o o'->k o->k' o'=true):QI A' x k'=true:=by
 cases x with
 | none=>exact hk _ _ .none hv
 | some x=>exact bF a hv fun v w rv hv=>hk _ _ (.some rv) hv
theorem aAf{A:VA}{A':aM} (s:VS P B Sb c h S) (a:AR c S (cY B c h) A A'){Ev:VE}{t:TypeId}{x:Operand}{lo hi mx:Option Operand}{Kv:KV}{K:VK} (k:∀v w,fC c S (cY B c h) v w->Kv v h->K w S=true) (hv:(Zv P t x lo hi mx).f Ev A h Kv):
 rQ A' x (fun x=>QI A' lo fun lo=>QI A' hi fun hi=>QI A' mx fun mx=>rE P t x lo hi mx S fun v=>K v S)=true:=by
 unfold Zv at hv;split at hv
 ·rename_i el he
  split at hv
  ·rename_i size hs
   refine bF a hv fun v w rv hv=>?_;refine FW a hv fun o1 o1' r1 hv=>?_;refine FW a hv fun o2 o2' r2 hv=>?_;refine FW a hv fun o3 o3' r3 hv=>?_;exact aFB s he hs rv r1 r2 r3 k hv
  ·cases hv
 ·split at hv
  ·rename_i hu
   split at hv
   ·refine bF a hv fun v w rv hv=>?_
    refine FW a hv fun o1 o1' r1 hv=>?_;refine FW a hv fun o2 o2' r2 hv=>?_;exact aFE hu rv r1 r2 k hv
   ·cases hv
  ·rename_i len el hu
   split at hv
   ·rename_i size hs
    refine bF a hv fun v w rv hv=>?_;refine FW a hv fun o1 o1' r1 hv=>?_;refine FW a hv fun o2 o2' r2 hv=>?_;refine FW a hv fun o3 o3' r3 hv=>?_;exact aFD hu hs rv r1 r2 r3 k hv
   ·cases hv
  ·cases hv
theorem Fp{A:VA}{A':aM} (s:VS P B Sb c h S) (a:AR c S (cY B c h) A A'){Ev:VE}{t:TypeId}{x y:Operand}{Kv:KV}{K:VK} (k:KR P B Sb c h S Kv K) (hv:(RF P t x y).f Ev A h Kv):
 rQ A' x (fun l=>rQ A' y fun c=>sZ P t l c S K)=true:=by
 unfold RF at hv;split at hv
 ·rename_i el he
  split at hv
  ·rename_i info zero hi hz
   split at hv
   ·rename_i n hl hn hf
    refine bF a hv fun v w rv hv=>?_;refine bF a hv fun v2 w2 RZ hv=>?_;exact aHQ s he hi hz hl hn hf rv RZ k hv
   ·cases hv
  ·cases hv
 ·cases hv
theorem Uo{A:VA}{A':aM} (s:VS P B Sb c h S) (a:AR c S (cY B c h) A A'){Ev:VE}{t:TypeId}{x ix:Operand}{ok:Bool}{Kv:KV}{K:VK} (k:KR P B Sb c h S Kv K) (hv:(Nx P t x ix ok).f Ev A h Kv):
 rQ A' x (fun x=>rQ A' ix fun ix=>NP P t x ix ok S K)=true:=by
 unfold Nx at hv;split at hv
 ·rename_i kt et ht
  split at hv
  ·rename_i sh z hs hz
   split at hv
   ·rename_i zv hzv
    refine bF a hv fun v w rv hv=>?_;refine bF a hv fun v2 w2 RZ hv=>?_;exact aC5 s ht hs hz hzv rv RZ k hv
   ·cases hv
  ·cases hv
 ·cases hv
theorem Fq{A:VA}{A':aM} (s:VS P B Sb c h S) (a:AR c S (cY B c h) A A'){Ev:VE}{t:TypeId}{m x y:Operand}{Kv:KV}{K:VK} (k:KR P B Sb c h S Kv K) (hv:(Ny P t m x y).f Ev A h Kv):
 rQ A' m (fun m=>rQ A' x fun x=>rQ A' y fun y=>yO P t m x y S fun S=>K undef S)=true:=by
 unfold Ny at hv;split at hv
 ·rename_i kt et ht
  split at hv
  ·rename_i sh hs
   refine bF a hv fun v w rv hv=>?_;refine bF a hv fun v2 w2 RZ hv=>?_;refine bF a hv fun v3 w3 rv3 hv=>?_;exact aAg s ht hs rv RZ rv3 k hv
  ·cases hv
 ·cases hv
theorem UH{Ev:VE}{E:Env} (r:ER P B Sb Ev E){A:VA}{A':aM} (s:VS P B Sb c h S) (a:AR c S (cY B c h) A A'){o:Oper}{Kv:KV}{K:VK} (k:KR P B Sb c h S Kv K) (hv:(opV P o).f Ev A h Kv):uQ E o A' S K=true:=by
 have kh:∀v w,fC c S (cY B c h) v w->Kv v h->K w S=true:=fun v w rv hk=>k.here s rv hk;unfold opV at hv;have hP:=r.eP;subst hP;split at hv<;>rename_i KG<;>try (unfold uQ;rw [KG])
 ·exact bF a hv kh
 ·exact bF a hv kh
 ·refine bF a hv fun v w rv hv=>?_
  refine bF a hv fun v1 w1 rv1 hv=>?_;refine bF a hv fun v2 w2 RZ hv=>?_;rw [aP]at hv;unfold cK at hv;split at hv
  ·rename_i b hva hvb
   cases rv;cases b with
   | true=>exact kh _ _ rv1 hv
   | false=>exact kh _ _ RZ hv
  ·cases hv
 ·split at hv
  ·rename_i z hz
   split at hv
   ·rename_i hf
    show LF E.P _ S K=true;rw [Ss hz hf];exact Zy s k hv
   ·cases hv
  ·cases hv
 ·exact bF a hv fun v w rv hv=>aFt s rv k hv
 ·have hx:(Yq E.P o).f E A' S K=uQ E o A' S K:=ML E o A' S K
  unfold uQ at hx;rw [KG]at hx;simp only at hx ⊢;rw [<-hx];unfold Yq;rw [KG];simp only;split at hv
  ·rename_i zero fields hz hu
   try simp only [hz,hu]
   split at hv
   ·rename_i pl hp
    try simp only [hp]
    split at hv
    ·rename_i hf ha
     try simp only [hf,ha]
     exact RH a hv fun l l' hl hv=>Fl s hl kh hv
    ·cases hv
   ·cases hv
  ·rename_i zero n elem hz hu
   try simp only [hz,hu]
   split at hv
   ·rename_i size hs
    try simp only [hs]
    split at hv
    ·rename_i hf
     try simp only [hf]
     exact RH a hv fun l l' hl hv=>Fl s hl kh hv
    ·cases hv
   ·cases hv
  ·cases hv
 ·have hx:(Yq E.P o).f E A' S K=uQ E o A' S K:=ML E o A' S K
  unfold uQ at hx;rw [KG]at hx;simp only at hx ⊢;rw [<-hx];unfold Yq;rw [KG];simp only;split at hv
  ·rename_i elem hs
   try simp only [hs]
   split at hv
   ·rename_i size zero hz Ps
    try simp only [hz,Ps]
    split at hv
    ·rename_i h1 h2
     try simp only [h1,h2]
     split at hv
     ·rename_i hf
      try simp only [hf]
      rw [zP];refine RH a hv fun l l' hl hv=>?_;have:=Ui (Sb:=Sb) (B:=B) s hl k hv;unfold Mx at this
      rwa [zP]at this
     ·cases hv
    ·cases hv
   ·cases hv
  ·cases hv
 ·split at hv
  ·rename_i h1
   refine bF a hv fun v w rv hv=>?_;show GQ E.P _ w S K=true;rw [WS h1];exact aBE s rv kh hv
  ·rename_i n h1 h2
   refine bF a hv fun v w rv hv=>?_;show GQ E.P _ w S K=true;rw [WT h1 h2];exact Uh s (by omega) rv kh hv
  ·cases hv
 ·split at hv
  ·rename_i n h1
   refine bF a hv fun v w rv hv=>?_;refine bF a hv fun v2 w2 RZ hv=>?_;show QG E.P _ w w2 S _=true;rw [Sq h1];refine aHO s rv RZ (fun h' S' f s' hk=>?_) hv;exact k c h' S' JA undef (.refl c) f s' (.tuple (a':=[]) rfl fun k v w e=>by simp at e) hk
  ·cases hv
 ·refine bF a hv fun v w rv hv=>?_
  show aHk E.P w (fun v=>K v S)=true;exact aFy rv kh hv
 ·split at hv
  ·refine bF a hv fun v w rv hv=>?_
   refine bF a hv fun v2 w2 RZ hv=>?_;rw [<-IY];exact aFG rv RZ kh hv
  ·refine bF a hv fun v w rv hv=>?_
   refine bF a hv fun v2 w2 RZ hv=>?_;rw [<-IY];exact aFz s.Gs rv RZ kh hv
 ·exact bF a hv fun v w rv hv=>aHP rv kh hv
 ·split at hv
  ·rename_i j kk h1 h2
   refine bF a hv fun v w rv hv=>?_;rw [aBg h1 h2];exact aFx rv kh hv
  ·cases hv
 ·split at hv
  ·rename_i t x hv0 hi
   refine bF a hv fun v w rv hv=>?_;unfold Tz at hi;split at hi
   ·cases hi
   ·rename_i d hd hu
    have hw:=kh _ _ (.iface (t:=t) rv) hv
    try simp only [hu]
    cases d<;>first | exact hw | exact(hd _ rfl).elim
   ·cases hi
  ·cases hv
 ·split at hv
  ·refine UF a hv fun vs ws ra hv=>?_
   refine UF a hv fun vs2 ws2 ra2 hv=>?_;exact kh _ _ (.func ra.len ra2.len ra.rd ra2.rd) hv
  ·split at hv
   ·rename_i x h1 h2
    try simp only [h1,h2]
    exact bF a hv fun v w rv hv=>kh _ _ (.DO rv) hv
   ·cases hv
  ·cases hv
 ·split at hv
  ·rename_i fd hf
   split at hv
   ·rename_i n hn
    refine bF a hv fun v w rv hv=>?_;rw [TH hf hn];exact aFu rv kh hv
   ·cases hv
  ·cases hv
 ·split at hv
  ·rename_i fd hf
   split at hv
   ·rename_i h1
    refine bF a hv fun v w rv hv=>?_;rw [El hf h1];exact Zz rv kh hv
   ·rename_i n h1 h2
    refine bF a hv fun v w rv hv=>?_;rw [En hf h1 h2];exact Uj rv kh hv
   ·cases hv
  ·cases hv
 ·split at hv
  ·rename_i el he
   split at hv
   ·rename_i n hn
    refine bF a hv fun v w rv hv=>?_;refine bF a hv fun v2 w2 RZ hv=>?_;rw [TJ he hn];exact aFv s rv RZ kh hv
   ·cases hv
  ·split at hv
   ·rename_i len n ha
    refine bF a hv fun v w rv hv=>?_;refine bF a hv fun v2 w2 RZ hv=>?_;exact aCZ ha rv RZ kh hv
   ·cases hv
 ·split at hv
  ·rename_i hu
   refine bF a hv fun v w rv hv=>?_;refine bF a hv fun v2 w2 RZ hv=>?_;rw [Sw hu];exact aAa rv RZ kh hv
  ·cases hv
 ·split at hv
  ·rename_i t x lo hi mx _ hb
   have:=aAf s a kh hv;unfold aJf at hb;cases mx<;>cases hi<;>first | exact this | cases hb
  ·cases hv
 ·exact Fp s a k hv
 ·exact ZG s k hv
 ·split at hv
  ·rename_i kv ht
   refine bF a hv fun v w rv hv=>?_;exact Oi s rv ht k hv
  ·cases hv
 ·split at hv
  ·rename_i kv ht
   refine bF a hv fun v w rv hv=>?_;exact Up s ht rv k hv
  ·cases hv
 ·refine bF a hv fun v w rv hv=>?_
  exact aAh s rv k hv
 ·refine bF a hv fun v w rv hv=>?_
  exact Uq s rv k hv
 ·exact Uo s a k hv
 ·exact Fq s a k hv
 ·exact Fq s a k hv
 ·refine bF a hv fun v w rv hv=>?_
  show aEw _ w (fun v=>K v S)=true;exact aFw rv kh hv
 ·exact aC3 r s a k hv
 ·cases hv
end
section
variable{P:Program}{B:Nat->Prop}{Sb:St}{c c' d:Cx}{h h':Hp}{S S':St}{C C':Nat->Prop}
def KSR (P:Program) (B:Nat->Prop) (Sb:St) (c:Cx) (h:Hp) (S:St) (kv:KSV) (k:aM->St->Bool):Prop:=
 ∀c' h' S' A A',c.le c'->yG (cY B c h) S S' (cY B c' h')->VS P B Sb c' h' S'->AR c' S' (cY B c' h') A A'->kv A h'->k A' S'=true
theorem KSR.mono{kv:KSV}{k:aM->St->Bool} (q:KSR P B Sb c h S kv k) (l:c.le c') (f:yG (cY B c h) S S' (cY B c' h')):KSR P B Sb c' h' S' kv k:=
 fun c2 h2 S2 A A' l2 f2=>q c2 h2 S2 A A' (l.trans l2) (f.trans f2)
theorem Fs (s:VS P B Sb c h S){v:V}{w:Value} (r:fC c S C v w) (ho:Bn v=true) (n:Nat):YK n w w=true:=by
 have hsl:∀b o n m,SS (.slice (some ⟨b,o,none⟩) n m) (.slice (some ⟨b,o,none⟩) n m)=true:=fun b o n m=>by
  show((Nat.beq b b&&Nat.beq o o)&&(Nat.beq n n&&Nat.beq m m))=true;simp
 have Pw:∀b o n m,SS (.slice (some ⟨b,o,some 0⟩) n m) (.slice (some ⟨b,o,some 0⟩) n m)=true:=fun b o n m=>by
  show((Nat.beq b b&&Nat.beq o o)&&(Nat.beq n n&&Nat.beq m m))=true;simp
 have hse:∀b o s,SS (.slice (some ⟨b,o,some (s+2)⟩) 0 0) (.slice (some ⟨b,o,some (s+2)⟩) 0 0)=true:=fun b o s=>by
  show((Nat.beq b b&&Nat.beq o o)&&Nat.beq s s)=true;simp
 have hpt:∀b o,SS (.pointer (some ⟨b,o,none⟩)) (.pointer (some ⟨b,o,none⟩))=true:=fun b o=>by
  show(Nat.beq b b&&Nat.beq o o)=true;simp
 have hmp:∀b,SS (.map (some b)) (.map (some b))=true:=fun b=>by
  show Nat.beq b b=true;simp
 cases r with
 | @int k z=>cases n<;>exact aCw k z
 | @bool b=>cases n<;>cases b<;>rfl
 | str=>cases n<;>(show ZW _ _=true;rw [CF];simp)
 | list ht hd=>
  cases hd with
  | nil=>cases n<;>rfl
  | emp=>cases n<;>exact hse _ _ _
  | @row b o n' cc sp _ _ _ _ AA _ _ _ _ _ _=>
   match sp,AA with
   | none,_=>cases n<;>exact hsl _ _ _ _
   | some 0,_=>cases n<;>exact Pw _ _ _ _
 | sS=>cases n<;>exact hpt _ _
 | nZ=>cases n<;>exact hpt _ _
 | nil=>cases n<;>rfl
 | acc e=>obtain⟨b,rfl⟩:=s.Gs _ _ _ e;cases n<;>exact Pw _ _ _ _
 | own=>cases n<;>exact hsl _ _ _ _
 | pO=>cases n<;>exact Pw _ _ _ _
 | ptr=>cases n<;>exact hpt _ _
 | sD=>cases n<;>rfl
 | Hw=>cases n<;>rfl
 | MP=>cases n<;>rfl
 | Hx=>cases n<;>rfl
 | tM=>cases n<;>exact hmp _
 | _=>cases ho
theorem Bu{p:V->Bool}{q:Value->Prop}{a:List V}{a':List Value} (r:kE c S C a a') (hp:a.all p=true) (hq:∀v w,fC c S C v w->p v=true->q w):∀w∈a',q w:=by
 intro w hw;obtain⟨k,hk⟩:=IF hw;have hlt:=(cZ.1 hk).1;have hl:=r.len;exact hq a[k] w (r.rd k a[k] w (aS (by omega)) hk) (dL.1 hp _ (sW (by omega)))
theorem Ft{f:Value->Value->Bool}:∀{l:List Value},(∀w∈l,f w w=true)->CJ f l l=true:=by
 intro l;induction l with
 | nil=>intro _;rfl
 | cons x l ih=>
  intro h;show(f x x&&CJ f l l)=true;rw [h x (.head _),ih fun y hy=>h y (.tail _ hy)];rfl
theorem Ur (s:VS P B Sb c h S){v:V}{w:Value} (r:fC c S C v w) (ho:Bo v=true):Rh w w=true:=by
 unfold Bo at ho;split at ho
 ·rename_i f a d
  rw [bT]at ho;cases r with
  | @func _ _ _ a' d' la ld ha hd=>
   show(Nat.beq f f&&(CJ (YK 2) a' a'&&CJ (YK 2) d' d'))=true;rw [Ft (Bu (⟨la,ha⟩:kE c S C a a') ho.1 fun v w r o=>Fs s r o 2),Ft (Bu (⟨ld,hd⟩:kE c S C d d') ho.2 fun v w r o=>Fs s r o 2)];simp
 ·exact Fs s r ho 3
theorem Us (s:VS P B Sb c h S){v:V}{w:Value} (r:fC c S C v w) (ho:Bp v=true):YL w w=true:=by
 unfold Bp at ho;split at ho
 ·rename_i cs
  cases r with
  | @agg _ a' la ha=>
   show Ix a' a'=true;have wK:=Bu (⟨la,ha⟩:kE c S C cs a') ho fun v w r o=>Ur s r o;clear la ha;induction a' with
   | nil=>rfl
   | cons x l ih=>
    show(Rh x x&&Ix l l)=true;rw [wK x (.head _),ih fun y hy=>wK y (.tail _ hy)];rfl
 ·rename_i uR
  have h0:=Ur s r ho;cases w<;>first | exact h0 | (cases r<;>first | exact absurd rfl (uR _) | (rename_i e;obtain⟨b,e⟩:=s.Gs _ _ _ e;cases e) | (rename_i ht hd;cases hd))
theorem aFH (s:VS P B Sb c h S){v:V}{w:Value} (r:fC c S C v w) (ho:XD v=true):JY w w=true:=by
 unfold XD at ho;split at ho
 ·rename_i cs
  cases r with
  | @tuple _ a' la ha=>
   show WL a' a'=true;have wK:=Bu (⟨la,ha⟩:kE c S C cs a') ho fun v w r o=>Us s r o;clear la ha;induction a' with
   | nil=>rfl
   | cons x l ih=>
    show(YL x x&&WL l l)=true;rw [wK x (.head _),ih fun y hy=>wK y (.tail _ hy)];rfl
 ·rename_i uR
  have h0:=Us s r ho;cases w<;>first | exact h0 | (cases r<;>first | exact absurd rfl (uR _) | (rename_i e;obtain⟨b,e⟩:=s.Gs _ _ _ e;cases e) | (rename_i ht hd;cases hd))
theorem Fu{ops:Array Oper}{o:Oper}{A:aM}{k:Bool->Bool} (hg:o.guard=none):wS ops o A k=k true:=by
 unfold wS;rw [hg]
theorem aBG{ops:Array Oper}{o o':Oper}{A:aM}{k:Bool->Bool}{j:Nat}{w:Bool}{g:Tmp} (hg:o.guard=some (j,w)) (hj:ops[j]? =some o') (hd:o'.dst=some g):wS ops o A k=NO A.tmps g fun v=>YZ w v k:=by
 unfold wS;rw [hg];simp only [hj,hd];rfl
theorem Jv{w:Bool}{v:V}{u:Value} (r:fC c S C v u){k:Bool->Prop} (hv:aE7 w v k):∃b,k b/\∀K:Bool->Bool,YZ w u K=K b:=by
 cases r with
 | @bool b=>cases b<;>cases w<;>exact⟨_,hv,fun K=>rfl⟩
 | @tuple a a' la ha=>
  cases a with
  | nil=>exact⟨false,hv,fun K=>rfl⟩
  | cons x l=>cases hv
 | _=>cases hv
theorem aFI{A:VA}{A':aM} (a:AR c S (cY B c h) A A') (s:VS P B Sb c h S){o:Oper}{kv:KSV}{k:aM->St->Bool} (hk:KSR P B Sb c h S kv k){v:V}{w:Value} (r:fC c S (cY B c h) v w)
 (hv:match o.dst with | some d=>Fi A d v (fun A=>kv A h) | none=>kv A h):lE A' o.dst w (fun A=>k A S)=true:=by
 cases hd:o.dst with
 | none=>rw [hd]at hv;exact hk c h S A A' (.refl c) (.refl _ S) s a hv
 | some d=>rw [hd]at hv;exact Jt a r hv fun X X' x hx=>hk c h S X X' (.refl c) (.refl _ S) s x hx
theorem aKC:fC c S C JA undef:= .tuple (a':=[]) rfl fun k v w e=>by simp at e
theorem UI{Ev:VE}{E:Env} (r:ER P B Sb Ev E){A:VA}{A':aM} (s:VS P B Sb c h S) (a:AR c S (cY B c h) A A'){ops:Array Oper}{o:Oper}{kv:KSV}{k:aM->St->Bool} (hk:KSR P B Sb c h S kv k) (hv:(doV P ops o).f Ev A h kv):QJ E ops o A' S k=true:=by
 have beh:∀{c' h' S' v w},c.le c'->yG (cY B c h) S S' (cY B c' h')->VS P B Sb c' h' S'->fC c' S' (cY B c' h') v w->(match o.dst with | some d=>Fi A d v (fun A=>kv A h') | none=>kv A h')->lE A' o.dst w (fun A=>k A S')=true:=
  fun l f s' rv hv=>aFI (a.mono l f) s' (hk.mono l f) rv hv
 unfold doV at hv;unfold QJ;cases hg:o.guard with
 | none=>
  rw [hg]at hv;rw [Fu hg];simp only at hv;show uQ E o A' S (fun v S=>lE A' o.dst v fun A=>k A S)=true;unfold aJg at hv;cases hd:o.dst with
  | none=>
   rw [hd]at hv;exact UH r s a (fun c' h' S' v w l f s' rv hv=>by have:=beh l f s' rv (by rw [hd];exact hv);rwa [hd]at this) hv
  | some d=>
   rw [hd]at hv;exact UH r s a (fun c' h' S' v w l f s' rv hv=>by have:=beh l f s' rv (by rw [hd];exact hv);rwa [hd]at this) hv
 | some jw=>
  obtain⟨j,w⟩:=jw;rw [hg]at hv;simp only at hv;cases hj:ops[j]? with
  | none=>simp only [hj]at hv
  | some o'=>
   simp only [hj]at hv;cases Zn:o'.dst with
   | none=>simp only [Zn]at hv
   | some g=>
    simp only [Zn]at hv;rw [aBG hg hj Zn]
    have key:∀(v:V) (u:Value) (q:KV),(∀{c' h' S' v w},c.le c'->yG (cY B c h) S S' (cY B c' h')->VS P B Sb c' h' S'->fC c' S' (cY B c' h') v w->q v h'->lE A' o.dst w (fun A=>k A S')=true)->fC c S (cY B c h) v u->aB w v (fun k=>(opV P o).f Ev A h k) h q->
     YZ w u (fun b=>dF b (uQ E o A' S fun v S=>lE A' o.dst v fun A=>k A S) (lE A' o.dst undef fun A=>k A S))=true:=by
     intro v u q hq rv hv;obtain⟨b,hb,e⟩:=Jv rv hv;rw [e];cases b with
     | true=>exact UH r s a (fun c' h' S' v w l f s' rv hv=>hq l f s' rv hv) hb
     | false=>exact hq (.refl c) (.refl _ S) s aKC hb
    cases hd:o.dst with
    | none=>
     rw [hd]at hv;refine xJ a hv fun v u rv hv=>?_;rw [aP]at hv;have:=key v u _ (fun l f s' rv hv=>beh l f s' rv (by rw [hd];exact hv)) rv hv
     rwa [hd]at this
    | some dd=>
     rw [hd]at hv;refine xJ a hv fun v u rv hv=>?_;rw [aP]at hv;have:=key v u _ (fun l f s' rv hv=>beh l f s' rv (by rw [hd];exact hv)) rv hv
     rwa [hd]at this
theorem aFJ{Ev:VE}{E:Env} (r:ER P B Sb Ev E){ops:Array Oper}:∀{l:List Oper} {c:Cx} {h:Hp} {S:St} {A:VA} {A':aM} {kv:KSV} {k:aM->St->Bool},VS P B Sb c h S->AR c S (cY B c h) A A'->KSR P B Sb c h S kv k->(opsV P ops l).f Ev A h kv->OL E ops l A' S k=true:=by
 intro l;induction l with
 | nil=>intro c h S A A' kv k s a hk hv;exact hk c h S A A' (.refl c) (.refl _ S) s a hv
 | cons o l ih=>
  intro c h S A A' kv k s a hk hv;have hv:(doV P ops o).f Ev A h (fun A S=>(opsV P ops l).f Ev A S kv):=hv;show QJ E ops o A' S (OL E ops l · · k)=true;exact UI r s a (fun c' h' S' X X' le f s' x hv=>ih s' x (hk.mono le f) hv) hv
theorem NA{Ev:VE}{E:Env} (r:ER P B Sb Ev E){ops:Array Oper}{A:VA}{A':aM} (s:VS P B Sb c h S) (a:AR c S (cY B c h) A A'){p:Prop}{b:Bool} (hb:p->b=true):∀{l:List Nat},(OR P ops l).f Ev A h p->uL E ops A' S l b=true:=by
 intro l;induction l with
 | nil=>intro hv;exact hb hv
 | cons i l ih=>
  intro hv;rw [WM]
  have e1:OR P ops (i::l)=match ops[i]? with
   | some o=>match o.dst with
    | some d=>match o.guard with
     | none=>⟨fun E A S k=>Hz A.tmps d fun u=>(opV P o).f E A S fun v _=>bH v u ((OR P ops l).f E A S k)⟩
     | some (j,w)=>match ops[j]? with
      | some o'=>match o'.dst with
       | some g=>⟨fun E A S k=>Hz A.tmps d fun u=>Hz A.tmps g fun b=>aC E.most (nF w b u (fun k=>(opV P o).f E A S fun v _=>bH v u k) ((OR P ops l).f E A S k))⟩
       | none=>⟨fun _ _ _ _=>False⟩
      | none=>⟨fun _ _ _ _=>False⟩
    | none=>⟨fun _ _ _ _=>False⟩
   | none=>⟨fun _ _ _ _=>False⟩:=rfl
  rw [e1]at hv;cases hi:ops[i]? with
  | none=>rw [hi]at hv;cases hv
  | some o=>
   rw [hi]at hv;simp only at hv ⊢;cases hd:o.dst with
   | none=>rw [hd]at hv;cases hv
   | some dd=>
    rw [hd]at hv;simp only at hv ⊢
    have run:∀{u:V} {uw:Value},fC c S (cY B c h) u uw->((opV P o).f Ev A h fun v _=>bH v u ((OR P ops l).f Ev A h p))->uQ E o A' S (fun v _=>match JY v uw with | true=>uL E ops A' S l b | false=>false)=true:=by
     intro u uw ru hv;refine UH r s a (fun c' h' S' v w le f s' rv hv=>?_) hv;obtain⟨rfl,ho,hv⟩:=hv;have:=rv.fn (ru.mono le f);subst this;rw [aFH s' rv ho];exact ih hv
    cases hg:o.guard with
    | none=>
     simp only [hg]at hv;refine xJ a hv fun u uw ru hv=>?_;rw [Fu hg];exact run ru hv
    | some jw=>
     obtain⟨j,w⟩:=jw;simp only [hg]at hv;cases hj:ops[j]? with
     | none=>simp only [hj]at hv
     | some o'=>
      simp only [hj]at hv;cases Zn:o'.dst with
      | none=>simp only [Zn]at hv
      | some g=>
       simp only [Zn]at hv;refine xJ a hv fun u uw ru hv=>?_;rw [aBG hg hj Zn];refine xJ a hv fun q qw rq hv=>?_;rw [aP]at hv;obtain⟨bb,hbb,e⟩:=Jv rq hv;rw [e];cases bb with
       | true=>exact run ru hbb
       | false=>
        have hbb:aMY u ((OR P ops l).f Ev A h p):=hbb;cases ru with
        | @tuple a a' la ha=>
         cases a with
         | nil=>
          have:a'=[]:=lZ (by simpa using la.symm);subst this;exact ih hbb
         | cons x l=>cases hbb
        | _=>cases hbb
theorem Fv{Ev:VE}{E:Env} (r:ER P B Sb Ev E){ops:Array Oper}{i:Nat}{o:Oper}{A:VA}{A':aM} (s:VS P B Sb c h S) (a:AR c S (cY B c h) A A'){Kv:KV}{K:VK} (k:KR P B Sb c h S Kv K) (hv:(Ua P ops i o).f Ev A h Kv):BI E ops i o A' S K=true:=by
 unfold Ua at hv;unfold BI;rw [r.eP];cases hc:eO P ops i with
 | none=>rw [hc]at hv;exact UH r s a k hv
 | some j=>rw [hc]at hv;cases hv
theorem OD{Ev:VE}{E:Env} (r:ER P B Sb Ev E){ops:Array Oper}:∀{l:List Nat} {c:Cx} {h:Hp} {S:St} {A:VA} {A':aM} {kv:KSV} {k:aM->St->Bool},VS P B Sb c h S->AR c S (cY B c h) A A'->KSR P B Sb c h S kv k->(KB P ops l).f Ev A h kv->mK E ops l A' S k=true:=by
 intro l;induction l with
 | nil=>intro c h S A A' kv k s a hk hv;exact hk c h S A A' (.refl c) (.refl _ S) s a hv
 | cons i l ih=>
  intro c h S A A' kv k s a hk hv
  have e1:KB P ops (i::l)=match ops[i]? with
   | some o=>match o.dst with
    | some d=>⟨fun E A S k=>(Ua P ops i o).f E A S fun v S=>Fi A d v fun A=>(KB P ops l).f E A S k⟩
    | none=>⟨fun E A S k=>(Ua P ops i o).f E A S fun _ S=>(KB P ops l).f E A S k⟩
   | none=>⟨fun _ _ _ _=>False⟩:=rfl
  have e2:mK E ops (i::l) A' S k=match ops[i]? with
   | some o=>BI E ops i o A' S fun v S=>lE A' o.dst v fun A=>mK E ops l A S k
   | none=>false:=rfl
  rw [e1]at hv;rw [e2];cases hi:ops[i]? with
  | none=>rw [hi]at hv;cases hv
  | some o=>
   rw [hi]at hv;simp only at hv ⊢;cases hd:o.dst with
   | none=>
    rw [hd]at hv;exact Fv r s a (fun c' h' S' v w le f s' rv hv=>ih s' (a.mono le f) (hk.mono le f) hv) hv
   | some d=>
    rw [hd]at hv;exact Fv r s a (fun c' h' S' v w le f s' rv hv=>Jt (a.mono le f) rv hv fun X X' x hx=>ih s' x (hk.mono le f) hx) hv
theorem Fw{Ev:VE}{E:Env} (r:ER P B Sb Ev E){ops:Array Oper}{A:VA}{A':aM} (s:VS P B Sb c h S) (a:AR c S (cY B c h) A A'){p:Prop}{b:Bool} (hb:p->b=true):∀{l:List (Nat×List Nat)},(Nz P ops l).f Ev A h p->KI E ops A' S l b=true:=by
 intro l;induction l with
 | nil=>intro hv;exact hb hv
 | cons q l ih=>
  intro hv
  have e1:Nz P ops (q::l)=match ops[q.1]? with
   | some o=>⟨fun E A S k=>aKy A o (((KB P ops q.2).f E A S fun A S=>(Ua P ops q.1 o).f E A S fun _ _=>True)/\(Nz P ops l).f E A S k)⟩
   | none=>⟨fun _ _ _ _=>False⟩:=rfl
  have e2:KI E ops A' S (q::l) b=match ops[q.1]? with
   | some o=>Ya A' o (dF (mK E ops q.2 A' S fun A S=>BI E ops q.1 o A S fun _ _=>true) (KI E ops A' S l b) false)
   | none=>false:=rfl
  rw [e1]at hv;rw [e2];cases hi:ops[q.1]? with
  | none=>rw [hi]at hv;cases hv
  | some o=>
   rw [hi]at hv;simp only at hv ⊢;unfold aKy at hv;unfold Ya;cases hd:o.dst with
   | none=>rw [hd]at hv;cases hv
   | some dd=>
    rw [hd]at hv;simp only at hv ⊢;obtain⟨hg,h1,h2⟩:=aFr _ _ hv
    ·rw [lB,a.abs dd hg]
     have hl:(mK E ops q.2 A' S fun A S=>BI E ops q.1 o A S fun _ _=>true)=true:=OD r s a (fun c' h' S' X X' le f s' x hv=>Fv r s' x (fun _ _ _ _ _ _ _ _ _ _=>rfl) hv) h1;show dF (mK E ops q.2 A' S fun A S=>BI E ops q.1 o A S fun _ _=>true) (KI E ops A' S l b) false=true;rw [hl];exact ih h2
theorem NB{Ev:VE}{E:Env} (r:ER P B Sb Ev E){ops:Array Oper}:∀{l:List uC} {c:Cx} {h:Hp} {S:St} {A:VA} {A':aM} {kv:KSV} {k:aM->St->Bool},VS P B Sb c h S->AR c S (cY B c h) A A'->KSR P B Sb c h S kv k->(FU P ops l).f Ev A h kv->lC E ops l A' S k=true:=by
 intro l;induction l with
 | nil=>intro c h S A A' kv k s a hk hv;cases hv
 | cons st l ih=>
  intro c h S A A' kv k s a hk hv;cases st with
  | take i=>
   have e1:FU P ops (.take i::l)=match ops[i]? with
    | some o=>⟨fun E A S k=>(doV P ops o).f E A S fun A S=>(FU P ops l).f E A S k⟩
    | none=>⟨fun _ _ _ _=>False⟩:=rfl
   have e2:lC E ops (.take i::l) A' S k=match ops[i]? with
    | some o=>QJ E ops o A' S fun A S=>lC E ops l A S k
    | none=>false:=rfl
   rw [e1]at hv;rw [e2];cases hi:ops[i]? with
   | none=>rw [hi]at hv;cases hv
   | some o=>
    rw [hi]at hv;exact UI r s a (fun c' h' S' X X' le f s' x hv=>ih s' x (hk.mono le f) hv) hv
  | Ja vS lV D q yV=>
   have e1:FU P ops (.Ja vS lV D q yV::l)=match ops[q]? with
    | some o=>⟨fun E A S k=>(OR P ops vS).f E A S ((Nz P ops lV).f E A S ((KB P ops D).f E A S fun A S=>(doV P ops o).f E A S fun A S=>(OR P ops yV).f E A S ((FU P ops l).f E A S k)))⟩
    | none=>⟨fun _ _ _ _=>False⟩:=rfl
   have e2:lC E ops (.Ja vS lV D q yV::l) A' S k=match ops[q]? with
    | some o=>uL E ops A' S vS (KI E ops A' S lV (mK E ops D A' S fun A S=>QJ E ops o A S fun A S=>uL E ops A S yV (lC E ops l A S k)))
    | none=>false:=rfl
   rw [e1]at hv;rw [e2];cases hi:ops[q]? with
   | none=>rw [hi]at hv;cases hv
   | some o=>
    rw [hi]at hv;refine NA r s a (fun hv=>?_) hv;refine Fw r s a (fun hv=>?_) hv;refine OD r s a (fun c' h' S' X X' le f s' x hv=>?_) hv;refine UI r s' x (fun c2 h2 S2 Y Y' pT f2 s2 y hv=>?_) hv;refine NA r s2 y (fun hv=>?_) hv;exact ih s2 y ((hk.mono le f).mono pT f2) hv
  | fin vS lV D=>
   have hv:(OR P ops vS).f Ev A h ((Nz P ops lV).f Ev A h ((KB P ops D).f Ev A h kv)):=hv;show uL E ops A' S vS (KI E ops A' S lV (mK E ops D A' S k))=true;refine NA r s a (fun hv=>?_) hv;refine Fw r s a (fun hv=>?_) hv;exact OD r s a hk hv
theorem Ok{Ev:VE}{E:Env} (r:ER P B Sb Ev E){ops:Array Oper}:∀{l:List uC} {c:Cx} {h:Hp} {S:St} {A:VA} {A':aM} {kv:KSV} {k:aM->St->Bool},VS P B Sb c h S->AR c S (cY B c h) A A'->KSR P B Sb c h S kv k->(EE P ops l).f Ev A h kv->tV E ops l A' S k=true:=by
 intro l;induction l with
 | nil=>intro c h S A A' kv k s a hk hv;exact hk c h S A A' (.refl c) (.refl _ S) s a hv
 | cons st l ih=>
  intro c h S A A' kv k s a hk hv;cases st with
  | take i=>
   have e1:EE P ops (.take i::l)=match ops[i]? with
    | some o=>⟨fun E A S k=>(doV P ops o).f E A S fun A S=>(EE P ops l).f E A S k⟩
    | none=>⟨fun _ _ _ _=>False⟩:=rfl
   have e2:tV E ops (.take i::l) A' S k=match ops[i]? with
    | some o=>QJ E ops o A' S fun A S=>tV E ops l A S k
    | none=>false:=rfl
   rw [e1]at hv;rw [e2];cases hi:ops[i]? with
   | none=>rw [hi]at hv;cases hv
   | some o=>
    rw [hi]at hv;exact UI r s a (fun c' h' S' X X' le f s' x hv=>ih s' x (hk.mono le f) hv) hv
  | Ja vS lV D q yV=>
   have e1:EE P ops (.Ja vS lV D q yV::l)=match ops[q]? with
    | some o=>⟨fun E A S k=>(OR P ops vS).f E A S ((Nz P ops lV).f E A S ((KB P ops D).f E A S fun A S=>(doV P ops o).f E A S fun A S=>(OR P ops yV).f E A S ((EE P ops l).f E A S k)))⟩
    | none=>⟨fun _ _ _ _=>False⟩:=rfl
   have e2:tV E ops (.Ja vS lV D q yV::l) A' S k=match ops[q]? with
    | some o=>uL E ops A' S vS (KI E ops A' S lV (mK E ops D A' S fun A S=>QJ E ops o A S fun A S=>uL E ops A S yV (tV E ops l A S k)))
    | none=>false:=rfl
   rw [e1]at hv;rw [e2];cases hi:ops[q]? with
   | none=>rw [hi]at hv;cases hv
   | some o=>
    rw [hi]at hv;refine NA r s a (fun hv=>?_) hv;refine Fw r s a (fun hv=>?_) hv;refine OD r s a (fun c' h' S' X X' le f s' x hv=>?_) hv;refine UI r s' x (fun c2 h2 S2 Y Y' pT f2 s2 y hv=>?_) hv;refine NA r s2 y (fun hv=>?_) hv;exact ih s2 y ((hk.mono le f).mono pT f2) hv
  | fin vS lV D=>cases hv
end
section
variable{P:Program}{B:Nat->Prop}{Sb:St}{c c' d:Cx}{h h':Hp}{S S':St}{C C':Nat->Prop}
theorem AR.del{A:VA}{A':aM} (a:AR c S C A A') (d:Nat):AR c S C ⟨⟨A.tmps.t.del d,A.tmps.n⟩,A.g⟩ {A' with tmps:=⟨A'.tmps.t.del d,A'.tmps.n⟩}:=by
 refine⟨a.n,a.g,a.marks,fun i v e=>?_,fun i e=>?_⟩
 ·have e:(A.tmps.t.del d).get i=some v:=e
  rw [SU]at e;show ∃w,(A'.tmps.t.del d).get i=some w/\_;rw [SU];by_cases hi:i=d
  ·rw [if_pos hi]at e;cases e
  ·rw [if_neg hi]at e ⊢;exact a.got i v e
 ·have e:(A.tmps.t.del d).get i=none:=e
  rw [SU]at e;show(A'.tmps.t.del d).get i=none;rw [SU];by_cases hi:i=d
  ·rw [if_pos hi]
  ·rw [if_neg hi]at e ⊢;exact a.abs i e
theorem Jw{ops:Array Oper}{k:VA->Prop}{k':aM->Bool} (hk:∀X X',AR c S C X X'->k X->k' X'=true):∀{l:List Nat} {A:VA} {A':aM},AR c S C A A'->Ub ops l A k->MA ops l A' k'=true:=by
 intro l;induction l with
 | nil=>intro A A' a hv;exact hk A A' a hv
 | cons i l ih=>
  intro A A' a hv
  have e1:Ub ops (i::l) A k=match ops[i]? with
   | some o=>match o.dst with
    | some d=>match A with | ⟨⟨t,n⟩,g⟩=>aFj t d fun t=>Ub ops l ⟨⟨t,n⟩,g⟩ k
    | none=>False
   | none=>False:=rfl
  have e2:MA ops (i::l) A' k'=match ops[i]? with
   | some o=>match o.dst with
    | some d=>aD7 A'.tmps.t d fun t=>MA ops l {A' with tmps:=⟨t,A'.tmps.n⟩} k'
    | none=>false
   | none=>false:=rfl
  rw [e1]at hv;rw [e2];cases hi:ops[i]? with
  | none=>simp only [hi]at hv
  | some o=>
   simp only [hi]at hv ⊢;cases hd:o.dst with
   | none=>simp only [hd]at hv
   | some d=>
    simp only [hd]at hv ⊢;rw [aHM]at hv;rw [aA4];exact ih (a.del d) hv
theorem aAi{w:Bool}{v:V}{k:Prop} (h:aBB w v k):v= .bool w/\k:=by
 unfold aBB at h;split at h
 ·rename_i b
  cases w<;>cases b<;>first | exact⟨rfl,h⟩ | exact h.elim
 ·exact h.elim
theorem aAj{Ev:VE}{E:Env} (r:ER P B Sb Ev E):∀{p:MI} {ops:Array Oper} {c:Cx} {h:Hp} {S:St} {A:VA} {A':aM} {kv:KSV} {k:aM->St->Bool},VS P B Sb c h S->AR c S (cY B c h) A A'->KSR P B Sb c h S kv k->(Zw P p ops).f Ev A h kv->MJ E p ops A' S k=true:=by
 intro p;induction p with
 | fin l=>intro ops c h S A A' kv k s a hk hv;exact NB r s a hk hv
 | cut l g t b p ih=>
  intro ops c h S A A' kv k s a hk hv;have hv:(EE P ops l).f Ev A h (fun A S=>Hz A.tmps t fun v=>aBB b v ((Zw P p (eK ops g b)).f Ev A S kv)):=hv;show tV E ops l A' S (fun A S=>TG A t b (MJ E p (eK ops g b) A S k))=true;refine Ok r s a (fun c' h' S' X X' le f s' x hv=>?_) hv;unfold TG;refine xJ x hv fun v w rv hv=>?_;obtain⟨e,Lu⟩:=aAi hv;subst e;cases rv;have:=ih (ops:=eK ops g b) s' x (hk.mono le f) Lu;cases b<;>exact this
theorem aFK{Ev:VE}{E:Env} (r:ER P B Sb Ev E){ops:Array Oper}{draw:Bool}{A:VA}{A':aM} (s:VS P B Sb c h S) (a:AR c S (cY B c h) A A'){kv:KSV}{k:aM->St->Bool} (hk:KSR P B Sb c h S kv k) (hv:(Uc P ops draw).f Ev A h kv):(aCu P ops draw).f E A' S k=true:=by
 have hP:=r.eP;subst hP;rw [aBj];cases draw with
 | false=>exact aFJ r s a hk hv
 | true=>
  show drG E ops A' S k=true;unfold Uc at hv;simp only at hv;unfold drG;cases hp:TB E.P ops with
  | none=>
   simp only [hp]at hv ⊢;cases rP:DR ops with
   | false=>simp only [rP]at hv
   | true=>
    simp only [rP]at hv ⊢;cases YA:TF E.P (ops.size+1) ops ⟨List.replicate ops.size false⟩ []with
    | none=>simp only [YA]at hv
    | some p=>
     simp only [YA]at hv ⊢;exact Jw (fun X X' x hx=>aAj r s x hk hx) a hv
  | some l=>
   simp only [hp]at hv ⊢;cases hl:GZ l with
   | nil=>
    simp only [hl]at hv;exact NB r s a hk hv
   | cons x ls=>
    simp only [hl]at hv;exact Jw (fun X X' x hx=>NB r s x hk hx) a hv
def CKR (P:Program) (B:Nat->Prop) (Sb:St) (c:Cx) (h:Hp) (S:St) (Kv:CV) (K:QK):Prop:=
 ∀c' h' S' A A' e,c.le c'->yG (cY B c h) S S' (cY B c' h')->VS P B Sb c' h' S'->AR c' S' (cY B c' h') A A'->Kv e A h'->K e A' S'=true
def LKR (P:Program) (B:Nat->Prop) (Sb:St) (c:Cx) (h:Hp) (S:St) (Kv:uB->List V->Nat->Hp->Prop) (K:uB->List Value->Nat->List Nat->St->Bool):Prop:=
 ∀c' h' S' vs ws n e,c.le c'->yG (cY B c h) S S' (cY B c' h')->VS P B Sb c' h' S'->kE c' S' (cY B c' h') vs ws->Kv e vs n h'->∀marks,Al c' S' (cY B c' h') marks->K e ws n marks S'=true
def RoV (c:Cx) (r r':Option Nat):Prop:=(r=none/\r'=none)\/∃l b,r=some l/\r'=some b/\c.Z l=some b
theorem RoV.mono{r r':Option Nat} (q:RoV c r r') (l:c.le c'):RoV c' r r':=by
 rcases q with q | ⟨i,b,h1,h2,h3⟩
 ·exact .inl q
 ·exact .inr ⟨i,b,h1,h2,l.Z _ _ h3⟩
def aJi (P:Program) (B:Nat->Prop) (Sb:St) (Ev:VE) (E:Env) (r r':Option Nat) (lv:LpV) (lx:LpT):Prop:=
 ∀{c:Cx} {h:Hp} {S:St} {vs:List V} {ws:List Value} {n:Nat} {marks:List Nat} {Kv:uB->List V->Nat->Hp->Prop} {K:uB->List Value->Nat->List Nat->St->Bool},VS P B Sb c h S->RoV c r r'->Al c S (cY B c h) marks->kE c S (cY B c h) vs ws->LKR P B Sb c h S Kv K->lv Ev vs n h Kv->lx E r' ws n marks S K=true
theorem CKR.mono{Kv:CV}{K:QK} (q:CKR P B Sb c h S Kv K) (l:c.le c') (f:yG (cY B c h) S S' (cY B c' h')):CKR P B Sb c' h' S' Kv K:=
 fun c2 h2 S2 A A' e l2 f2=>q c2 h2 S2 A A' e (l.trans l2) (f.trans f2)
theorem LKR.mono{Kv:uB->List V->Nat->Hp->Prop}{K:uB->List Value->Nat->List Nat->St->Bool} (q:LKR P B Sb c h S Kv K) (l:c.le c') (f:yG (cY B c h) S S' (cY B c' h')):LKR P B Sb c' h' S' Kv K:=
 fun c2 h2 S2 vs ws n e l2 f2=>q c2 h2 S2 vs ws n e (l.trans l2) (f.trans f2)
theorem HO{A:VA}{A':aM} (a:AR c S C A A'):∀{l:List Nat} {k:List V->Prop} {k':List Value->Bool},EG l A k->(∀vs ws,kE c S C vs ws->k vs->k' ws=true)->xE l A' k'=true:=by
 intro l;induction l with
 | nil=>intro k k' hv hk;exact hk [] [] .nil hv
 | cons i l ih=>
  intro k k' hv hk;have hv:Hz A.tmps i (fun v=>EG l A fun vs=>k (v::vs)):=hv;show NO A'.tmps i (fun v=>xE l A' fun vs=>k' (v::vs))=true;exact xJ a hv fun v w rv hv=>ih hv fun vs ws rs hv=>hk _ _ (.cons rv rs) hv
theorem aC6{A:VA}:∀{l:List Nat} {k:List V->Prop},EG l A k->∃vs,k vs/\vs.length=l.length/\∀(j i:Nat) (v:V),l[j]? =some i->vs[j]? =some v->A.tmps.t.get i=some v:=by
 intro l;induction l with
 | nil=>intro k hv;exact⟨[],hv,rfl,fun j i v h=>by simp at h⟩
 | cons i l ih=>
  intro k hv;obtain⟨v,e,hv⟩:=Ug _ _ _ (show Hz A.tmps i (fun v=>EG l A fun vs=>k (v::vs))from hv);obtain⟨vs,h1,h2,h3⟩:=ih hv;refine⟨v::vs,h1,by simp [h2],fun j x u hx hu=>?_⟩;cases j with
  | zero=>simp at hx hu;subst hx hu;exact e
  | succ j=>simp at hx hu;exact h3 j x u hx hu
theorem aC7{g:Nat}{marks:List Nat}{k:VA->Prop}{k':aM->Bool} (hk:∀X X',AR c S C X X'->k X->k' X'=true):∀{l:List Nat} {vs:List V} {ws:List Value} {T:Nv} {T':Tm},kE c S C vs ws->AR c S C ⟨T,g⟩ ⟨T',marks,g⟩->
 fE (β:=List V->Nv->Prop) (fun _ T=>k ⟨T,g⟩) (fun i _ ih vs T=>match vs with | v::vs=>PQ v T i fun T=>ih vs T | []=>False) l vs T->
 fE (β:=List Value->Tm->Bool) (fun _ T=>k' ⟨T,marks,g⟩) (fun i _ ih vs T=>match vs with | v::vs=>qW v T i fun T=>ih vs T | []=>false) l ws T'=true:=by
 intro l;induction l with
 | nil=>intro vs ws T T' _ a hv;exact hk _ _ a hv
 | cons i l ih=>
  intro vs ws T T' rs a hv;rw [aO]at hv ⊢;cases vs with
  | nil=>cases hv
  | cons v vs=>
   obtain⟨w,ws',rfl,rv,rs⟩:=rs.cons_inv;obtain⟨h1,h2⟩:=OC hv;show qW w T' i _=true;rw [UE (by rw [show T'.n=T.n from a.n.symm];exact h1)];exact ih rs (a.put rv) h2
theorem AR.leaf{n g:Nat}{marks:List Nat} (m:Al c S C marks):AR c S C ⟨⟨.leaf,n⟩,g⟩ ⟨⟨.leaf,n⟩,marks,g⟩:=⟨rfl,rfl,m,fun i v e=>(by cases e),fun i _=>rfl⟩
theorem JF{l:List Nat}{vs:List V}{ws:List Value}{n g:Nat}{k:VA->Prop}{k':aM->Bool}{marks:List Nat} (m:Al c S C marks) (rs:kE c S C vs ws) (hv:BK l vs n g k) (hk:∀X X',AR c S C X X'->k X->k' X'=true):DZ l ws n g marks k'=true:=aC7 hk rs (.leaf m) hv
variable{tb:oN}
theorem aKD (s:VS P B Sb c h S) (o:gV):VS P B Sb c h (S.new o)/\yG (cY B c h) S (S.new o) (cY B c h):=by
 have fr:yG (cY B c h) S (S.new o) (cY B c h):=⟨VY _,fun j hj _=>gE (Nat.ne_of_lt hj),fun b l=> .inl l⟩;refine⟨⟨s.base.trans (.new S _),s.bB,fun i o' e eg=>?_,fun i vs t n e=>?_,s.inj,s.Gs,s.room,s.MY,fun i vs t n m b e e3=>⟨(s.Gb i vs t n m b e e3).1,nT (s.Gb i vs t n m b e e3).2⟩,fun i vs t n b ws e' olds e e3 e4=>s.old i vs t n b ws e' olds e e3 (by rw [gE (by have:=(s.Gb i vs t n n b e e3).2;omega)]at e4;exact e4)⟩,fr⟩
 ·obtain⟨b,a,a1,a2,a3,a4,a5⟩:=s.ob i o' e eg
  exact⟨b,a,a1,a2,nT a3,by rw [gE (by omega)];exact a4,a5.mono (.refl c) fr⟩
 ·obtain⟨b,ws,olds,sz,a1,a2,a3,a4,a5,a6⟩:=s.jK i vs t n e
  exact⟨b,ws,olds,sz,a1,a2,nT a3,by rw [gE (by omega)];exact a4,a5.mono (.refl c) fr,a6⟩
theorem Ol{k:gV->Bool}{b:Nat}{a:gV} (e:S.obj b=some a):nV S.h b k=k a:=by
 rw [lB];have e:S.h.get b=some a:=e;rw [e]
theorem aAk{l:Nat}{p:Prop} (hv:Bl l h p):∃ls vs n ps as bo st pe,h l=some (.loop ls vs n ps as bo st pe)/\p:=by
 unfold Bl at hv;split at hv
 ·rename_i e;exact⟨_,_,_,_,_,_,_,_,e,hv⟩
 ·cases hv
theorem aHR{X X':aM}{Kv:CV}{K:QK}{A:VA}{pe:Option Code}{kn:aM} (e:X=X') (hn:kn=X') (h1:Kv .normal A h->K .normal X' S=true) (h2:Kv .ret A h->K .ret X' S=true) (h3:∀i,Kv (.exit i) A h->K (.exit i) X' S=true)
 (hv:ZB pe (Kv .normal A h) (Kv .ret A h) (fun id=>Kv (.exit id) A h)):(match(generalizing:=false) pe with | none=>K .normal X S | some .ret=>K .ret X S | some (.exit id)=>K (.exit id) X S | _=>false)=true:=by
 subst e;unfold ZB at hv;split at hv
 ·exact h1 hv
 ·exact h2 hv
 ·exact h3 _ hv
 ·cases hv
theorem ZH{Ev:VE}{E:Env} (r:ER P B Sb Ev E){A:VA}{A':aM} (s:VS P B Sb c h S) (a:AR c S (cY B c h) A A'){ls:List Nat}{vs:List V} (hl:vs.length=ls.length) (hg:∀(j i:Nat) (v:V),ls[j]? =some i->vs[j]? =some v->A.tmps.t.get i=some v){g:FuncId}{fa fc:List V}{fa' fc':List Value}
 (ra:kE c S (cY B c h) fa fa') (rc:kE c S (cY B c h) fc fc') {ps:List Tmp} {as bo:Code} {Kv:CV} {K:QK} (k:CKR P B Sb c h S Kv K)
 (hv:XK Ev (.func g fa fc) ls vs A.tmps.n ps as bo h fun pe h'=>ZB pe (Kv .normal A h') (Kv .ret A h') fun id=>Kv (.exit id) A h'):
 (sP S (.loop A'.tmps ps as bo .ready none) fun l S=>wQ fa' [.func (.yield l) #[] #[]] fun as=>wQ as fc' fun as=>E.call g as S fun _ S=>
  nV S.h l fun o=>match o with
   | .loop tm ps as bo st pe=>match st with
    | .busy=>false
    | _=>pX S l (.loop tm ps as bo .exhausted pe) fun S=>match pe with
     | none=>K .normal A' S
     | some .ret=>K .ret A' S
     | some (.exit id)=>K (.exit id) A' S
     | _=>false
   | _=>false)=true:=by
 obtain⟨l,h0,h1,h2⟩:=s.fresh;have hv:=hv l h0;rw [gG]
 obtain⟨s1,le,fr,hb⟩:=s.aBC h0 h1 h2 (o:= .loop ls vs A.tmps.n ps as bo .ready none) (ao:= .loop A'.tmps ps as bo .ready none) rfl (fun d S' C' le f=>⟨_,rfl,a.n,hl,fun j i v e1 e2=>by
  obtain⟨w,g1,g2⟩:=a.got i v (hg j i v e1 e2);exact⟨w,g1,g2.mono le f⟩⟩)
 rw [kL,kL];have ry:fC (c.putZ l S.n) (S.new (.loop A'.tmps ps as bo .ready none)) (cY B (c.putZ l S.n) (aR h l (.loop ls vs A.tmps.n ps as bo .ready none))) (.yield l) (.func (.yield S.n) #[] #[]):= .yield hb;refine r.aBF g s1 (((ra.mono le fr).app (.cons ry .nil)).app (rc.mono le fr)) ?_ hv;intro c' h' S' v w l2 f2 s2 rv hv;unfold Tv at hv;split at hv
 ·rename_i ls' vs' n' Hc Xs bo' st pe e
  obtain⟨b,ao,b1,b2,b3,b4,b5⟩:=s2.ob l _ e rfl;have hbb:=l2.Z _ _ hb;rw [hbb]at b1;injection b1 with b1;subst b1;obtain⟨T,rfl,b6,b7,b8⟩:=b5;show(nV S'.h S.n _)=true;rw [Ol b4];simp only
  have fin:∀{p:Prop},(ZB pe (Kv .normal A (aR h' l (.loop ls' vs' n' Hc Xs bo' .exhausted pe))) (Kv .ret A (aR h' l (.loop ls' vs' n' Hc Xs bo' .exhausted pe))) fun id=>Kv (.exit id) A (aR h' l (.loop ls' vs' n' Hc Xs bo' .exhausted pe)))->
   (pX S' S.n (.loop T Hc Xs bo' .exhausted pe) fun S=>match(generalizing:=false) pe with
    | none=>K .normal A' S
    | some .ret=>K .ret A' S
    | some (.exit id)=>K (.exit id) A' S
    | _=>false)=true:=by
   intro _ hv;rw [fZ]
   obtain⟨s3,f3⟩:=s2.Js e rfl hbb (o:= .loop ls' vs' n' Hc Xs bo' .exhausted pe) (ao:= .loop T Hc Xs bo' .exhausted pe) rfl (fun S' C' f=>⟨T,rfl,b6,b7,fun j i v e1 e2=>by
    obtain⟨w,g1,g2⟩:=b8 j i v e1 e2;exact⟨w,g1,g2.mono (.refl _) f⟩⟩)
   have leA:=le.trans l2;have frA:=(fr.trans f2).trans f3;have aA:=a.mono leA frA;refine aHR (X:=A') (X':=A') (Kv:=Kv) (K:=K) (kn:=A') rfl rfl (fun hv=>k _ _ _ A A' .normal leA frA s3 aA hv) (fun hv=>k _ _ _ A A' .ret leA frA s3 aA hv) (fun i hv=>k _ _ _ A A' (.exit i) leA frA s3 aA hv) hv
  split at hv
  ·cases hv
  ·rename_i PC
   split
   ·exact absurd rfl PC
   ·exact fin (p:=True) hv
 ·cases hv
theorem aAl{Ev:VE}{E:Env} (r:ER P B Sb Ev E){ro Pz:Option Nat}{f:Operand}{ps:Array Tmp}{as bo:Code}{A:VA}{A':aM}{Kv:CV}{K:QK} (s:VS P B Sb c h S) (pK:RoV c ro Pz) (a:AR c S (cY B c h) A A') (k:CKR P B Sb c h S Kv K) (hv:(Od tb ro f ps as bo).f Ev A h Kv):QL E Pz f ps as bo A' S K=true:=by
 unfold Od at hv;unfold QL;refine bF a hv fun fv fw rf hv=>?_;obtain⟨vs,hv,hl,hg⟩:=aC6 hv;rcases pK with ⟨rfl,rfl⟩ | ⟨l,b,rfl,rfl,hb⟩
 ·have hv:XK Ev fv (Oc tb bo) vs A.tmps.n ps.toList as bo h _:=hv
  cases rf with
  | @func g fa fc fa' fc' la lc ha hc=>
   simp only;rw [gG];obtain⟨s1,f1⟩:=aKD s .defers
   have m1:Al c (S.new .defers) (cY B c h) (S.n::A'.marks):=by
    have m:=a.marks.mono (.refl c) f1;refine⟨m.n0,QC.2 ⟨fun hx=>?_,m.nd⟩,fun d hd=>?_⟩
    ·exact Nat.lt_irrefl _ (a.marks.ok _ hx).2.1
    ·rcases cO.1 hd with rfl | hd
     ·exact⟨a.marks.n0,vI _,fun x=>Nat.lt_irrefl _ (s.aCY x),rJ⟩
     ·exact m.ok d hd
   have a0:=a.mono (.refl c) f1;have a1:AR c (S.new .defers) (cY B c h) A ⟨A'.tmps,S.n::A'.marks,A'.g⟩:=⟨a0.n,a0.g,m1,a0.got,a0.abs⟩;exact ZH r s1 a1 hl hg ((⟨la,ha⟩:kE _ _ _ fa fa').mono (.refl c) f1) ((⟨lc,hc⟩:kE _ _ _ fc fc').mono (.refl c) f1) (fun c' h' S' X X' e l2 f2=>k c' h' S' X X' e l2 (f1.trans f2)) hv
  | _=>cases hv
 ·have hv:Bl l h (XK Ev fv (Oc tb bo) vs A.tmps.n ps.toList as bo h _):=hv
  obtain⟨_,_,_,_,_,_,_,_,e,hv⟩:=aAk hv;cases rf with
  | @func g fa fc fa' fc' la lc ha hc=>
   simp only;obtain⟨b',ao,b1,b2,b3,b4,b5⟩:=s.ob l _ e rfl;rw [hb]at b1;injection b1 with b1;subst b1;obtain⟨T,rfl,_⟩:=b5;rw [Ol b4];exact ZH r s a hl hg ⟨la,ha⟩ ⟨lc,hc⟩ k hv
  | _=>cases hv
theorem OE{Ev:VE}{E:Env} (r:ER P B Sb Ev E){ro Pz:Option Nat}{lv:Code->LpV}{lx:Code->LpT} (hl:∀a,aJi P B Sb Ev E ro Pz (lv a) (lx a)):∀(q:Code) {c:Cx} {h:Hp} {S:St} {A:VA} {A':aM} {Kv:CV} {K:QK},
 VS P B Sb c h S->RoV c ro Pz->AR c S (cY B c h) A A'->CKR P B Sb c h S Kv K->(kY P tb ro lv q).f Ev A h Kv->(nY P tb lx q).f E Pz A' S K=true:=by
 intro q;induction q with
 | skip=>intro c h S A A' Kv K s pK a k hv;exact k c h S A A' .normal (.refl c) (.refl _ S) s a hv
 | label l=>intro c h S A A' Kv K s pK a k hv;exact k c h S A A' .normal (.refl c) (.refl _ S) s a hv
 | ret=>intro c h S A A' Kv K s pK a k hv;exact k c h S A A' .ret (.refl c) (.refl _ S) s a hv
 | exit i=>intro c h S A A' Kv K s pK a k hv;exact k c h S A A' (.exit i) (.refl c) (.refl _ S) s a hv
 | goto l=>intro c h S A A' Kv K s pK a k hv;cases hv
 | refuse l=>intro c h S A A' Kv K s pK a k hv;cases hv
 | rangeFunc f ps as bo _ _=>
  intro c h S A A' Kv K s pK a k hv;have hv:(Od tb ro f ps as bo).f Ev A h Kv:=hv;exact aAl r s pK a k hv
 | region i ops draw=>
  intro c h S A A' Kv K s pK a k hv;have hv:(Uc P ops draw).f Ev A h (fun A S=>Kv .normal A S):=hv;show(aCu P ops draw).f E A' S (fun A S=>K .normal A S)=true;exact aFK r s a (fun c' h' S' X X' l f s' x hv=>k c' h' S' X X' .normal l f s' x hv) hv
 | seq x y ihx ihy=>
  intro c h S A A' Kv K s pK a k hv;refine ihx s pK a ?_ (show(kY P tb ro lv x).f Ev A h (UD P (mQ tb y) (kY P tb ro lv y) Ev Kv)from hv);intro c' h' S' X X' e l f s' x hv;cases e with
  | normal=>
   unfold UD at hv;show Ta P (mQ tb y) (nY P tb lx y) E Pz K .normal X' S'=true;unfold Ta;simp only at hv ⊢;cases hj:mQ tb y with
   | none=>simp only [hj]at hv ⊢;exact ihy s' (pK.mono l) x (k.mono l f) hv
   | some ls=>
    simp only [hj]at hv ⊢;refine HO x hv fun vs ws rs hv=>?_;unfold Ue at hv;unfold aBk;rw [r.eM]at hv;cases hm:E.most with
    | zero=>rw [hm]at hv;cases hv
    | succ m=>
     rw [hm]at hv;obtain⟨h2,hle,hv⟩:=hv;obtain⟨s2,f2⟩:=s'.drop hle;have hv:BK ls vs X.tmps.n P.globals.size (fun A=>(kY P tb ro lv y).f Ev A h2 Kv):=hv;rw [x.n]at hv;show DZ ls ws X'.tmps.n P.globals.size X'.marks (fun A=>(nY P tb lx y).f E Pz A S' K)=true;exact JF (x.marks.mono (.refl _) f2) (rs.mono (.refl _) f2) hv fun Y Y' y hv=>ihy s2 (pK.mono l) y ((k.mono l f).mono (.refl _) f2) hv
  | exit i=>exact k c' h' S' X X' (.exit i) l f s' x hv
  | ret=>exact k c' h' S' X X' .ret l f s' x hv
 | cond b x y ihx ihy=>
  intro c h S A A' Kv K s pK a k hv;have hv:(uE b).f A (fun v=>pA v ((kY P tb ro lv x).f Ev A h Kv) ((kY P tb ro lv y).f Ev A h Kv)):=hv;show(vC b).f A' (fun v=>match v with | .bool b=>dF b ((nY P tb lx x).f E Pz A' S K) ((nY P tb lx y).f E Pz A' S K) | _=>false)=true;rw [kB];refine bF a hv fun v w rv hv=>?_;cases rv with
  | @bool b=>
   cases b with
   | true=>exact ihx s pK a k hv
   | false=>exact ihy s pK a k hv
  | _=>cases hv
 | block i x ih=>
  intro c h S A A' Kv K s pK a k hv;refine ih s pK a ?_ (show(kY P tb ro lv x).f Ev A h (Fj i Kv)from hv);intro c' h' S' X X' e l f s' x hv;cases e with
  | normal=>exact k c' h' S' X X' .normal l f s' x hv
  | ret=>exact k c' h' S' X X' .ret l f s' x hv
  | exit j=>
   show(match Nat.beq j i with | true=>K .normal X' S' | false=>K (.exit j) X' S')=true;have hv:aBx j i (Kv .normal X h') (Kv (.exit j) X h'):=hv;unfold aBx at hv;cases hj:Nat.beq j i with
   | true=>rw [hj]at hv;exact k c' h' S' X X' .normal l f s' x hv
   | false=>rw [hj]at hv;exact k c' h' S' X X' (.exit j) l f s' x hv
 | scope x ih=>
  intro c h S A A' Kv K s pK a k hv;exact ih s pK a k hv
 | loop x ih=>
  intro c h S A A' Kv K s pK a k hv;have hv:EG (sC tb x) A (fun vs=>lv x Ev vs A.tmps.n h (Ud P tb x Kv)):=hv;show xE (sC tb x) A' (fun vs=>lx x E Pz vs A'.tmps.n A'.marks S (aKa P tb x K))=true;refine HO a hv fun vs ws rs hv=>?_;rw [<-a.n];refine hl x s pK a.marks rs ?_ hv;intro c' h' S' vs ws n e l f s' rs hv marks m;exact JF m rs hv fun X X' x hx=>k c' h' S' X X' e l f s' x hx
theorem Om{Ev:VE}{E:Env} (r:ER P B Sb Ev E){ro Pz:Option Nat}:∀(m:Nat) (a:Code),aJi P B Sb Ev E ro Pz (BL P tb ro m a) (lpX P tb m a):=by
 intro m;induction m with
 | zero=>intro a c h S vs ws n marks Kv K s pK mk rs k hv;cases hv
 | succ m ih=>
  intro a
  have go:∀(j:Nat) {c:Cx} {h:Hp} {S:St} {vs:List V} {ws:List Value} {n:Nat} {marks:List Nat} {Kv:uB->List V->Nat->Hp->Prop} {K:uB->List Value->Nat->List Nat->St->Bool},VS P B Sb c h S->RoV c ro Pz->Al c S (cY B c h) marks->kE c S (cY B c h) vs ws->LKR P B Sb c h S Kv K->FV P tb a (kY P tb ro (BL P tb ro m) a) Ev Kv j vs n h->TO P tb a (nY P tb (lpX P tb m) a) E Pz K j ws n marks S=true:=by
   intro j;induction j with
   | zero=>intro c h S vs ws n marks Kv K s pK mk rs k hv;cases hv
   | succ j ihj=>
    intro c h S vs ws n marks Kv K s pK mk rs k hv;obtain⟨h2,hle,hv⟩:=hv;obtain⟨s2,f2⟩:=s.drop hle;show DZ (sC tb a) ws n P.globals.size marks (fun A=>(nY P tb (lpX P tb m) a).f E Pz A S (Nb tb a (TO P tb a (nY P tb (lpX P tb m) a) E Pz K j) K))=true;refine JF (mk.mono (.refl _) f2) (rs.mono (.refl _) f2) hv fun X X' x hv=>?_;refine OE r ih a s2 pK x ?_ hv;intro c' h' S' Y Y' e l f s' y hv;have kk:=(k.mono (.refl _) f2).mono l f;cases e with
    | normal=>
     have hv:EG (sC tb a) Y (fun vs=>FV P tb a (kY P tb ro (BL P tb ro m) a) Ev Kv j vs Y.tmps.n h'):=hv;show xE (sC tb a) Y' (fun vs=>TO P tb a (nY P tb (lpX P tb m) a) E Pz K j vs Y'.tmps.n Y'.marks S')=true;refine HO y hv fun vs ws rs hv=>?_;rw [<-y.n];exact ihj s' (pK.mono l) y.marks rs kk hv
    | exit i=>
     have hv:EG (TN tb a (.exit i)) Y (fun vs=>Kv (.exit i) vs Y.tmps.n h'):=hv;show xE (TN tb a (.exit i)) Y' (fun vs=>K (.exit i) vs Y'.tmps.n Y'.marks S')=true;refine HO y hv fun vs ws rs hv=>?_;rw [<-y.n];exact kk c' h' S' vs ws _ _ (.refl _) (.refl _ S') s' rs hv _ y.marks
    | ret=>
     have hv:EG (TN tb a .ret) Y (fun vs=>Kv .ret vs Y.tmps.n h'):=hv;show xE (TN tb a .ret) Y' (fun vs=>K .ret vs Y'.tmps.n Y'.marks S')=true;refine HO y hv fun vs ws rs hv=>?_;rw [<-y.n];exact kk c' h' S' vs ws _ _ (.refl _) (.refl _ S') s' rs hv _ y.marks
  intro c h S vs ws n marks Kv K s pK mk rs k hv;have hv:FV P tb a (kY P tb ro (BL P tb ro m) a) Ev Kv Ev.most vs n h:=hv;rw [r.eM]at hv;exact go _ s pK mk rs k hv
theorem aFL{k:Nv->Prop}{k':Tm->Bool}{g:Nat}{marks:List Nat} (hk:∀T T',AR c S C ⟨T,g⟩ ⟨T',marks,g⟩->k T->k' T'=true):∀{vs:List V} {ws:List Value} {i:Nat} {T:Nv} {T':Tm},kE c S C vs ws->AR c S C ⟨T,g⟩ ⟨T',marks,g⟩->
 fE (β:=Nat->Nv->Prop) (fun _ T=>k T) (fun a _ ih i T=>PQ a T i fun T=>ih (Nat.succ i) T) vs i T->
 fE (β:=Nat->Tm->Bool) (fun _ T=>k' T) (fun a _ ih i T=>qW a T i fun T=>cG (Nat.succ i) fun i=>ih i T) ws i T'=true:=by
 intro vs;induction vs with
 | nil=>intro ws i T T' rs a hv;rw [rs.mL];exact hk _ _ a hv
 | cons v vs ih=>
  intro ws i T T' rs a hv;obtain⟨w,ws',rfl,rv,rs⟩:=rs.cons_inv;rw [aO]at hv ⊢;obtain⟨h1,h2⟩:=OC hv;rw [UE (by rw [show T'.n=T.n from a.n.symm];exact h1),aY];exact ih rs (a.put rv) h2
theorem aC8{k:Nv->Prop}{k':Tm->Bool}{g:Nat}{marks:List Nat} (hk:∀T T',AR c S C ⟨T,g⟩ ⟨T',marks,g⟩->k T->k' T'=true):∀{ps:List Tmp} {vs:List V} {ws:List Value} {T:Nv} {T':Tm},kE c S C vs ws->AR c S C ⟨T,g⟩ ⟨T',marks,g⟩->aFm ps vs T k->Rc ps ws T' k'=true:=by
 intro ps;induction ps with
 | nil=>
  intro vs ws T T' rs a hv;cases vs with
  | nil=>rw [rs.mL];exact hk _ _ a hv
  | cons v vs=>cases hv
 | cons p ps ih=>
  intro vs ws T T' rs a hv;cases vs with
  | nil=>cases hv
  | cons v vs=>
   obtain⟨w,ws',rfl,rv,rs⟩:=rs.cons_inv;have hv:PQ v T p (fun T=>aFm ps vs T k):=hv;obtain⟨h1,h2⟩:=OC hv;show qW w T' p (fun T=>Rc ps ws' T k')=true;rw [UE (by rw [show T'.n=T.n from a.n.symm];exact h1)];exact ih rs (a.put rv) h2
def Cx.at (c:Cx) (n:Nat):Cx:=⟨c.Z,c.G,c.Yz,n⟩
theorem Cx.at0 (c:Cx) (n:Nat):c.le0 (c.at n):=⟨fun _ _ e=>e,fun _ _ _ e=>e,fun _ _ e=>e⟩
theorem Fc.refl:Fc C S S C:=⟨bN _,fun _ _ _ _ _ _ e=>e,fun _ h=> .inl h⟩
theorem VS.at (s:VS P B Sb c h S) (n:Nat):VS P B Sb (c.at n) h S:=by
 refine⟨s.base,s.bB,fun i o e eg=>?_,fun i vs t m e=>?_,s.inj,s.Gs,s.room,s.MY,s.Gb,s.old⟩
 ·obtain⟨b,a,a1,a2,a3,a4,a5⟩:=s.ob i o e eg
  exact⟨b,a,a1,a2,a3,a4,a5.qH (c.at0 n) .refl⟩
 ·obtain⟨b,ws,olds,sz,a1,a2,a3,a4,a5,a6⟩:=s.jK i vs t m e
  exact⟨b,ws,olds,sz,a1,a2,a3,a4,a5.qH (c.at0 n) .refl,a6⟩
def kill (l:List Nat) (S:St):St:=l.foldl (fun S d=>S.set d .dead) S
theorem RI:∀(l:List Nat) (S:St),(kill l S).n=S.n:=by
 intro l;induction l with
 | nil=>intro S;rfl
 | cons d l ih=>intro S;exact ih _
theorem zA:∀(l:List Nat) (S:St) {b:Nat},b∉l->(kill l S).obj b=S.obj b:=by
 intro l;induction l with
 | nil=>intro S b _;rfl
 | cons d l ih=>
  intro S b hb;have:=ih (S.set d .dead) (b:=b) (fun h=>hb (.tail _ h));refine Eq.trans this ?_;exact kH fun e=>hb (e▸ .head _)
theorem aC9:∀(l:List Nat) (S:St) (k:St->Bool),l.Nodup->(∀d∈l,S.obj d=some .defers)->GI l S k=k (kill l S):=by
 intro l;induction l with
 | nil=>intro S k _ _;rfl
 | cons d l ih=>
  intro S k hn ho;show(nV S.h d fun o=>match o with | .defers=>pX S d .dead fun S=>GI l S k | _=>false)=_;rw [Ol (ho d (.head _))];simp only;rw [fZ];obtain⟨h1,h2⟩:=QC.1 hn;exact ih _ k h2 fun x hx=>by rw [kH (fun e:x=d=>h1 (e▸hx))];exact ho x (.tail _ hx)
theorem aBH{l:List Nat} (hd:∀d∈l,S.obj d=some .defers):Fc C S (kill l S) C:=by
 refine⟨Cm (RI l S).symm,fun b h1 h2 vs e ck ho=>?_,fun _ h=> .inl h⟩;rw [zA l S (fun hb=>by rw [hd b hb]at ho;cases ho)];exact ho
theorem VS.kill (s:VS P B Sb c h S){l:List Nat} (hd:∀d∈l,Sb.n<=d/\¬cY B c h d/\S.obj d=some .defers):VS P B Sb c h (Am.kill l S):=by
 have fc:Fc (cY B c h) S (Am.kill l S) (cY B c h):=aBH fun d hx=>(hd d hx).2.2;have l0:c.le0 c:=⟨fun _ _ e=>e,fun _ _ _ e=>e,fun _ _ e=>e⟩;refine⟨⟨by rw [RI];exact s.base.n,fun j hj=>?_⟩,s.bB,fun i o e eg=>?_,fun i vs t m e=>?_,s.inj,s.Gs,s.room,s.MY,fun i vs t n m b e e3=>by rw [RI];exact s.Gb i vs t n m b e e3,fun i vs t n b ws e' olds e e3 e4=>s.old i vs t n b ws e' olds e e3 (by rw [zA l S (fun hx=>(hd b hx).2.1 (.inr ⟨i,.inr ⟨vs,t,n,n,e,e3⟩⟩))]at e4;exact e4)⟩
 ·rw [zA l S (fun hx=>by have:=(hd j hx).1;omega)]
  exact s.base.same j hj
 ·obtain⟨b,a,a1,a2,a3,a4,a5⟩:=s.ob i o e eg
  have hb:b∉l:=fun hx=>(hd b hx).2.1 (.inr ⟨i,.inl ⟨o,e,eg,a1⟩⟩);exact⟨b,a,a1,a2,by rw [RI];exact a3,by rw [zA l S hb];exact a4,a5.qH l0 fc⟩
 ·obtain⟨b,ws,olds,sz,a1,a2,a3,a4,a5,a6⟩:=s.jK i vs t m e
  have hb:b∉l:=fun hx=>(hd b hx).2.1 (.inr ⟨i,.inr ⟨vs,t,m,m,e,a1⟩⟩);exact⟨b,ws,olds,sz,a1,a2,by rw [RI];exact a3,by rw [zA l S hb];exact a4,a5.qH l0 fc,a6⟩
theorem Oo (s:VS P B Sb c h S){A:VA}{A':aM} (a:AR c S (cY B c h) A A'):∀{rs:List ResultVar} {k:List V->Prop} {k':List Value->Bool},EH P rs A h k->(∀vs ws,kE c S (cY B c h) vs ws->k vs->k' ws=true)->qC P rs A' S k'=true:=by
 intro rs;induction rs with
 | nil=>intro k k' hv hk;exact hk [] [] .nil hv
 | cons x rs ih=>
  intro k k' hv hk;cases x with
  | tmp t=>
   have hv:Hz A.tmps t (fun v=>EH P rs A h fun vs=>k (v::vs)):=hv;show NO A'.tmps t (fun v=>qC P rs A' S fun vs=>k' (v::vs))=true;exact xJ a hv fun v w rv hv=>ih hv fun vs ws rs hv=>hk _ _ (.cons rv rs) hv
  | cell x t=>
   have e1:EH P (.cell x t::rs) A h k=match sY P t,bP P t with
    | some false,_=>Hz A.tmps x fun a=>aH a h fun v _=>EH P rs A h fun vs=>k (v::vs)
    | some true,some (n+1)=>Hz A.tmps x fun a=>iP (n+1) a h fun v _=>EH P rs A h fun vs=>k (v::vs)
    | _,_=>False:=rfl
   rw [e1]at hv;show NO A'.tmps x (fun a=>GQ P t a S fun v _=>qC P rs A' S fun vs=>k' (v::vs))=true;split at hv
   ·rename_i h1
    refine xJ a hv fun v w rv hv=>?_;rw [WS h1];exact aBE s rv (fun u y ru hu=>ih hu fun vs ws rs hv=>hk _ _ (.cons ru rs) hv) hv
   ·rename_i n h1 h2
    refine xJ a hv fun v w rv hv=>?_;rw [WT h1 h2];exact Uh s (by omega) rv (fun u y ru hu=>ih hu fun vs ws rs hv=>hk _ _ (.cons ru rs) hv) hv
   ·cases hv
theorem Fx (s:VS P B Sb c h S){v:V}{w:Value} (rv:fC c S (cY B c h) v w){Kv:KV}{K:VK} (k:KR P B Sb c h S Kv K) (hv:bD v h Kv):K w S=true:=by
 obtain⟨h',u,hle,hf,hv⟩:=hv;obtain⟨d,O,le,s2,f2,r2⟩:=aKB s hle rv hf;exact k d h' S _ w le f2 s2 r2 (hv O)
theorem aHS{tb:FuncId->oN}{Ev:VE}{E:Env} (r:ER P B Sb Ev E) (f:FuncId){args:List V}{ws:List Value}{Kv:KV}{K:VK} (s:VS P B Sb c h S) (ra:kE c S (cY B c h) args ws) (k:KR P B Sb c h S Kv K) (hv:pP P tb f Ev args h Kv):fnX P tb f E ws S K=true:=by
 unfold pP at hv;unfold fnX;cases hf:P.funcs[f]? with
 | none=>simp only [hf]at hv
 | some fn=>
  simp only [hf]at hv ⊢;cases hb:fn.body with
  | none=>simp only [hb]at hv
  | some q=>
   simp only [hb]at hv ⊢;rw [aY];have m0:Al (c.at S.n) S (cY B c h) []:=⟨bN _,.nil,fun d hd=>by cases hd⟩;refine aFL (c:=c.at S.n) (g:=P.globals.size) (fun T T' a hv=>?_) (ra.qH (c.at0 _) .refl) (.leaf m0) hv;refine OE r (Om r rS) q (s.at S.n) (.inl ⟨rfl,rfl⟩) a ?_ hv;intro c' h' S' X X' e l f s' x hv
   have fin:EH P fn.results.toList X h' (fun vs=>match vs with | [v]=>bD v h' Kv | vs=>bD (.tuple vs) h' Kv)->GI X'.marks S' (fun S=>qC P fn.results.toList X' S fun vs=>match vs with | [v]=>K v S | vs=>K (.tuple ⟨vs⟩) S)=true:=by
    intro hv;have hm:=x.marks;have hn0:c'.n0=S.n:=l.n0;rw [aC9 X'.marks S' _ hm.nd fun d hd=>(hm.ok d hd).2.2.2];have s1:VS P B Sb c' h' (kill X'.marks S'):=s'.kill fun d hd=>⟨by have:=(hm.ok d hd).1;have:=s.base.n;omega,(hm.ok d hd).2.2.1,(hm.ok d hd).2.2.2⟩;have s2:VS P B Sb (c'.at c.n0) h' (kill X'.marks S'):=s1.at c.n0;have pT:c.le (c'.at c.n0):=⟨fun i b e=>l.Z i b e,fun i n v e=>l.G i n v e,fun i v e=>l.Yz i v e,rfl⟩
    have f2:yG (cY B c h) S (kill X'.marks S') (cY B c' h'):=by
     refine⟨by rw [RI];exact f.n,fun b h1 h2=>?_,f.sub⟩;rw [zA _ _ fun hx=>by have:=(hm.ok b hx).1;omega];exact f.same b h1 h2
    have fc:Fc (cY B c' h') S' (kill X'.marks S') (cY B c' h'):=aBH fun d hd=>(hm.ok d hd).2.2.2
    have x2:AR c' (kill X'.marks S') (cY B c' h') X ⟨X'.tmps,[],X'.g⟩:=
     ⟨x.n,x.g,⟨by rw [RI];exact hm.n0,.nil,fun d hd=>by cases hd⟩,fun i v e=>let⟨w,p,q⟩:=x.got i v e;⟨w,p,(q.qH ⟨fun _ _ e=>e,fun _ _ _ e=>e,fun _ _ e=>e⟩ fc)⟩,x.abs⟩
    show qC P fn.results.toList ⟨X'.tmps,[],X'.g⟩ (kill X'.marks S') (fun vs=>match vs with | [v]=>K v (kill X'.marks S') | vs=>K (.tuple ⟨vs⟩) (kill X'.marks S'))=true;refine Oo s1 x2 hv fun vs ws rs hv=>?_;have rs:kE (c'.at c.n0) (kill X'.marks S') (cY B (c'.at c.n0) h') vs ws:=rs.qH (c'.at0 c.n0) .refl;have kk:KR P B Sb (c'.at c.n0) h' (kill X'.marks S') Kv K:=fun c2 h2 S2 v w l2 f3=>k c2 h2 S2 v w (pT.trans l2) (f2.trans f3)
    match vs,ws,rs,hv with
    | [v],ws,rs,hv=>
     obtain⟨w,ws',rfl,rv,rs⟩:=rs.cons_inv;rw [rs.mL];exact Fx s2 rv kk hv
    | [],ws,rs,hv=>
     rw [rs.mL];exact Fx s2 (.tuple (a':=[]) rfl fun k v w e=>by simp at e) kk hv
    | a::b::vs,ws,rs,hv=>
     obtain⟨w,ws',rfl,rv,rs⟩:=rs.cons_inv;obtain⟨w2,ws2,rfl,RZ,rs⟩:=rs.cons_inv;exact Fx s2 (.tuple (kE.cons rv (.cons RZ rs)).len (kE.cons rv (.cons RZ rs)).rd) kk hv
   cases e with
   | normal=>exact fin hv
   | ret=>exact fin hv
   | exit i=>cases hv
theorem aFM{T:Tm}{g:Nat}:∀{ls:List Nat} {vs:List V},vs.length=ls.length->(∀(j i:Nat) (v:V),ls[j]? =some i->vs[j]? =some v->∃w,T.t.get i=some w/\fC c S C v w)->∃ws,kE c S C vs ws/\∀k':List Value->Bool,xE ls ⟨T,[],g⟩ k'=k' ws:=by
 intro ls;induction ls with
 | nil=>
  intro vs hl _;obtain rfl:vs=[]:=lZ (by simpa using hl);exact⟨[],.nil,fun k'=>rfl⟩
 | cons i ls ih=>
  intro vs hl hg;cases vs with
  | nil=>simp at hl
  | cons v vs=>
   obtain⟨w,e,rv⟩:=hg 0 i v rfl rfl;obtain⟨ws,rs,hk⟩:=ih (vs:=vs) (by simpa using hl) fun j x u h1 h2=>hg (j+1) x u (by simpa using h1) (by simpa using h2);refine⟨w::ws,.cons rv rs,fun k'=>?_⟩;show NO T i (fun v=>xE ls ⟨T,[],g⟩ fun vs=>k' (v::vs))=_;unfold NO;rw [lB,e];exact hk _
theorem XO{l b:Nat}{st:LoopState}{pe:Option Code}{bb:Bool}{Kv:KV}{K:VK} (s:VS P B Sb c h S) (hb:c.Z l=some b) (k:KR P B Sb c h S Kv K) (hv:PN l st pe bb h Kv):
 ∃T ps as bo Ax pe',S.obj b=some (.loop T ps as bo Ax pe')/\K (.bool bb) (S.set b (.loop T ps as bo st pe))=true:=by
 unfold PN at hv;split at hv
 ·rename_i ls vs n ps as bo Ax pe' e
  obtain⟨b',ao,b1,b2,b3,b4,b5⟩:=s.ob l _ e rfl;rw [hb]at b1;injection b1 with b1;subst b1;obtain⟨T,rfl,b6,b7,b8⟩:=b5
  obtain⟨s3,f3⟩:=s.Js e rfl hb (o:= .loop ls vs n ps as bo st pe) (ao:= .loop T ps as bo st pe) rfl (fun S' C' f=>⟨T,rfl,b6,b7,fun j i v e1 e2=>by
   obtain⟨w,g1,g2⟩:=b8 j i v e1 e2;exact⟨w,g1,g2.mono (.refl _) f⟩⟩)
  exact⟨T,ps,as,bo,Ax,pe',b4,k _ _ _ _ _ (.refl _) f3 s3 .bool hv⟩
 ·cases hv
theorem aAm{tb:FuncId->oN}{Ev:VE}{E:Env} (r:ER P B Sb Ev E) (l b:Nat){args:List V}{ws:List Value}{Kv:KV}{K:VK} (s:VS P B Sb c h S) (hb:c.Z l=some b) (ra:kE c S (cY B c h) args ws) (k:KR P B Sb c h S Kv K) (hv:RC P tb Ev l args h Kv):Er P tb E b ws S K=true:=by
 unfold RC at hv;split at hv
 ·rename_i ls vs n ps as bo st pe e
  obtain⟨rfl,hv⟩:=hv;obtain⟨b',ao,b1,b2,b3,b4,b5⟩:=s.ob l _ e rfl;rw [hb]at b1;injection b1 with b1;subst b1;obtain⟨T,rfl,rfl,b7,b8⟩:=b5;unfold Er;rw [Ol b4];simp only;have m0:Al (c.at S.n) S (cY B c h) []:=⟨bN _,.nil,fun d hd=>by cases hd⟩;obtain⟨us,rs,Br⟩:=aFM (g:=P.globals.size) b7 b8;rw [Br];unfold Nq at hv;refine JF (c:=c.at S.n) m0 (rs.qH (c.at0 _) .refl) hv fun X X' x hv=>?_;refine aC8 (g:=P.globals.size) (marks:=[]) (fun T1 T1' a hv=>?_) (ra.qH (c.at0 _) .refl) (show AR (c.at S.n) S (cY B c h) ⟨X.tmps,P.globals.size⟩ ⟨X'.tmps,[],P.globals.size⟩from⟨x.n,rfl,m0,x.got,x.abs⟩) hv
  have back:∀{c':Cx} {h':Hp} {S':St},(c.at S.n).le c'->yG (cY B c h) S S' (cY B c' h')->KR P B Sb (c'.at c.n0) h' S' Kv K:=by
   intro c' h' S' l1 f1 c2 h2 S2 v w l2 f2;have l3:c.le (c'.at c.n0):=⟨fun i b e=>l1.Z i b e,fun i n v e=>l1.G i n v e,fun i v e=>l1.Yz i v e,rfl⟩;exact k c2 h2 S2 v w (l3.trans l2) (f1.trans f2)
  refine OE r (Om r rS) as (s.at S.n) (.inr ⟨l,b,rfl,rfl,hb⟩) a ?_ hv;intro c' h' S' Y Y' e' l1 f1 s' y hv;cases e' with
  | exit i=>cases hv
  | ret=>cases hv
  | normal=>
   have hv:Jo l h' (fun S=>(kY P (tb (WW T.n bo)) (some l) (BL P (tb (WW T.n bo)) (some l) rS) bo).f Ev Y S (aM5 l Kv)):=hv;have PC:c'.Z l=some b:=l1.Z _ _ hb;unfold Jo at hv;split at hv
   ·rename_i ls2 vs2 n2 ps2 as2 bo2 pe2 e2
    obtain⟨b',ao,q1,q2,q3,q4,q5⟩:=s'.ob l _ e2 rfl;rw [PC]at q1;injection q1 with q1;subst q1;obtain⟨T2,rfl,q6,q7,q8⟩:=q5
    show(nV S'.h b fun o=>match o with
     | .loop tm ps as bo' .ready pe=>pX S' b (.loop tm ps as bo' .busy pe) fun S=>(nY P (tb (WW T.n bo)) (lpX P (tb (WW T.n bo)) rS) bo).f E (some b) Y' S (aHq b K)
     | _=>false)=true
    rw [Ol q4];simp only;rw [fZ]
    obtain⟨s3,f3⟩:=s'.Js e2 rfl PC (o:= .loop ls2 vs2 n2 ps2 as2 bo2 .busy pe2) (ao:= .loop T2 ps2 as2 bo2 .busy pe2) rfl (fun S' C' f=>⟨T2,rfl,q6,q7,fun j i v e1 e2=>by
     obtain⟨w,g1,g2⟩:=q8 j i v e1 e2;exact⟨w,g1,g2.mono (.refl _) f⟩⟩)
    refine OE r (Om r rS) bo s3 (.inr ⟨l,b,rfl,rfl,PC⟩) (y.mono (.refl _) f3) ?_ hv;intro c2 h2 S2 z0 Z' e3 l2 f2 s2 z hv;have OO:c2.Z l=some b:=l2.Z _ _ PC;have kk:=back (l1.trans l2) ((f1.trans f3).trans f2);unfold aHq;cases e3 with
    | normal=>
     obtain⟨T3,ps3,as3,bo3,st3,pe3,g1,g2⟩:=XO (s2.at c.n0) OO kk hv;rw [Ol g1];simp only;rw [fZ];exact g2
    | ret=>
     obtain⟨T3,ps3,as3,bo3,st3,pe3,g1,g2⟩:=XO (s2.at c.n0) OO kk hv;rw [Ol g1];simp only;rw [fZ];exact g2
    | exit i=>
     obtain⟨T3,ps3,as3,bo3,st3,pe3,g1,g2⟩:=XO (s2.at c.n0) OO kk hv;rw [Ol g1];simp only;rw [fZ];exact g2
   ·cases hv
 ·cases hv
def PS (P:Program) (B:Nat->Prop) (Sb:St) (ovv:Nr) (ov:FuncId->Option (List Value->St->VK->Bool)):Prop:=
 (∀f,ovv f=none->ov f=none)/\∀f g,ovv f=some g->∃g',ov f=some g'/\∀{args:List V} {ws:List Value} {c:Cx} {h:Hp} {S:St} {Kv:KV} {K:VK},VS P B Sb c h S->kE c S (cY B c h) args ws->KR P B Sb c h S Kv K->g args h Kv->g' ws S K=true
theorem aFN{tb:FuncId->oN}{ovv:Nr}{ov:FuncId->Option (List Value->St->VK->Bool)} (ho:PS P B Sb ovv ov) (most:Nat):∀n,ER P B Sb (Ns P tb ovv most n) (aCx P tb ov most n):=by
 intro n;induction n with
 | zero=>exact⟨rfl,rfl,fun f args ws c h S Kv K s ra k hv=>(by cases hv),fun l b args ws c h S Kv K s hb ra k hv=>(by cases hv)⟩
 | succ n ih=>
  refine⟨rfl,rfl,fun f args ws c h S Kv K s ra k hv=>?_,fun l b args ws c h S Kv K s hb ra k hv=>aAm ih l b s hb ra k hv⟩;have hv:(match ovv f with | some g=>g args h Kv | none=>pP P tb f (Ns P tb ovv most n) args h Kv):=hv;show(match ov f with | some g=>g ws S K | none=>fnX P tb f (aCx P tb ov most n) ws S K)=true;cases hf:ovv f with
  | none=>
   rw [hf]at hv;rw [ho.1 f hf];exact aHS ih f s ra k hv
  | some g=>
   rw [hf]at hv;obtain⟨g',e,hg⟩:=ho.2 f g hf;rw [e];exact hg s ra k hv
end
section
variable (P:Program) (T:oN) (r:Option Nat) (E:VE)
theorem Hy (m:Nat) (k k':Nat->Code->CV->Prop) (h:∀D c K,k D c K=nU m False fun _=>k' D c K):∀(p:List Dir) (D:Nat) (c:Code) (ms:List Nat) (K:CV),qF P T r E p D c ms K k=nU m False fun _=>qF P T r E p D c ms K k':=by
 have hf:(False:Prop)=nU m False fun _=>False:=by cases m<;>rfl
 intro p;induction p with
 | nil=>intro D c ms K;exact h D c K
 | cons q p ih=>
  intro D c ms K
  cases q<;>cases c<;>first
   | exact hf
   | exact ih _ _ _ _
   | (cases D with
      | zero=>exact hf
      | succ D=>cases ms with
       | nil=>exact hf
       | cons m ms=>exact ih _ _ _ _)
end
section
variable{P:Program}{tb:FuncId->oN}
theorem tP (f:FuncId) (E:VE) (p:List Dir) (ms:List Nat) (vs:List V) (S:Hp) (K:KV) (hm:E.most≠0):EC P tb f E p ms vs S K=BU P tb f E p ms vs S K:=by
 obtain⟨m,hm⟩:=eY hm;unfold EC BU;cases P.funcs[f]? with
 | none=>rfl
 | some fn=>
  simp only;cases fn.body with
  | none=>rfl
  | some c=>
   simp only
   rw [Hy P (tb f) none E E.most _ (fun D c K=>match mQ (tb f) c with
    | some l=>jC S fun S=>BK l vs fn.ntmps P.globals.size fun A=>(kY P (tb f) none (BL P (tb f) none D) c).f E A S K
    | none=>False) (fun D c K=>by
     cases mQ (tb f) c with
     | none=>rw [hm];rfl
     | some l=>rfl),hm]
   rfl
theorem aCQ{E:VE}{l n:Nat}{ls:List Nat}{vs args:List V}{ps:List Tmp}{as bo:Code}{st:LoopState}{pe:Option Code}{S:Hp}{K:KV} (h:S l=some (.loop ls vs n ps as bo st pe)) (e:ls=Jj tb n bo) (hr:Nq P tb E n ps as bo l vs args S K):RC P tb E l args S K:=by
 unfold RC;simp only [h];exact⟨e,hr⟩
theorem aJ{v:V}{S:Hp}{K:KV} (h:K v S):bD v S K:=⟨S,fun _=>v,fun _ _ h=>h,fun _=> .one (.rK v),fun _=>h⟩
theorem aQ{S:Hp}{k:Hp->Prop} (h:k S):jC S k:=⟨S,fun _ _ h=>h,h⟩
theorem MT{S:Hp}{k:Hp->Prop} (S':Hp) (l:gA S' S) (h:k S'):jC S k:=⟨S',l,h⟩
theorem VE.Jp{E:VE}{c:FuncId}{args:List V}{S:Hp}{K:KV} (h:E.C c args S K):E.call c args S K:=
 ⟨S,fun _=>args,fun _ _ h=>h,fun _=>⟨rfl,fun j v u a b=>by rw [a]at b;injection b with b;subst b;exact .rK v⟩,fun _=>h⟩
theorem aCR{ov:Nr}{most n:Nat}{f:FuncId} (h:ov f=none) (args:List V) (S:Hp) (K:KV):(Ns P tb ov most (n+1)).C f args S K=pP P tb f (Ns P tb ov most n) args S K:=by
 show(match(generalizing:=false) ov f with | some g=>g args S K | none=>pP P tb f (Ns P tb ov most n) args S K)=_;rw [h]
theorem aHG{ov:Nr}{most n:Nat}{f:FuncId}{g:List V->Hp->KV->Prop} (h:ov f=some g) (args:List V) (S:Hp) (K:KV):(Ns P tb ov most (n+1)).C f args S K=g args S K:=by
 show(match(generalizing:=false) ov f with | some g=>g args S K | none=>pP P tb f (Ns P tb ov most n) args S K)=_;rw [h]
end
section
variable{P:Program}{S S' S0:Hp}{K:KV}
theorem fG{i:Nat}{a b:Ob}:aR (aR S i a) i b=aR S i b:=by
 funext j
 unfold aR;by_cases h:j=i
 ·rw [if_pos h,if_pos h]
 ·rw [if_neg h,if_neg h,if_neg h]
theorem aFb{i j:Nat}{a b:Ob} (h:i≠j):aR (aR S i a) j b=aR (aR S j b) i a:=by
 funext k
 unfold aR;by_cases h1:k=j
 ·subst h1;rw [if_pos rfl,if_neg (dV h),if_pos rfl]
 ·rw [if_neg h1]
  by_cases h2:k=i
  ·rw [if_pos h2,if_pos h2]
  ·rw [if_neg h2,if_neg h2,if_neg h1]
theorem gA.refl (S:Hp):gA S S:=fun _ _ h=>h
theorem gA.trans{a b c:Hp} (h:gA a b) (k:gA b c):gA a c:=fun i o e=>k i o (h i o e)
theorem gA.aT{i:Nat}{a:Ob} (h:S i=none):gA S (aR S i a):=fun j o e=>by
 unfold aR;by_cases h1:j=i
 ·subst h1;rw [h]at e;cases e
 ·rw [if_neg h1];exact e
theorem gA.aR{i:Nat}{a:Ob} (h:gA S S'):gA (aR S i a) (aR S' i a):=fun j o e=>by
 unfold Am.aR at e ⊢;by_cases h1:j=i
 ·rw [if_pos h1]at e ⊢;exact e
 ·rw [if_neg h1]at e ⊢;exact h j o e
@[simp] theorem eL {i o:Nat} {vs:List V} {t:TypeId} (h:S i=some (.row vs t)):aH (.ptr i o) S K=TX vs o fun v=>K v S:=by
  show(match S i with | some (.row vs _)=>TX vs o fun v=>K v S | _=>False)=_;rw [h]
@[simp] theorem Zu {n i o:Nat} {vs:List V} {t:TypeId} (h:S i=some (.row vs t)):iP n (.ptr i o) S K=MQ vs o n fun l=>K (.agg l) S:=by
  show(match S i with | some (.row vs _)=>MQ vs o n fun l=>K (.agg l) S | _=>False)=_;rw [h]
theorem ZE{O:Tag}{cs:List Dt}{o:Nat}:aH (.sS O cs o) S K=TX cs o fun d=>K (T (.sub O o) d) S:=rfl
theorem aKw{n:Nat}{O:Tag}{cs:List Dt}{o:Nat}:iP n (.sS O cs o) S K=MQ cs o n fun l=>K (.agg (Tl O o l)) S:=rfl
theorem gF{off i o:Nat}{k:V->Prop}:aL off (.ptr i o) k=k (.ptr i (o+off)):=rfl
theorem bG{i o:Nat}{k:V->Prop}:cP P (.ptr i o) k=k (.ptr i o):=rfl
theorem bR{b:Bool}{p q:Prop}:pA (.bool b) p q=if b then p else q:=by cases b<;>rfl
theorem bO{c:Bool}{a b:V}{k:V->Prop}:cK (.bool c) a b k=k (if c then a else b):=by cases c<;>rfl
theorem aN{w:Bool}{op:KV->Prop}{k:KV}:aB w (.bool w) op S k=op k:=by cases w<;>rfl
theorem CX{op:KV->Prop}{k:KV}:aB true (.bool false) op S k=k JA S:=rfl
theorem dE{op:KV->Prop}{k:KV}:aB false (.bool true) op S k=k JA S:=rfl
theorem UA{O:Tag}{cs:List Dt}{n:Nat}{k:V->Prop}:dJ (.list O cs n) k=k (.int .i64 (.ofNat n)):=rfl
theorem RD{size n:Nat}{O:Tag}{cs:List Dt}{j:IntKind}{i:Nat} (h:i<n){k:V->Prop}:kX size (.list O cs n) (.int j (.ofNat i)) k=k (.sS O cs (i*size)):=by
 show(i<n/\_)=_;simp [h]
theorem lJ{α:Type}{l:List α}{i:Nat}{a:α} (h:l[i]? =some a){k:α->Prop}:TX l i k=k a:=by unfold TX;rw [h]
theorem qG{α:Type}{l:List α}{o n:Nat} (h:o+n<=l.length){k:List α->Prop}:MQ l o n k=k ((l.drop o).take n):=by unfold MQ;simp [h]
structure Made (el:TypeId) (size:Nat) (S0:Hp) (t:V) (S:Hp) (vs:List V) (n:Nat):Prop where
 is:(n=0/\t= .nil/\S=S0)\/∃i,t= .acc i n/\S0 i=none/\S=aR S0 i (.jK vs el n)
 len:vs.length=n*size
theorem Made.nil{el:TypeId}{size:Nat}:Made el size S0 .nil S0 [] 0:=⟨.inl ⟨rfl,rfl,rfl⟩,by simp⟩
theorem Made.app{el:TypeId}{size bytes n m:Nat}{t x:V}{vs new:List V} (a:Made el size S0 t S vs n) (hs:gA S S') (hf:∀i,S' i=none->S0 i=none) (hx:∀k:Nat->List V->Prop,k m new->HJ size x S' k) (hm:0<m) (hn:new.length=m*size) (ho:new.all tO=true) (hb:((n+m)*bytes<=140737488355328/\(n+m)<=140737488355328))
 (hk:∀t2 S2 S3,Made el size S0 t2 S3 (vs++new) (n+m)->gA S3 S2->K t2 S2):sE el size bytes t x S' K:=by
 obtain⟨p,rfl⟩:=eY (Nat.ne_of_gt hm);unfold sE;refine hx _ ?_;refine⟨ho,?_⟩;have hlen:(vs++new).length=(n+(p+1))*size:=by rw [bW,a.len,hn,kJ]
 rcases a.is with ⟨rfl,rfl,rfl⟩ | ⟨i,rfl,h0,rfl⟩
 ·have DQ:vs=[]:=lZ (by simpa using a.len)
  subst DQ;refine⟨by simpa using hb,fun i hi=>?_⟩;have h:=hk (.acc i (0+(p+1))) (aR S' i (.jK new el (0+(p+1)))) (aR S i (.jK new el (0+(p+1)))) ⟨.inr ⟨i,rfl,hf i hi,rfl⟩,by simpa using hlen⟩ hs.aR;simpa using h
 ·have e:S' i=some (.jK vs el n):=hs i _ aD
  simp only [e];refine⟨trivial,trivial,a.len,hb,?_⟩;refine hk _ _ (aR S0 i (.jK (vs++new) el (n+(p+1)))) ⟨.inr ⟨i,rfl,h0,rfl⟩,hlen⟩ ?_;have:=hs.aR (i:=i) (a:= .jK (vs++new) el (n+(p+1)))
  rwa [fG]at this
theorem gA.none{a b:Hp} (h:gA a b){i:Nat} (e:b i=none):a i=none:=by
 cases q:a i with
 | none=>rfl
 | some o=>rw [h i o q]at e;cases e
theorem xG{i j:Nat}{a:Ob} (e:aR S i a j=none):j≠i/\S j=none:=by
 by_cases h:j=i
 ·subst h;rw [aD]at e;cases e
 ·rw [aF h]at e;exact⟨h,e⟩
theorem Made.le{el:TypeId}{size n:Nat}{t:V}{vs:List V} (a:Made el size S0 t S vs n):gA S0 S:=by
 rcases a.is with ⟨_,_,rfl⟩ | ⟨i,_,h0,rfl⟩
 ·exact .refl _
 ·exact .aT h0
theorem Py.T{O:Tag}{d:Dt}:Py S' S (T O d) d:=by
 cases d with
 | int=>exact .int
 | bool=>exact .bool
 | str=>exact .str
 | list=>exact .list
theorem FR{el:TypeId}{n:Nat}{zero:List Value}{z cs:List V} (hz:IZ zero=some z) (Ps:z.length=n) (hc:cs.length=n) (ho:cs.all tO=true) (hk:∀j,S j=none->K (.own j 0 1 1) (aR S j (.row cs el))):cQ el 1 zero [(0,n,.agg cs)] S K:=by
 unfold cQ xF;rw [hz];show uT [(0,n,.agg cs)] (List.replicate 1 z).flatten _;unfold uT;refine⟨ho,hc,by simp [Ps],?_⟩;unfold uT;have:aG 0 cs (List.replicate 1 z).flatten=cs:=by simp [aG,hc,<-Ps]
 rw [this];exact hk
theorem HM{size i m c:Nat}{vs:List V}{t:TypeId} (h:S i=some (.row vs t)) (hl:vs.length=m*size){k:Nat->List V->Prop} (hk:k m vs):HJ size (.own i 0 m c) S k:=by
 unfold HJ;simp only [h];rw [qG (by omega),DE,uG (by omega)];exact hk
theorem cI{t:TypeId}{k:IntKind}{x y:Int}{K:V->Prop}:aE P .lss t (.int k x) (.int k y) K=K (.bool (decide (x<y))):=by simp [aE,vF,MR]
theorem kS{t:TypeId}{k:IntKind}{x y:Int}{K:V->Prop}:aE P .leq t (.int k x) (.int k y) K=K (.bool (decide (x<=y))):=by simp [aE,vF,MR]
theorem nR{t:TypeId}{k:IntKind}{x y:Int}{K:V->Prop}:aE P .gtr t (.int k x) (.int k y) K=K (.bool (decide (y<x))):=by simp [aE,vF,MR]
theorem nS{t:TypeId}{k:IntKind}{x y:Int}{K:V->Prop}:aE P .geq t (.int k x) (.int k y) K=K (.bool (decide (y<=x))):=by simp [aE,vF,MR]
theorem fB{t:TypeId}{k:IntKind}{x y:Int}{K:V->Prop}:aE P .eql t (.int k x) (.int k y) K=K (.bool (decide (x=y))):=by simp [aE,vF,MR]
theorem kT{t:TypeId}{k:IntKind}{x y:Int}{K:V->Prop}:aE P .neq t (.int k x) (.int k y) K=K (.bool (!decide (x=y))):=by simp [aE,vF,MR]
theorem kU{t:TypeId}{k:IntKind}{x y:Int}{K:V->Prop}:aE P .add t (.int k x) (.int k y) K=K (.int k (dW k (x+y))):=by simp [aE,vF,MR]
theorem gQ{t:TypeId}{k:IntKind}{x y:Int}{K:V->Prop}:aE P .sub t (.int k x) (.int k y) K=K (.int k (dW k (x-y))):=by simp [aE,vF,MR]
theorem Jq{t:TypeId}{k:IntKind}{x y:Int}{K:V->Prop}:aE P .mul t (.int k x) (.int k y) K=K (.int k (dW k (x*y))):=by simp [aE,vF,MR]
theorem XH{t:TypeId}{k:IntKind}{x y:Int} (hy:y≠0){K:V->Prop}:aE P .rem t (.int k x) (.int k y) K=K (.int k (x.tmod y)):=by simp [aE,vF,MR,hy]
theorem CY{t:TypeId}{x y:List UInt8}{K:V->Prop}:aE P .eql t (.str x) (.str y) K=K (.bool (decide (x=y))):=by simp [aE,aE8]
theorem XI{t:TypeId}{x y:List UInt8}{K:V->Prop}:aE P .neq t (.str x) (.str y) K=K (.bool (!decide (x=y))):=by simp [aE,aE8]
theorem wrap_small{n:Int} (h0: -9223372036854775808<=n) (h1:n<=9223372036854775807):dW .i64 n=n:=by
 rw [LI,SW _ _ (by simpa [IntKind.min,IntKind.bits,IntKind.signed]using h0) (by simpa [IntKind.max,IntKind.bits,IntKind.signed]using h1)]
theorem MU{i:Nat} (h:i<4611686018427387904):dW .i64 (Int.ofNat i+Int.ofNat 1)=Int.ofNat (i+1):=by
 rw [wrap_small]<;>simp<;>omega
end
def Deep (P:Program) (tb:FuncId->oN) (ov:Nr) (M:Nat):Nat->VE->Prop
 | 0,x=>x.most=M
 | n+1,x=>x.most=M/\(∀f g,ov f=some g->x.C f=g)/\∃y,Deep P tb ov M n y/\(∀f,ov f=none->∀args S K,x.C f args S K=pP P tb f y args S K)/\∀l args S K,x.R l args S K=RC P tb y l args S K
section
variable{P:Program}{tb:FuncId->oN}{ov:Nr}{M:Nat}{x:VE}{S:Hp}{K:KV}
theorem Deep.most{n:Nat} (h:Deep P tb ov M n x):x.most=M:=by cases n with | zero=>exact h | succ n=>exact h.1
theorem Deep.less{n:Nat} (h:Deep P tb ov M (n+1) x):Deep P tb ov M n x:=by
 induction n generalizing x with
 | zero=>exact h.1
 | succ n ih=>
  obtain⟨h1,h2,y,h3,h4⟩:=h;exact⟨h1,h2,y,ih h3,h4⟩
theorem Deep.call{n:Nat} (hx:Deep P tb ov M (n+1) x){f:FuncId} (hf:ov f=none){args:List V} (h:∀y,Deep P tb ov M n y->pP P tb f y args S K):x.call f args S K:=by
 obtain⟨h1,h2,y,h3,h4,_⟩:=hx;exact VE.Jp (by rw [h4 f hf];exact h y h3)
theorem Deep.round{n:Nat} (hx:Deep P tb ov M (n+1) x){l:Nat}{args:List V} (h:∀y,Deep P tb ov M n y->RC P tb y l args S K):x.R l args S K:=by
 obtain⟨h1,h2,y,h3,h4,h5⟩:=hx;rw [h5];exact h y h3
theorem Deep.GL{n:Nat} (hx:Deep P tb ov M (n+1) x){f:FuncId}{g:List V->Hp->KV->Prop} (hf:ov f=some g){args:List V} (h:g args S K):x.call f args S K:=by
 obtain⟨h1,h2,_⟩:=hx;exact VE.Jp (by rw [h2 f g hf];exact h)
theorem aCS (n:Nat):Deep P tb ov M n (Ns P tb ov M n):=by
 induction n with
 | zero=>rfl
 | succ n ih=>exact⟨rfl,fun f g h=>by funext args S K;exact aHG h args S K,_,ih,fun f h args S K=>aCR h args S K,fun l args S K=>rfl⟩
theorem pF{i o:Nat}{vs:List V}{t:TypeId}{v:V} (h:S i=some (.row vs t)) (ho:tO v=true) (hl:o<vs.length){k:Hp->Prop} (hk:k (aR S i (.row (aG o [v] vs) t))):sU 1 (.ptr i o) v S k:=by
 unfold sU;simp only [h];unfold yW;cases v<;>first | (cases ho;done) | exact⟨rfl,by omega,hk⟩
theorem jU{i o:Nat}{vs:List V}{t:TypeId}{v:V} (h:S i=some (.row vs t)) (hv:vs[o]? =some v) (hk:K v S):aH (.ptr i o) S K:=by
 rw [eL h,lJ hv];exact hk
theorem dZ{v:V}{S':Hp} (l:gA S' S) (h:K v S'):bD v S K:=⟨S',fun _=>v,l,fun _=> .one (.rK v),fun _=>h⟩
theorem mB{t:TypeId}{cs:List V} (ho:cs.all tO=true) (hk:∀i,S i=none->K (.ptr i 0) (aR S i (.row cs t))):tW t (.agg cs) S K:=⟨ho,hk⟩
theorem aHH{l:List UInt8}{k:V->Prop}:uD (.str l) k=k (.int .i64 (.ofNat l.length)):=rfl
theorem kV{z:List Value}{l:List V}{t:TypeId} (hz:IZ z=some l) (hk:∀i,S i=none->K (.ptr i 0) (aR S i (.row l t))):gZ z t S K:=by
 unfold gZ xF;rw [hz];exact hk
theorem UB{t:TypeId}{i o:Nat} (h:PO P t=some .ptr){k:V->Prop} (hk:k (.bool false)):aE P .eql t (.ptr i o) .sD k:=⟨rfl,h,.inr rfl,(fun e=>by cases e),hk⟩
theorem Tw{sh:KSh}{z a:V}{ok:Bool}{m:Nat}{es:List (V×V)} (hm:S m=some (.map es)) (ha:RB sh a) (ho:∀e∈es,RB sh e.1) (h1:∀v,Ak es a=some v->K (Nm ok v true) S) (h2:Ak es a=none->K (Nm ok z false) S):TZ sh z ok (.tM m) a S K:=by
 unfold TZ;simp only [hm];exact⟨ha,ho,h1,h2⟩
theorem nG{n i:Nat}{vs cs:List V}{t:TypeId} (h:S i=some (.row vs t)) (ho:cs.all tO=true) (hc:cs.length=n) (hl:vs.length=n){k:Hp->Prop} (hk:k (aR S i (.row cs t))):sU n (.ptr i 0) (.agg cs) S k:=by
 unfold sU;simp only [h];refine⟨ho,hc,by omega,?_⟩;have:aG 0 cs vs=cs:=by simp [aG,hc,<-hl]
 rw [this];exact hk
theorem jD{n i:Nat}{vs:List V}{t:TypeId} (h:S i=some (.row vs t)) (hl:vs.length=n) (hk:K (.agg vs) S):iP n (.ptr i 0) S K:=by
 rw [Zu h,qG (by omega),DE,uG (by omega)];exact hk
theorem xH{v:V}{k:Prop} (h:XD v=true) (hk:k):bH v v k:=⟨rfl,h,hk⟩
theorem oH{i:Nat}{vs:List V}{v:V}{k:V->Prop} (h:vs[i]? =some v) (hk:k v):pY i (.tuple vs) k:=by
 show TX vs i k;rw [lJ h];exact hk
theorem mC{w:Bool}{op:KV->Prop}{k:KV}:aB w JA op S k=k JA S:=by cases w<;>rfl
theorem rY{w:Bool}{u:V}{op:Prop->Prop}{k:Prop}:nF w (.bool w) u op k=op k:=by cases w<;>rfl
theorem vT{op:Prop->Prop}{k:Prop}:nF true (.bool false) JA op k=k:=rfl
theorem yX{op:Prop->Prop}{k:Prop}:nF false (.bool true) JA op k=k:=rfl
theorem XJ{w:Bool}{op:Prop->Prop}{k:Prop}:nF w JA JA op k=k:=by cases w<;>rfl
end
section
variable{P:Program}{S S' S0:Hp}{K:KV}{x:VE}
theorem uU{size n b:Nat}{j:IntKind}{i:Nat} (h:i<n){k:V->Prop}:kX size (.acc b n) (.int j (.ofNat i)) k=k (.nZ b n (i*size)):=by
 show(i<n/\_)=_;simp [h]
theorem Ff{size n b o q c:Nat}{j:IntKind}{i:Nat} (h:i<q){k:V->Prop}:kX size (.pO b n o q c) (.int j (.ofNat i)) k=k (.nZ b n (o+i*size)):=by
 show(i<q/\_)=_;simp [h]
theorem yY{b n:Nat}{k:V->Prop}:dJ (.acc b n) k=k (.int .i64 (.ofNat n)):=rfl
theorem Jr{b n o q c:Nat}{k:V->Prop}:dJ (.pO b n o q c) k=k (.int .i64 (.ofNat q)):=rfl
theorem NY{k:V->Prop}:dJ .nil k=k (.int .i64 (.ofNat 0)):=rfl
theorem Fg{i n o:Nat}{vs:List V}{t:TypeId}{v:V} (h:S i=some (.jK vs t n)) (hv:vs[o]? =some v) (hk:K v S):aH (.nZ i n o) S K:=by
 unfold aH;simp only [h];exact⟨trivial,by rw [lJ hv];exact hk⟩
theorem aM1{i n o:Nat}{vs:List V}{t:TypeId}{v:V} (h:S i=some (.jK vs t n)) (ho:tO v=true) (hl:o<vs.length){k:Hp->Prop} (hk:k (aR S i (.jK (aG o [v] vs) t n))):sU 1 (.nZ i n o) v S k:=by
 unfold sU;simp only [h];unfold yW;cases v<;>first | (cases ho;done) | exact⟨trivial,rfl,by omega,hk⟩
theorem UC{el size i n a:Nat}{vs:List V}{j:IntKind} (h:S i=some (.jK vs el n)) (hl:a<n){k:V->Prop} (hk:k (.pO i n (a*size) (n-a) (n-a))):JB el size (.acc i n) (some (.int j (.ofNat a))) none none S k:=by
 unfold JB;simp only [h];refine⟨trivial,trivial,?_⟩;show a<=n/\n<=n/\n<=n/\(a<n->k _)/\_;refine⟨by omega,by omega,by omega,fun _=>?_,fun e=>absurd e (by omega)⟩;rw [fK];exact hk
theorem Nt{el size i n a:Nat}{vs:List V}{j:IntKind} (h:S i=some (.jK vs el n)) (h0:0<n) (hl:a<=n){k:V->Prop} (hk:k (.pO i n 0 a n)):JB el size (.acc i n) none (some (.int j (.ofNat a))) none S k:=by
 unfold JB;simp only [h];refine⟨trivial,trivial,?_⟩;show 0<=a/\a<=n/\n<=n/\(0<n->k _)/\_;refine⟨by omega,by omega,by omega,fun _=>?_,fun e=>absurd e (by omega)⟩;simpa using hk
theorem aFc{el size i n:Nat}{vs:List V}{j:IntKind} (h:S i=some (.jK vs el n)){k:V->Prop} (hk:k (.emp i n)):JB el size (.acc i n) (some (.int j (.ofNat n))) none none S k:=by
 unfold JB;simp only [h];refine⟨trivial,trivial,?_⟩;show n<=n/\n<=n/\n<=n/\(n<n->k _)/\_;exact⟨by omega,by omega,by omega,fun e=>absurd e (by omega),fun _=>hk⟩
theorem Fh{zero:List Value}{z vs:List V}{i n o q c:Nat}{t:TypeId} (h:S i=some (.jK vs t n)) (hz:IZ zero=some z) (hq:0<q) (hl:o+(List.replicate q z).flatten.length<=vs.length){k:Hp->Prop} (hk:k (aR S i (.jK (aG o (List.replicate q z).flatten vs) t n))):MS zero (.pO i n o q c) S k:=by
 obtain⟨p,rfl⟩:=eY (Nat.ne_of_gt hq);unfold MS xF;simp only [hz,h];exact⟨trivial,hl,hk⟩
def del (S:Hp) (i:Nat):Hp:=fun j=>if j=i then none else S j
theorem aFd{i:Nat}:gA (del S i) S:=fun j o e=>by
 unfold del at e;by_cases h:j=i
 ·rw [if_pos h]at e;cases e
 ·rw [if_neg h]at e;exact e
theorem aFe{i:Nat}:del S i i=none:=if_pos rfl
theorem aFf{l n:Nat}{ls:List Nat}{vs:List V}{ps:List Tmp}{as bo:Code}{pe:Option Code} (h:S l=some (.loop ls vs n ps as bo .ready pe)){k:Hp->Prop} (hk:k (aR S l (.loop ls vs n ps as bo .busy pe))):Jo l S k:=by
 unfold Jo;simp only [h];exact hk
theorem Tx{l n:Nat}{ls:List Nat}{vs:List V}{ps:List Tmp}{as bo:Code}{st Ax:LoopState}{pe pe':Option Code}{b:Bool} (h:S l=some (.loop ls vs n ps as bo st pe)) (hk:K (.bool b) (aR S l (.loop ls vs n ps as bo Ax pe'))):PN l Ax pe' b S K:=by
 unfold PN;simp only [h];exact hk
theorem Ty{l n:Nat}{ls:List Nat}{vs:List V}{ps:List Tmp}{as bo:Code}{st:LoopState}{pe:Option Code} (h:S l=some (.loop ls vs n ps as bo st pe)) (hs:st≠ .busy){k:Option Code->Hp->Prop} (hk:k pe (aR S l (.loop ls vs n ps as bo .exhausted pe))):Tv l S k:=by
 unfold Tv;simp only [h];cases st<;>first | exact absurd rfl hs | exact hk
theorem aCT{g n:Nat}{a c:List V}{ls:List Nat}{vs:List V}{ps:List Tmp}{as bo:Code}{k:Option Code->Hp->Prop} (hk:∀l,S l=none->x.call g (a++[.yield l]++c) (aR S l (.loop ls vs n ps as bo .ready none)) fun _ S=>Tv l S k):XK x (.func g a c) ls vs n ps as bo S k:=hk
theorem aHI{kn kr:Prop}{ke:Nat->Prop}:ZB none kn kr ke=kn:=rfl
theorem aHJ{kn kr:Prop}{ke:Nat->Prop}:ZB (some .ret) kn kr ke=kr:=rfl
theorem aFg{l:Nat}{args:List V}:fF x (.yield l) args S K=x.R l args S K:=rfl
theorem RE{vs:List V}{o:Nat}{v:V} (h:o<vs.length):aG o [v] vs=vs.set o v:=by
 unfold aG;apply uH;intro j;rw [Ck];by_cases h1:j<o
 ·rw [if_neg (by omega),KX,fQ (by rw [iX];omega),kZ,if_pos h1]
 ·by_cases h2:j=o
  ·subst h2
   rw [if_pos rfl,if_pos h,fQ (by simp;omega),iO (by rw [iX];omega),iX];rw [show j-min j vs.length=0 by omega];rfl
  ·rw [if_neg (by omega),iO (by simp;omega),kI]
   simp only [bW,iX,rZ,PZ];rw [show o+(0+1)+(j-(min o vs.length+(0+1)))=j by omega]
end
section
variable{P:Program}{S S':Hp}{K:KV}{x:VE}
theorem aX{off i:Nat}{k:V->Prop}:aL off (.ptr i 0) k=k (.ptr i off):=by show k (.ptr i (0+off))=_;rw [fK]
theorem MV{a:V}{l:List V}{k:V->Prop}:pY 0 (.tuple (a::l)) k=k a:=rfl
theorem MW{a b:V}{l:List V}{k:V->Prop}:pY 1 (.tuple (a::b::l)) k=k b:=rfl
theorem mZ{v:V}{p:Prop} (h:XD v=true):bH v v p=p:=propext ⟨fun q=>q.2.2,fun q=>⟨rfl,h,q⟩⟩
theorem vG{k:IntKind}{z:Int}{p:Prop}:bH (.int k z) (.int k z) p=p:=mZ rfl
theorem aBz{l:List UInt8}{p:Prop}:bH (.str l) (.str l) p=p:=mZ rfl
theorem NZ{b:Bool}{p:Prop}:bH (.bool b) (.bool b) p=p:=mZ rfl
theorem Nu{i o:Nat}{p:Prop}:bH (.ptr i o) (.ptr i o) p=p:=mZ rfl
theorem iJ{b:Bool}{k:V->Prop}:NX .not (.bool b) k=k (.bool (!b)):=rfl
theorem CZ{v:V}{b:Bool}{cs:List Dt}{n:Nat} (l:gA S' S) (h:Py S' S v (.list cs n)) (hk:∀O,K (.tuple [.list O cs n,.bool b]) S'):bD (.tuple [v,.bool b]) S K:=by
 refine⟨S',fun O=> .tuple [.list (O 0) cs n,.bool b],l,fun O=> .tup ⟨rfl,fun j v u e1 e2=>?_⟩,fun O=>hk _⟩
 match j with
 | 0=>simp at e1 e2;subst e1 e2;exact .dat h
 | 1=>simp at e1 e2;subst e1 e2;exact .rK _
 | j+2=>simp at e1
theorem MX{v:V}{cs:List Dt}{n:Nat} (l:gA S' S) (h:Py S' S v (.list cs n)) (hk:∀O,K (.list O cs n) S'):bD v S K:=
 ⟨S',fun O=> .list (O 0) cs n,l,fun _=> .one (.dat h),fun _=>hk _⟩
end
end Go.Am
namespace Go.Rm
open Go.ChangeMaps (setBlock)
open Go Go.ChangeMaps Go.MapKept
structure EB (es:Array MapEntry) (clock:Nat):Prop where
 old:∀x∈es.toList,x.born<clock
 nodup:(es.toList.map (·.born)).Nodup
def MN (w:World) (b r:Nat) (es:Array MapEntry) (clock:Nat) (done todo:List MapEntry):Prop:=
 w.heap[b]? =some (.map es clock)/\EB es clock/\
 (∃seen c0,w.heap[r]? =some (.mapIter (some b) clock seen c0)/\clock<=c0/\todo=(leftOf es seen).toList)/\(done++todo).Perm es.toList
variable{P:Program}{w:World}{b r:Nat}{es:Array MapEntry}{clock:Nat}{done todo:List MapEntry}
theorem MN.ne (h:MN w b r es clock done todo):r≠b:=by
 obtain⟨hb,_,⟨seen,c0,hr,_⟩,_⟩:=h;intro e;rw [e,hb]at hr;cases hr
theorem MN.lt (h:MN w b r es clock done todo):r<w.heap.size:=by
 obtain⟨hb,_,⟨seen,c0,hr,_⟩,_⟩:=h;exact(Array.getElem?_eq_some_iff.1 hr).1
theorem MN.aKl (h:MN w b r es clock done todo):b<w.heap.size:=(Array.getElem?_eq_some_iff.1 h.1).1
theorem MN.left_eq (h:MN w b r es clock done todo):w.rangeLeft b r=todo.length:=by
 obtain⟨hb,_,⟨seen,c0,hr,_,ht⟩,_⟩:=h;simp only [World.rangeLeft,hb,hr,ht];simp
theorem MN.XA{w':World} (h:MN w b r es clock done todo) (PC:w'.heap[b]? =w.heap[b]?) (hr':w'.heap[r]? =w.heap[r]?):MN w' b r es clock done todo:=by
 obtain⟨hb,hs,⟨seen,c0,hr,hc,ht⟩,hp⟩:=h;exact⟨PC.trans hb,hs,⟨seen,c0,hr'.trans hr,hc,ht⟩,hp⟩
theorem MN.kept{w':World}{row:Option Nat} (h:MN w b r es clock done todo) (hg:w.grownBy w' row) (PC:some b≠row) (hr':some r≠row):MN w' b r es clock done todo:=
 h.XA (hg.block b h.aKl PC) (hg.block r h.lt hr')
theorem MN.start (hb:w.heap[b]? =some (.map es clock)) (hs:EB es clock):MN (w.alloc (.mapIter (some b) clock #[] clock)) b w.heap.size es clock [] es.toList:=by
 have hlt:=(Array.getElem?_eq_some_iff.1 hb).1;refine⟨((MapKept.heap_alloc w _).2 b hlt).trans hb,hs,⟨#[],clock,(MapKept.heap_alloc w _).1,Nat.le_refl _,?_⟩,by simp⟩;unfold leftOf;rw [Array.toList_filter,List.filter_eq_self.2];intro x _;simp
theorem XB{l:List MapEntry} (hn:(l.map (·.born)).Nodup){e:MapEntry} (he:e∈l):l.Perm (e::l.filter (fun x=> !(x.born==e.born))):=by
 induction l with
 | nil=>cases he
 | cons a l ih=>
  simp only [List.map_cons,List.nodup_cons]at hn;by_cases hae:a=e
  ·subst hae
   simp only [List.filter_cons,beq_self_eq_true,Bool.not_true,Bool.false_eq_true,if_false];rw [List.filter_eq_self.2];intro x hx;have:x.born≠a.born:=fun h=>hn.1 (h▸List.mem_map.2 ⟨x,hx,rfl⟩);simp [this]
  ·have Wi:e∈l:=by
    rcases List.mem_cons.1 he with h | h
    ·exact absurd h.symm hae
    ·exact h
   have hb:a.born≠e.born:=fun h=>hn.1 (h▸List.mem_map.2 ⟨e,Wi,rfl⟩)
   have:(a::l).filter (fun x=> !(x.born==e.born))=a::l.filter (fun x=> !(x.born==e.born)):=by
    simp [hb]
   rw [this];exact((ih hn.2 Wi).cons a).trans (List.Perm.swap e a _)
theorem MN.next (h:MN w b r es clock done todo) (ty:TypeId):
 (todo=[]/\(Instr.next (.pointer (some ⟨r,0,none⟩)) false ty).run P w= .ok (.tuple #[.bool false]) w)\/
 ∃e uS w',todo.Perm (e::uS)/\(Instr.next (.pointer (some ⟨r,0,none⟩)) false ty).run P w= .ok (.tuple #[.bool true,e.key,e.val]) w'/\
  MN w' b r es clock (done++[e]) uS/\w.grownBy w' (some r)/\w'.heap.size=w.heap.size/\(Instr.entry (.pointer (some ⟨r,0,none⟩))).run P w'= .ok (.tuple #[e.key,e.val]) w':=by
 have uR:=h.ne;obtain⟨hb,hs,⟨seen,c0,hr,hc,ht⟩,hp⟩:=h;rcases run_next_at (P:=P) w ty r b clock c0 seen es clock hr hb hs.old hc with ⟨h0,dD⟩ | ⟨e,he,w1,hal,dD⟩
 ·left
  refine⟨?_,dD⟩;rw [ht];exact List.eq_nil_of_length_eq_zero (by simpa using h0)
 ·right
  have hem:e∈es.toList:=by
   have:=(mem_left he).1;exact this
  have Iq:w1.heap[r]? =some (.mapIter (some b) clock seen c0):=by rcases hal with rfl | rfl<;>exact hr
  have Dp:w1.heap[b]? =some (.map es clock):=by rcases hal with rfl | rfl<;>exact hb
  have QQ:=heap_set (o':= .mapIter (some b) clock (seen.push e.born) clock) Iq;have PC:(setBlock w1 r (.mapIter (some b) clock (seen.push e.born) clock)).heap[b]? =some (.map es clock):=(QQ.2 b (fun e1=>uR e1.symm)).trans Dp
  have IC:((leftOf es seen).toList.map (·.born)).Nodup:=by
   refine hs.nodup.sublist ?_;refine List.Sublist.map _ ?_;unfold leftOf;rw [Array.toList_filter];exact List.filter_sublist
  have hpe:=XB IC he
  have aAY:(leftOf es (seen.push e.born)).toList=(leftOf es seen).toList.filter (fun x=> !(x.born==e.born)):=by
   unfold leftOf;rw [Array.toList_filter,Array.toList_filter,List.filter_filter]
   congr 1
   funext x
   rw [contains_push];cases seen.contains x.born<;>cases(x.born==e.born)<;>rfl
  refine⟨e,(leftOf es (seen.push e.born)).toList,_,by rw [ht,aAY];exact hpe,dD,⟨PC,hs,⟨_,clock,QQ.1,Nat.le_refl _,rfl⟩,?_⟩,?_,?_,run_entry_at _ r b clock seen es clock e QQ.1 PC hem hs.nodup⟩
  ·rw [aAY,List.append_assoc]
   exact((hpe.symm).append_left done).trans (ht▸hp)
  ·rcases hal with rfl | rfl<;>exact⟨rfl,rfl,rfl,by simp [setBlock],fun i _ hi=>QQ.2 i (fun e1=>hi (by rw [e1]))⟩
  ·rcases hal with rfl | rfl<;>simp [setBlock]
section
variable{ops:Array Oper}{rest:List Oper}{o:Oper}{a:Act}{Q:Exit->Act->World->Prop}
theorem XC (hg:o.guard=none) (m:Operand) (t:TypeId) (KG:o.op=Op.range t m) (k e:TypeId) (ht:P.underlying t=some (.map k e))
 (hm:a.eval m= .map (some b)) (hb:w.heap[b]? =some (.map es clock)) (hs:EB es clock)
 (hK:∀w',w'=w.alloc (.mapIter (some b) clock #[] clock)->MN w' b w.heap.size es clock [] es.toList->wpList P ops Q rest (a.put o.dst (.pointer (some ⟨w.heap.size,0,none⟩))) w'):
 wpList P ops Q (o::rest) a w:=by
 refine wpList_plain hg fun K' hK'=>?_;unfold Oper.wp;simp [execOp,KG,hm,run_range_map w t k e b es clock ht hb,Result.andThen];exact hK' _ _ (hK _ rfl (MN.start hb hs))
theorem Ai (hg:o.guard=none) (it:Operand) (KG:o.op=Op.next it false) (hit:a.eval it= .pointer (some ⟨r,0,none⟩)) (h:MN w b r es clock done todo)
 (aEY:todo=[]->wpList P ops Q rest (a.put o.dst (.tuple #[.bool false])) w)
 (aEZ:∀(e:MapEntry) (uS:List MapEntry) (w':World),todo.Perm (e::uS)->MN w' b r es clock (done++[e]) uS->w.grownBy w' (some r)->w'.heap.size=w.heap.size->
  (Instr.entry (.pointer (some ⟨r,0,none⟩))).run P w'= .ok (.tuple #[e.key,e.val]) w'->wpList P ops Q rest (a.put o.dst (.tuple #[.bool true,e.key,e.val])) w'):
 wpList P ops Q (o::rest) a w:=by
 refine wpList_plain hg fun K' hK'=>?_;unfold Oper.wp;rcases h.next (P:=P) o.type with ⟨h0,dD⟩ | ⟨e,uS,w',hp,dD,Px,hgr,hsz,hen⟩
 ·simp [execOp,KG,hit,dD,Result.andThen]
  exact hK' _ _ (aEY h0)
 ·simp [execOp,KG,hit,dD,Result.andThen]
  exact hK' _ _ (aEZ e uS w' hp Px hgr hsz hen)
variable{F:Fence}{n:Nat}
theorem QY (hg:o.guard=none) (m:Operand) (t:TypeId) (KG:o.op=Op.range t m) (k e:TypeId) (ht:P.underlying t=some (.map k e))
 (hm:a.eval m= .map (some b)) (hb:w.heap[b]? =some (.map es clock)) (hs:EB es clock)
 (hK:∀w',w'=w.alloc (.mapIter (some b) clock #[] clock)->MN w' b w.heap.size es clock [] es.toList->wpListIn F n P ops Q rest (a.put o.dst (.pointer (some ⟨w.heap.size,0,none⟩))) w'):
 wpListIn F n P ops Q (o::rest) a w:=by
 refine wpListIn_plain hg fun K' hK'=>?_;unfold Oper.wpIn;refine⟨by simp [Oper.about,KG],?_⟩;rw [Oper.semAt_plain F _ _ (by rw [KG];intro c hc';cases hc')];simp [execOp,KG,hm,run_range_map w t k e b es clock ht hb,Result.andThen];exact hK' _ _ (hK _ rfl (MN.start hb hs))
theorem TS (hg:o.guard=none) (it:Operand) (KG:o.op=Op.next it false) (hit:a.eval it= .pointer (some ⟨r,0,none⟩)) (h:MN w b r es clock done todo)
 (aEY:todo=[]->wpListIn F n P ops Q rest (a.put o.dst (.tuple #[.bool false])) w)
 (aEZ:∀(e:MapEntry) (uS:List MapEntry) (w':World),todo.Perm (e::uS)->MN w' b r es clock (done++[e]) uS->w.grownBy w' (some r)->w'.heap.size=w.heap.size->
  (Instr.entry (.pointer (some ⟨r,0,none⟩))).run P w'= .ok (.tuple #[e.key,e.val]) w'->wpListIn F n P ops Q rest (a.put o.dst (.tuple #[.bool true,e.key,e.val])) w'):
 wpListIn F n P ops Q (o::rest) a w:=by
 refine wpListIn_plain hg fun K' hK'=>?_;unfold Oper.wpIn;refine⟨by simp [Oper.about,KG],?_⟩;rw [Oper.semAt_plain F _ _ (by rw [KG];intro c hc';cases hc')];rcases h.next (P:=P) o.type with ⟨h0,dD⟩ | ⟨e,uS,w',hp,dD,Px,hgr,hsz,hen⟩
 ·simp [execOp,KG,hit,dD,Result.andThen]
  exact hK' _ _ (aEY h0)
 ·simp [execOp,KG,hit,dD,Result.andThen]
  exact hK' _ _ (aEZ e uS w' hp Px hgr hsz hen)
end
end Go.Rm
namespace Go.Am
open Go.RowKit Go.MapKept
theorem mapM_some{α β:Type}{f:α->Option β}:∀{l:List α} {xs:List β},l.mapM f=some xs->xs.length=l.length/\∀(i:Nat) (a:α),l[i]? =some a->∃x,xs[i]? =some x/\f a=some x:=by
 intro l;induction l with
 | nil=>intro xs h;simp at h;subst h;exact⟨rfl,fun i a h=>by simp at h⟩
 | cons b l ih=>
  intro xs h;rw [VV]at h;cases hb:f b with
  | none=>rw [hb]at h;cases h
  | some y=>
   rw [hb]at h;cases hl:l.mapM f with
   | none=>rw [hl]at h;cases h
   | some ys=>
    rw [hl]at h;have h:some (y::ys)=some xs:=h;injection h with h;subst h;obtain⟨i1,i2⟩:=ih hl;refine⟨by simp [i1],fun i a ha=>?_⟩;cases i with
    | zero=>simp at ha;subst ha;exact⟨y,rfl,hb⟩
    | succ i=>simpa using i2 i a (by simpa using ha)
def Yg (P:Program) (g:TypeId->Option (List It)):List Field->Nat->Option (List It)
 | [],_=>some []
 | fd::fs,off=>if fd.offset=off then match g fd.type,bP P fd.type with
  | some its,some m=>if m=its.length then(Yg P g fs (off+m)).map (its++ ·)else none
  | _,_=>none else none
def Sj (P:Program):Nat->TypeId->Option (List It)
 | 0,_=>none
 | f+1,t=>match P.underlying t with
  | some .bool=>some [.is]
  | some (.int .u64)=>some [.num]
  | some (.int .u8)=>some [.kind]
  | some (.int .i64)=>some [.int]
  | some .string=>some [.text]
  | some (.slice e)=>match Sj P f e,bP P e,P.bytesOf e with
   | some (i::its),some m,by0+1=>if m=its.length+1/\Yh (i::its)<=by0+1 then(match i,its with | .num,[]=>some [.nums] | i,its=>some [.list (i::its)])else none
   | _,_,_=>none
  | some (.struct fs)=>match Yg P (Sj P f) fs.toList 0,bP P t with
   | some its,some m=>if m=its.length then some its else none
   | _,_=>none
  | _=>none
def Lay (P:Program) (w:World) (U:Rn) (S:St):Prop:=Rel P w U S w/\∀i o,S.obj i=some o->o.reads=true
section
variable{P:Program}{w:World}
theorem Lay.add{U:Rn}{S:St} (h:Lay P w U S) (vs:List Value) (e:TypeId) (L:Loc){cs:Array Value}{t:TypeId}{fz:Nat×Nat} (hb:w.heap[L.b]? =some (.cells cs t fz))
 (hc:∀(j:Nat) (v:Value),vs[j]? =some v->∃v',cs[L.s+j]? =some v'/\VR U v v') (hm:bP P e=some L.m) (hz:∀j,j<vs.length->¬(fz.1<=L.s+j/\L.s+j<fz.2)):
 Lay P w (U.put S.n L) (S.new (.cells vs e .rs))/\Ext U (U.put S.n L):=by
 obtain⟨h,hr⟩:=h;have FG:=h.Pt S.n (bN _);have he:Ext U (U.put S.n L):=Rn.FH FG
 have oT:∀j M,U.put S.n L j=some M->(j=S.n/\M=L)\/(j≠S.n/\U j=some M):=fun j M hj=>by
  unfold Rn.put at hj;by_cases e:j=S.n
  ·rw [if_pos e]at hj;injection hj with hj;exact .inl ⟨e,hj.symm⟩
  ·rw [if_neg e]at hj;exact .inr ⟨e,hj⟩
 have oL:∀j x,(S.new (.cells vs e .rs)).obj j=some x->(j=S.n/\x= .cells vs e .rs)\/(j≠S.n/\S.obj j=some x):=fun j x hx=>by
  rw [IQ]at hx;by_cases e:j=S.n
  ·rw [if_pos e]at hx;injection hx with hx;exact .inl ⟨e,hx.symm⟩
  ·rw [if_neg e]at hx;exact .inr ⟨e,hx⟩
 have MF:∀j x,(S.new (.cells vs e .rs)).obj j=some x->x.reads=true:=fun j x hx=>by
  rcases oL j x hx with ⟨_,rfl⟩ | ⟨_,hx⟩
  ·rfl
  ·exact hr j x hx
 have hlt:L.b<w.heap.size:=(mN.1 hb).1;refine⟨⟨⟨fun g hg=>let⟨M,h1,h2⟩:=h.ZZ g hg;⟨M,he _ _ h1,h2⟩,fun j x hx=>?_,fun j hj=>?_,fun j x hx=>?_,fun j M hj=>?_,fun i j a b M N KE ha PC _ _ _ _ _=> .inl ⟨MF i a ha,MF j b PC⟩,fun j us e' olds hj i hi=>?_,h.base⟩,MF⟩,he⟩
 ·rcases oL j x hx with ⟨rfl,rfl⟩ | ⟨_,hx⟩
  ·exact⟨L,cs,t,fz,Rn.jN _ _ _,hb,fun j v hv=>let⟨v',a,b⟩:=hc j v hv;⟨v',a,b.mono he⟩,hm,hz⟩
  ·exact(h.DK j x hx).frame he fun _ _=>rfl
 ·have YH:S.n+1<=j:=hj
  unfold Rn.put;rw [if_neg (by omega)];exact h.Pt j (by omega)
 ·rcases oL j x hx with ⟨rfl,_⟩ | ⟨_,hx⟩
  ·exact vI _
  ·exact nT (h.lt j x hx)
 ·rcases oT j M hj with ⟨_,rfl⟩ | ⟨_,hM⟩
  ·exact hlt
  ·exact h.loc j M hM
 ·have:=MF j _ hj
  simp [gV.reads]at this
def rI (P:Program) (w:World) (cs:List Value) (its:List It):Prop:=
 ∀(U:Rn) (S:St),Lay P w U S->∃U' S' vs ds,Ext U U'/\Lay P w U' S'/\IX S S'/\kK U' vs cs/\RdA S' (fun _=>False) its vs ds
theorem IX.none{S S':St} (h:IX S S'):yG (fun _=>False) S S' (fun _=>False):=h.fr _
theorem rI.plain{v:Value}{it:It}{d:D} (hf:bA v=true) (hr:∀S,Rd S (fun _=>False) it v d):rI P w [v] [it]:=fun U S h=>
 ⟨U,S,[v],[d],.refl U,h,.refl S,.cons (.flat hf) (.nil U),rfl,rfl,fun j it' v' d' a b c=>by
  cases j with
  | zero=>simp at a b c;subst a b c;exact hr S
  | succ j=>simp at a⟩
theorem rI.append{a b:List Value}{x y:List It} (h:rI P w a x) (k:rI P w b y):rI P w (a++b) (x++y):=fun U S hl=>by
 obtain⟨U1,S1,v1,d1,e1,l1,x1,r1,s1⟩:=h U S hl;obtain⟨U2,S2,v2,d2,e2,l2,x2,r2,s2⟩:=k U1 S1 l1;refine⟨U2,S2,v1++v2,d1++d2,e1.trans e2,l2,x1.trans x2,(r1.mono e2).append r2,by simp [s1.len,s2.len],by simp [s1.Ml,s2.Ml],fun j it v d p q r=>?_⟩;have s1':=s1.fr x2.none;by_cases hj:j<x.length
 ·rw [fQ hj]at p
  rw [fQ (by rw [s1.len];exact hj)]at q;rw [fQ (by rw [s1.Ml];exact hj)]at r;exact s1'.rd j it v d p q r
 ·rw [iO (by omega)]at p
  rw [iO (by rw [s1.len];omega),s1.len]at q;rw [iO (by rw [s1.Ml];omega),s1.Ml]at r;exact s2.rd _ it v d p q r
theorem aHe{its:List It}:∀{css:List (List Value)},(∀cs∈css,rI P w cs its)->∀(U:Rn) (S:St),Lay P w U S->∃(U':Rn) (S':St) (vss:List (List Value)) (dss:List (List D)),Ext U U'/\Lay P w U' S'/\IX S S'/\vss.length=css.length/\dss.length=css.length/\
 (∀(k:Nat) (vs cs:List Value),vss[k]? =some vs->css[k]? =some cs->kK U' vs cs)/\∀(k:Nat) (vs:List Value) (ds:List D),vss[k]? =some vs->dss[k]? =some ds->RdA S' (fun _=>False) its vs ds:=by
 intro css;induction css with
 | nil=>intro _ U S h;exact⟨U,S,[],[],.refl U,h,.refl S,rfl,rfl,by simp,by simp⟩
 | cons cs css ih=>
  intro wK U S h;obtain⟨U1,S1,v1,d1,e1,l1,x1,r1,s1⟩:=wK cs (.head _) U S h;obtain⟨U2,S2,vss,dss,e2,l2,x2,n1,n2,r2,s2⟩:=ih (fun c hc=>wK c (.tail _ hc)) U1 S1 l1;refine⟨U2,S2,v1::vss,d1::dss,e1.trans e2,l2,x1.trans x2,by simp [n1],by simp [n2],fun k vs cs' a b=>?_,fun k vs ds a b=>?_⟩
  ·cases k with
   | zero=>simp at a b;subst a b;exact r1.mono e2
   | succ k=>exact r2 k vs cs' (by simpa using a) (by simpa using b)
  ·cases k with
   | zero=>simp at a b;subst a b;exact s1.fr x2.none
   | succ k=>exact s2 k vs ds (by simpa using a) (by simpa using b)
theorem YU{α:Type}{m:Nat}:∀{l:List (List α)},(∀x∈l,x.length=m)->∀(k j:Nat),j<m->l.flatten[k*m+j]? =(l[k]?).bind (·[j]?):=by
 intro l;induction l with
 | nil=>intro _ k j _;simp
 | cons x l ih=>
  intro h k j hj;have hx:=h x (.head _);cases k with
  | zero=>
   rw [VP,fQ (by omega)];simp
  | succ k=>
   rw [VP,iO (by rw [hx,kJ];omega),hx];rw [show(k+1)*m+j-m=k*m+j by rw [kJ];omega,ih (fun y hy=>h y (.tail _ hy)) k j hj];simp
theorem Sl{α:Type}{m:Nat}:∀{l:List (List α)},(∀x∈l,x.length=m)->l.flatten.length=l.length*m:=by
 intro l;induction l with
 | nil=>intro _;simp
 | cons x l ih=>intro h;rw [VP,bW,h x (.head _),ih fun y hy=>h y (.tail _ hy),rZ,kJ];omega
end
section
variable{P:Program}{w:World}
theorem YV{a:Addr}{n:Nat}{cs:List Value} (h:w.cells? 0 a n=some cs) (hn:0<n):∃c t fz,w.heap[a.block]? =some (.cells c t fz)/\a.spot=none:=by
 unfold World.cells? at h;rw [if_pos (mP _)]at h;obtain⟨_,h2⟩:=mapM_some h;obtain⟨x,_,hx⟩:=h2 0 0 (by simp [hn]);have hx:w.cell? a=some x:=by simpa [Addr.add]using hx
 unfold World.cell? at hx;cases hb:w.heap[a.block]? with
 | none=>rw [hb]at hx;cases hx
 | some o=>
  rw [hb]at hx;cases o with
  | cells c t fz=>
   simp only at hx;cases hs:a.spot with
   | none=>exact⟨c,t,fz,rfl,rfl⟩
   | some s=>rw [hs]at hx;simp at hx
  | _=>cases hx
theorem aCo{b off n:Nat}{cs:List Value}{c:Array Value}{t:TypeId}{fz:Nat×Nat} (h:w.cells? 0 ⟨b,off,none⟩ n=some cs) (hb:w.heap[b]? =some (.cells c t fz)):cs.length=n/\∀(j:Nat) (v:Value),cs[j]? =some v->c[off+j]? =some v:=by
 unfold World.cells? at h;rw [if_pos (mP _)]at h;obtain⟨h1,h2⟩:=mapM_some h;have h1:cs.length=n:=by simpa using h1
 refine⟨h1,fun j v hv=>?_⟩;have hj:j<n:=by rw [<-h1];exact(cZ.1 hv).1
 obtain⟨x,hx,hc⟩:=h2 j j (by simp [hj]);rw [hv]at hx;injection hx with hx;subst hx;rw [lF]at hc;unfold World.cell? at hc;rw [hb]at hc;simpa using hc
variable{H:Type}{enc:TypeId×Value->H}
theorem Sm{e:TypeId}{x:Nat}:∀{l:List (DataW H)} {d:DataW H},d∈l->x∈d.weights P e->x∈DataW.weightsAll P e l:=by
 intro l;induction l with
 | nil=>intro d h;cases h
 | cons y l ih=>
  intro d h hx;rw [DataW.weightsAll];rcases cO.1 h with rfl | h
  ·exact oR.2 (.inl hx)
  ·exact oR.2 (.inr (ih h hx))
theorem aCp{g:TypeId->Option (List It)}:∀{fs:List Field} {off:Nat} {its:List It},Yg P g fs off=some its->∀(cs:List Value) (F:TypeId->List Value->Option (DataW H×List MemPlace)) (xs:List (DataW H×List MemPlace)),
 (fs.mapM fun f=>F f.type ((cs.drop f.offset).take (P.cellsOf f.type)))=some xs->cs.length=off+its.length->
 (∀(k:Nat) (f:Field) (x:DataW H×List MemPlace),fs[k]? =some f->xs[k]? =some x->∀(i:List It) (c:List Value),g f.type=some i->F f.type c=some x->rI P w c i)->rI P w (cs.drop off) its:=by
 intro fs;induction fs with
 | nil=>
  intro off its h cs F xs _ hl _;unfold Yg at h;injection h with h;subst h;rw [Ko (by simp at hl;omega)];exact fun U S hl=>⟨U,S,[],[],.refl U,hl,.refl S,.nil U,rfl,rfl,fun j it v d a=>by simp at a⟩
 | cons f fs ih=>
  intro off its h cs F xs hx hl wK;unfold Yg at h;split at h
  ·rename_i aB1
   split at h
   ·rename_i i m hg hm
    split at h
    ·rename_i hmi
     cases hr:Yg P g fs (off+m)with
     | none=>rw [hr]at h;cases h
     | some rest=>
      rw [hr]at h;have h:some (i++rest)=some its:=h;injection h with h;subst h;obtain⟨x1,x2⟩:=mapM_some hx;obtain⟨x,hx0,hF⟩:=x2 0 f rfl
      have hcm:P.cellsOf f.type=m:=by
       unfold Program.cellsOf;unfold bP at hm;rw [hm];rfl
      rw [hcm,aB1]at hF;have h1:rI P w ((cs.drop off).take m) i:=wK 0 f x rfl hx0 i _ hg hF
      have hxs:∃ys,xs=x::ys:=by
       cases xs with
       | nil=>simp at hx0
       | cons y ys=>simp at hx0;subst hx0;exact⟨ys,rfl⟩
      obtain⟨ys,rfl⟩:=hxs
      have hys:(fs.mapM fun f=>F f.type ((cs.drop f.offset).take (P.cellsOf f.type)))=some ys:=by
       rw [VV]at hx;cases ha:F f.type ((cs.drop f.offset).take (P.cellsOf f.type))with
       | none=>rw [ha]at hx;cases hx
       | some y=>
        rw [ha]at hx;cases hb:(fs.mapM fun f=>F f.type ((cs.drop f.offset).take (P.cellsOf f.type)))with
        | none=>rw [hb]at hx;cases hx
        | some zs=>
         rw [hb]at hx;have hx:some (y::zs)=some (x::ys):=hx;injection hx with hx;injection hx with _ hx;rw [hx]
      have h2:=ih hr cs F ys hys (by rw [hl,bW];omega) fun k f' x' a b=>wK (k+1) f' x' (by simpa using a) (by simpa using b);have:=h1.append h2
      rwa [show(cs.drop off).take m++cs.drop (off+m)=cs.drop off by rw [<-IH];exact IE _ _]at this
    ·cases h
   ·cases h
  ·cases h
end
section
variable{P:Program}{w:World}{H:Type}{enc:TypeId×Value->H}
theorem aEg{k:IntKind}{n:Int} (h:(Lit.int k n).wf=true):k.min<=n/\n<=k.max:=by
 unfold Lit.wf at h;simpa using h
theorem aCq{a:Addr}{len cap m:Nat}{e:TypeId}{its:List It}{els:List (DataW H×List MemPlace)}{F:List Value->Option (DataW H×List MemPlace)} (hm:its.length=m) (QN:0<m) (hsz:bP P e=some m) (aOi:P.cellsOf e=m) (hlc:len<=cap)
 (hel:(List.range len).mapM (fun i=>(w.cells? 0 (a.add (i*m)) m).bind F)=some els) (hN:len<=140737488355328/\len*Yh its<=140737488355328)
 (AA:cap=0\/∃c t fz,w.heap[a.block]? =some (.cells c t fz)/\a.spot=none)
 (hz:∀i,i<len*m->w.frozen? ⟨a.block,a.off+i,none⟩=false)
 (wK:∀x∈els,∀cs,F cs=some x->rI P w cs its):
 ∀(U:Rn) (S:St),Lay P w U S->∃U' S' v ds,Ext U U'/\Lay P w U' S'/\IX S S'/\VR U' v (.slice (some a) len cap)/\Rd S' (fun _=>False) (.list its) v (.l ds):=by
 intro U S hl;rcases IG cap with hc0 | hc0
 ·have:len=0:=by omega
  subst this hc0;obtain⟨b,o,sp⟩:=a;refine⟨U,S,.slice (some ⟨b,o,some ((match sp with | none=>0 | some k=>k+1)+2)⟩) 0 0,[],.refl U,hl,.refl S,.wU ?_,.Mm⟩;cases sp<;>rfl
 ·rcases AA with AA | ⟨c,t,fz,hb,aEh⟩
  ·omega
  ·obtain⟨b,o,sp⟩:=a
   have aEh:sp=none:=aEh;subst aEh;obtain⟨h1,h2⟩:=mapM_some hel;have h1:els.length=len:=by simpa using h1
   let css:List (List Value):=(List.range len).map fun i=>(w.cells? 0 ((⟨b,o,none⟩:Addr).add (i*m)) m).getD []
   have aME:∀i,i<len->∃cs x,css[i]? =some cs/\w.cells? 0 ⟨b,o+i*m,none⟩ m=some cs/\els[i]? =some x/\F cs=some x:=by
    intro i hi;obtain⟨x,hx,hF⟩:=h2 i i (by simp [hi]);rw [lF]at hF;cases vL:w.cells? 0 ⟨b,o+i*m,none⟩ m with
    | none=>rw [vL]at hF;cases hF
    | some cs=>
     rw [vL]at hF;refine⟨cs,x,?_,rfl,hx,hF⟩;show((List.range len).map fun i=>(w.cells? 0 ((⟨b,o,none⟩:Addr).add (i*m)) m).getD [])[i]? =some cs;rw [lA,Cg hi];show some ((w.cells? 0 ((⟨b,o,none⟩:Addr).add (i*m)) m).getD [])=some cs;rw [lF,vL];rfl
   have ZX:css.length=len:=by show((List.range len).map _).length=len;simp
   have aOj:∀cs∈css,rI P w cs its:=by
    intro cs vL;obtain⟨i,hi⟩:=IF vL;have DW:i<len:=by rw [<-ZX];exact(cZ.1 hi).1
    obtain⟨cs',x,g1,_,g3,g4⟩:=aME i DW;rw [hi]at g1;injection g1 with g1;subst g1;exact wK x (rB g3) cs g4
   obtain⟨U1,S1,vss,dss,e1,l1,x1,n1,n2,r1,s1⟩:=aHe aOj U S hl
   have Ac:∀vs∈vss,vs.length=m:=by
    intro vs DQ;obtain⟨i,hi⟩:=IF DQ;have DW:i<dss.length:=by rw [n2,<-n1];exact(cZ.1 hi).1
    rw [(s1 i vs _ hi (aS DW)).len,hm]
   have Gx:=Sl Ac
   have hA:∀(j:Nat) (v:Value),vss.flatten[j]? =some v->∃v',c[o+j]? =some v'/\VR U1 v v':=by
    intro j v hj
    have PF:j<len*m:=by
     have:=(cZ.1 hj).1;rw [Gx,n1,ZX]at this;exact this
    have hk:j / m<len:=Nat.div_lt_of_lt_mul (by rw [Nat.mul_comm];exact PF);have hjm:j%m<m:=Nat.mod_lt _ QN;have ej:j=(j / m)*m+j%m:=by rw [Nat.mul_comm];exact(Nat.div_add_mod j m).symm
    rw [ej,YU Ac _ _ hjm]at hj;obtain⟨cs,x,g1,g2,g3,g4⟩:=aME (j / m) hk;cases hvk:vss[j / m]? with
    | none=>rw [hvk]at hj;cases hj
    | some vs=>
     rw [hvk]at hj;have hvr:=r1 _ vs cs hvk g1;obtain⟨v',CC,hr'⟩:=hvr.get hj;obtain⟨_,q2⟩:=aCo g2 hb;have:=q2 _ _ CC;exact⟨v',by rw [sX,<-ej]at this;exact this,hr'⟩
   have hB:∀j,j<vss.flatten.length->¬(fz.1<=o+j/\o+j<fz.2):=by
    intro j hj;have PF:j<len*m:=by rw [Gx,n1,ZX]at hj;exact hj
    have:=hz j PF;unfold World.frozen? at this;rw [hb]at this;intro⟨q1,q2⟩;simp at this;have:=this q1;omega
   obtain⟨l2,e2⟩:=l1.add vss.flatten e ⟨b,o,0,m⟩ hb hA hsz hB;have x2:=IX.new S1 (.cells vss.flatten e .rs);refine⟨_,_,.slice (some ⟨S1.n,0,none⟩) len cap,dss,e1.trans e2,l2,x1.trans x2,?_,?_⟩
   ·have:=VR.slice (U:=U1.put S1.n ⟨b,o,0,m⟩) (o:=0) (n:=len) (c:=cap) (Rn.jN U1 S1.n ⟨b,o,0,m⟩)
    exact this
   ·refine .row (e:=e) (ck:= .rs) rfl (vI _) (fun h=>h) rJ (.inl rfl) (by rw [n2,ZX]) (by rw [Gx,n1,ZX,hm];omega) (fun ds hds=>?_) hN hlc (fun k ds j it v d a1 a2 a3 a4=>?_)
    ·obtain⟨i,hi⟩:=IF hds
     have DW:i<vss.length:=by rw [n1,<-n2];exact(cZ.1 hi).1
     exact(s1 i _ ds (aS DW) hi).Ml
    ·have hjm:j<m:=by rw [<-hm];exact(cZ.1 a2).1
     rw [hm,fK,YU Ac k j hjm]at a3;cases hk:vss[k]? with
     | none=>rw [hk]at a3;cases a3
     | some vs=>
      rw [hk]at a3;exact((s1 k vs ds hk a1).fr x2.none).rd j it v d a2 a3 a4
theorem Mn{y:Nat}:∀{fs:List Field} {xs:List (DataW H×List MemPlace)} {j:Nat} {f:Field} {x:DataW H×List MemPlace},fs[j]? =some f->xs[j]? =some x->y∈x.1.weights P f.type->y∈DataW.weightsEach P (fs.map (·.type)) (xs.map (·.1)):=by
 intro fs;induction fs with
 | nil=>intro xs j f x h;simp at h
 | cons g fs ih=>
  intro xs j f x h1 h2 h3;cases xs with
  | nil=>simp at h2
  | cons z xs=>
   rw [vK,vK,DataW.weightsEach];cases j with
   | zero=>simp at h1 h2;subst h1 h2;exact oR.2 (.inl h3)
   | succ j=>exact oR.2 (.inr (ih (by simpa using h1) (by simpa using h2) h3))
theorem lay (sp:Nat->Bool) (AA:∀b,sp b=true):∀(F k:Nat) (t:TypeId) (cs:List Value) (d:DataW H) (ps:List MemPlace),DataW.trod enc P w 0 sp true F t cs=some (d,ps)->(∀b off,MemPlace.cell b off∈ps->w.frozen? ⟨b,off,none⟩=false)->
 (∀x∈d.weights P t,x<=reachBytes)->∀its,Sj P k t=some its->rI P w cs its:=by
 intro F;induction F with
 | zero=>intro k t cs d ps h;cases h
 | succ F ih=>
  intro k t cs d ps h hz hw its hi;cases k with
  | zero=>cases hi
  | succ k=>
   unfold Sj at hi;unfold DataW.trod at h;cases hu:P.underlying t with
   | none=>rw [hu]at hi;cases hi
   | some td=>
    rw [hu]at hi h;cases td with
    | bool=>
     injection hi with hi;subst hi
     match cs,h with
     | [.bool b],_=>exact rI.plain rfl fun S=> .is
    | int kd=>
     match cs,h with
     | [.int k' n],h=>
      simp only at h;split at h
      ·rename_i hk
       obtain⟨rfl,hwf⟩:=hk;obtain⟨r1,r2⟩:=aEg hwf;cases k' with
       | u64=>
        injection hi with hi;subst hi;have r1:(0:Int)<=n:=r1;have r2:n<=18446744073709551615:=r2;obtain⟨m,rfl⟩:=Int.eq_ofNat_of_zero_le r1;exact rI.plain rfl fun S=> .num (z:=m) (by omega)
       | u8=>
        injection hi with hi;subst hi;have r1:(0:Int)<=n:=r1;have r2:n<=255:=r2;obtain⟨m,rfl⟩:=Int.eq_ofNat_of_zero_le r1;exact rI.plain rfl fun S=> .kind (z:=m) (by omega)
       | i64=>
        injection hi with hi;subst hi;have r1:(-9223372036854775808:Int)<=n:=r1;have r2:n<=9223372036854775807:=r2;exact rI.plain rfl fun S=> .int r1 (by omega)
       | _=>cases hi
      ·cases h
    | string=>
     injection hi with hi;subst hi
     match cs,h with
     | [.string s],h=>
      simp only at h;split at h
      ·injection h with h
       injection h with h _;subst h;obtain⟨⟨l⟩⟩:=s;have:=hw l.length (by simp [DataW.weights]);exact rI.plain rfl fun S=> .text (l:=l) (by unfold reachBytes at this;omega)
      ·cases h
    | slice e=>
     simp only at hi;split at hi
     ·rename_i i0 aHf m by0 hit hsz hby
      split at hi
      ·rename_i hm
       obtain⟨hm,aOk⟩:=hm;have hcell:P.cellsOf e=m:=by unfold Program.cellsOf;unfold bP at hsz;rw [hsz];rfl
       have Hv:(∀(U:Rn) (S:St),Lay P w U S->∃U' S' v ds,Ext U U'/\Lay P w U' S'/\IX S S'/\kK U' [v] cs/\Rd S' (fun _=>False) (.list (i0::aHf)) v (.l ds))->rI P w cs its:=by
        intro Ha U S hl;obtain⟨U',S',v,ds,g1,g2,g3,g4,g5⟩:=Ha U S hl;refine⟨U',S',[v],[.l ds],g1,g2,g3,g4,?_⟩;split at hi
        ·injection hi with hi;subst hi
         exact⟨rfl,rfl,fun j it v' d' a b c=>by
          cases j with
          | zero=>simp at a b c;subst a b c;exact .nums g5
          | succ j=>simp at a⟩
        ·injection hi with hi;subst hi
         exact⟨rfl,rfl,fun j it v' d' a b c=>by
          cases j with
          | zero=>simp at a b c;subst a b c;exact g5
          | succ j=>simp at a⟩
       match cs,h,Hv with
       | [.slice none 0 0],_,Hv=>exact Hv fun U S hl=>⟨U,S,_,[],.refl U,hl,.refl S,.cons (.flat rfl) (.nil U),.empty⟩
       | [.slice (some a) len cap],h,Hv=>
        simp only at h;split at h
        ·rename_i aMF
         rw [hcell]at h;cases aHg:(List.range len).mapM (fun i=>(w.cells? 0 (a.add (i*m)) m).bind (DataW.trod enc P w 0 sp true F e))with
         | none=>rw [aHg]at h;cases h
         | some els=>
          rw [aHg]at h;simp only [VU,AA,if_true]at h;cases tG:(List.range (cap-len)).mapM (fun j=>(w.cells? 0 (a.add ((len+j)*m)) m).bind (DataW.trod enc P w 0 sp true F e))with
          | none=>rw [tG]at h;cases h
          | some rest=>
           rw [tG]at h;injection h with h;injection h with hd YA;subst hd YA;obtain⟨n1,n2⟩:=mapM_some aHg;obtain⟨n3,n4⟩:=mapM_some tG;have n1:els.length=len:=by simpa using n1
           have n3:rest.length=cap-len:=by simpa using n3
           have hwt:(els.length+rest.length)*P.bytesOf e<=reachBytes:=hw _ (by rw [DataW.weights,hu];simp);rw [hby,n1]at hwt
           have aJZ:len*Yh (i0::aHf)<=140737488355328:=by
            unfold reachBytes at hwt;have h1:len*Yh (i0::aHf)<=len*by0.succ:=Nat.mul_le_mul_left _ aOk;have h2:len*by0.succ<=(len+rest.length)*by0.succ:=oQ _ (Nat.le_add_right _ _);omega
           have aJ0:len<=140737488355328:=by
            unfold reachBytes at hwt;have:len<=(len+rest.length)*by0.succ:=rD (Nat.le_add_right _ _) (Nat.le_mul_of_pos_right _ (Nat.succ_pos _));omega
           refine Hv fun U S hl=>?_
           obtain⟨U',S',v,ds,g1,g2,g3,g4,g5⟩:=aCq (F:=DataW.trod enc P w 0 sp true F e) (its:=i0::aHf) (e:=e) (by rw [hm];rfl) (by omega) hsz hcell aMF.2.1 aHg ⟨aJ0,aJZ⟩ (by
            rcases IG cap with h0 | h0
            ·exact .inl h0
            ·right
             rcases IG len with h1 | h1
             ·obtain⟨x,_,hx⟩:=n4 0 0 (Cg (by omega))
              cases vL:w.cells? 0 (a.add ((len+0)*m)) m with
              | none=>rw [vL]at hx;cases hx
              | some c0=>
               rw [h1]at vL;simp only [II,GG]at vL;exact YV (by simpa [Addr.add]using vL) (by omega)
             ·obtain⟨x,_,hx⟩:=n2 0 0 (Cg (by omega))
              cases vL:w.cells? 0 (a.add (0*m)) m with
              | none=>rw [vL]at hx;cases hx
              | some c0=>
               simp only [GG]at vL;exact YV (by simpa [Addr.add]using vL) (by omega)) (fun i hi=>by
            refine hz a.block (a.off+i) (oR.2 (.inl ?_));unfold MemPlace.row;refine mA.2 ⟨i,LA.2 ?_,rfl⟩;rw [n1];have:len*m<=(len+rest.length)*m:=oQ _ (Nat.le_add_right _ _);omega) (fun x hx cs' hF=>by
            obtain⟨dx,px⟩:=x;refine ih k e cs' dx px hF (fun b off hb=>hz b off (oR.2 (.inr (Ky.2 ⟨(dx,px),oR.2 (.inl hx),hb⟩)))) (fun y hy=>hw y ?_) _ hit;rw [DataW.weights,hu];exact Xa _ (oR.2 (.inl (Sm (mA.2 ⟨(dx,px),hx,rfl⟩) hy)))) U S hl
           exact⟨U',S',v,ds,g1,g2,g3,.cons g4 (.nil U'),g5⟩
        ·cases h
      ·cases hi
     ·cases hi
    | struct fs=>
     simp only at hi h
     have hi:∃m,Yg P (Sj P k) fs.toList 0=some its/\bP P t=some m/\m=its.length:=by
      split at hi
      ·rename_i aPr m' h1 h2
       split at hi
       ·rename_i h3
        injection hi with hi;subst hi;exact⟨m',h1,h2,h3⟩
       ·cases hi
      ·cases hi
     obtain⟨mm,hi,hsz,hmm⟩:=hi;have hct:P.cellsOf t=mm:=by unfold Program.cellsOf;unfold bP at hsz;rw [hsz];rfl
     split at h
     ·rename_i hlen
      cases hxs:(fs.toList.mapM fun f=>DataW.trod enc P w 0 sp true F f.type ((cs.drop f.offset).take (P.cellsOf f.type)))with
      | none=>rw [hxs]at h;cases h
      | some xs=>
       rw [hxs]at h;injection h with h;injection h with hd YA;subst hd YA
       have:=aCp (w:=w) hi cs (fun t c=>DataW.trod enc P w 0 sp true F t c) xs hxs (by omega) (fun j f x hf hx i c hg hF=>by
        obtain⟨dx,px⟩:=x;refine ih k f.type c dx px hF (fun b off hb=>hz b off (Ky.2 ⟨(dx,px),rB hx,hb⟩)) (fun y hy=>hw y ?_) i hg;rw [DataW.weights,hu];exact Mn hf hx hy)
       rwa [DE]at this
     ·cases h
    | _=>cases hi
end
end Go.Am
namespace Go.Am
open Go.RowKit Go.ChangeShapes
section
variable{H:Type}{enc:TypeId×Value->H}{P:Program}{w:World}{base fuel:Nat}{spare:Nat->Bool}{held:Bool}{t e:TypeId}{k:IntKind}{n:Nat}{cs:List Value}
theorem ints_of_trod{x:DataW H×List MemPlace} (ht:P.underlying t=some (.array n e)) (he:P.underlying e=some (.int k)) (hc:P.cellsOf e=1) (hct:P.cellsOf t=n) (h:DataW.trod enc P w base spare held fuel t cs=some x){ns:List Int}
 (hx:x.1= .agg (ns.map fun i=> .lit (.int k i))):cs=ns.map (Value.int k):=by
 obtain⟨xs,m,rfl,rfl,hlen,hn,hel⟩:=DataW.trod_array ht h;simp only [DataW.agg.injEq]at hx;have hl:xs.length=ns.length:=by have:=kA List.length hx;simpa using this
 apply uH;intro i;by_cases hi:i<n
 ·have h1:=hel i hi
  have hix:i<xs.length:=by omega
  rw [aS hix]at h1;obtain⟨j,e1,e2,_⟩:=DataW.trod_int he h1;have h2:=kA (·[i]?) hx;have JT:i<ns.length:=by omega
  simp only [lA,aS hix,aS JT,wO,e2,Option.some.injEq,DataW.lit.injEq,Lit.int.injEq,true_and]at h2;subst h2;rw [hc,sA]at e1;have h3:cs[i]? =((cs.drop i).take 1)[0]? :=by rw [kZ,if_pos (by omega),kI];simp
  rw [h3,e1];simp [aS JT]
 ·rw [DC (by omega),DC (by simp;omega)]
end
theorem var?_heap{P:Program}{w:World}{n:String}{g:Nat}{cs:Array Value} (hg:P.globalNamed n=some g) (h:w.var? P n=some cs):∃t fz,w.heap[g]? =some (.cells cs t fz):=by
 simp only [World.var?,hg,VU]at h;split at h
 ·rename_i c t fr hb
  cases h;exact⟨t,fr,hb⟩
 ·cases h
theorem size_of_shaped{P:Program}{w:World} (h:w.ShapedOpen P){g:Nat} (hg:g<P.globals.size) (hk:(((begin P (fun _ _=>0) default).world.heap[g]?).bind Obj.row?).isSome=true):g<w.heap.size:=by
 obtain⟨⟨zero,t⟩,hz⟩:=VH.1 hk;obtain⟨cs,hc,_⟩:=h.1 g zero t hg hz;exact(mN.1 hc).1
end Go.Am
namespace Go.Am
open Go.RowKit
theorem returns_open{H:Type}{enc:TypeId×Value->H}{a:Assume}{C:Checked}{os:Os}{f:FuncId}{fn:Func}{s:ChangeSpec}{X:World->Prop} (hX:∀w w':World,w.heap=w'.heap->X w->X w')
 (own:ownKnob C.prog.godebug=none) (started:os.Started) (aKd:C.prog.inits.idxOf? f=none) (hfn:C.prog.funcs[f]? =some fn)
 (witness:∃(w:World) (tape:Tape) (i:Input),w.os=os/\(w.forCall tape i).Shaped C.prog/\i.vars=[]/\Input.okWide C.prog (w.forCall tape i) .any w.heap.size f i/\
  ((s.pre enc C.prog fn [] false (w.forCall tape i).memory i.args/\X (w.forCall tape i).memory)/\sizedMet enc C.prog fn (OpenSpec.ofChange s) false (w.forCall tape i).memory i.args)/\a.holds C.prog (lone (Frame.enter C.prog f i.args .normal) [] (w.forCall tape i)))
 (aEM:∀(W:World) (base:Nat) (args:Array Value) (ds gs:List (DataW H)) (before:List MemPlace),(∀(j:Nat) t v,fn.params[j]? =some t->args[j]? =some v->Value.okWide C.prog W .any base t v)->DataW.Whole enc C.prog fn.params.toList s.vars false W args.toList ds gs before->
  (DataW.weightsEach C.prog (fn.params.toList++s.plain.varTypes C.prog) (ds++gs)).all (· <=reachBytes)=true->W.ShapedOpen C.prog->X W->
  Calls C.prog f args W fun e W'=>∃v,e= .returned v/\s.post enc C.prog fn false true false false W args v W'):
 ReturnsInHanded a C os f .any (fun w args=>(s.pre enc C.prog fn [] false w args/\X w)/\sizedMet enc C.prog fn (OpenSpec.ofChange s) false w args) (s.post enc C.prog fn false true false false):=by
 refine returnsInHanded_of_calls own started aKd witness ?_;intro w tape i _ hsh _ YR Dw _;obtain⟨_,_,_,fn',aOt,_,_,_,_,hval⟩:=YR;have e:fn'=fn:=Option.some.inj (aOt.symm.trans hfn);subst e;obtain⟨⟨⟨ds,gs,before,hw,_⟩,hx⟩,hz⟩:=Dw;have hw':=DataW.Whole.of_heap (w':=w.forCall tape i) (by rfl) hw;refine(aEM (w.forCall tape i) w.heap.size i.args ds gs before hval hw' (hz.weights hw) hsh (hX _ _ (by rfl) hx)).mono fun e W' ⟨v,he,hp⟩=>?_;subst he;exact ChangeSpec.post_blind hp
end Go.Am
