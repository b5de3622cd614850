/- AM: regions that draw, cut where a guard is known: what it guards goes on without it. -/
import Derived.Test.YtbdlooaoeegbgaaGreatDoorGb

namespace Go.Am
open Go.RowKit Go.MapKept
def AY (g:Nat) (b:Bool) (o:Oper):Oper:=match o.guard with
 | some (j,w)=>match Nat.beq j g&&(w==b)with | true=>{o with guard:=none} | false=>o
 | none=>o
def cR (ops:Array Oper) (g:Nat) (b:Bool):Array Oper:=⟨ops.toList.map (AY g b)⟩
theorem tA (g:Nat) (b:Bool) (o:Oper):AY g b o=o\/(AY g b o={o with guard:=none}/\o.guard=some (g,b)):=by
 unfold AY;split
 ·rename_i j w hg
  split
  ·rename_i h
   simp only [Bool.and_eq_true,beq_iff_eq]at h;have h1:=Nat.eq_of_beq_eq_true h.1;exact .inr ⟨rfl,by rw [hg,h1,h.2]⟩
  ·exact .inl rfl
 ·exact .inl rfl
theorem YT (g:Nat) (b:Bool) (o:Oper):(AY g b o).dst=o.dst:=by rcases tA g b o with h | ⟨h,_⟩<;>rw [h]
theorem GW (g:Nat) (b:Bool) (o:Oper):(AY g b o).after=o.after:=by rcases tA g b o with h | ⟨h,_⟩<;>rw [h]
theorem UM (g:Nat) (b:Bool) (o:Oper):(AY g b o).op=o.op:=by rcases tA g b o with h | ⟨h,_⟩<;>rw [h]
theorem nT (ops:Array Oper) (g:Nat) (b:Bool) (i:Nat):(cR ops g b)[i]? =ops[i]?.map (AY g b):=by
 unfold cR;simp
theorem BQ (ops:Array Oper) (g:Nat) (b:Bool):(cR ops g b).size=ops.size:=by unfold cR;simp
theorem CH (ops:Array Oper) (g:Nat) (b:Bool) (t:Array Value):yielded (cR ops g b) t=yielded ops t:=by
 funext j
 unfold yielded;rw [nT];cases ops[j]? with
 | none=>rfl
 | some o=>simp only [Option.map_some,Option.bind_some,YT]
theorem GX{ops:Array Oper}{g:Nat}{b:Bool}{j e:Nat}:Waits (cR ops g b) j e↔Waits ops j e:=by
 unfold Waits;rw [nT];cases ops[j]? with
 | none=>simp
 | some o=>
  constructor
  ·rintro⟨o',h,x,hx⟩
   injection h with h;subst h;rw [GW]at hx;exact⟨o,rfl,x,hx⟩
  ·rintro⟨o',h,x,hx⟩
   injection h with h;subst h;exact⟨_,rfl,x,by rw [GW];exact hx⟩
theorem zG{ops:Array Oper}{g:Nat}{b:Bool}{t:Array Bool}{j:Nat}:j∈Region.ready .any (cR ops g b) t↔j∈Region.ready .any ops t:=by
 rw [gB,gB,BQ];simp only [GX]
theorem UN{ops:Array Oper}{g:Nat}{b:Bool} (h:Plain ops):Plain (cR ops g b):=by
 intro j o ho;rw [nT]at ho;cases hj:ops[j]? with
 | none=>rw [hj]at ho;cases ho
 | some q=>
  rw [hj]at ho;injection ho with ho;subst ho;rw [UM];exact h j q hj
section
variable{P:Program}{ops:Array Oper}{ro:Option Nat}{Q:Exit->Act->World->Prop}
theorem Kg{j:Nat}{o:Oper} (hj:ops[j]? =some o){I:Array Value->Prop}{a:Act}{w:World} (hI:∀v,I (a.put o.dst v).tmps){K:Act->World->Prop} (h:wpOpIn (FK ro) 0 P ops Q j K a w):wpOpIn (FK ro) 0 P ops Q j (fun a' w'=>I a'.tmps/\K a' w') a w:=by
 have hd:∀d:Deferred,I (({a with defers:=d::a.defers}:Act).put o.dst undef).tmps:=fun d=>by
  have:=hI undef;unfold Act.put at this ⊢;cases hod:o.dst with
  | none=>rw [hod]at this;exact this
  | some d=>rw [hod]at this;exact this
 unfold wpOpIn at*;simp only [hj]at*;split
 ·rename_i hw
  simp only [hw,if_true]at h;unfold Oper.wpIn at*;refine⟨h.1,?_⟩;have h:=h.2;generalize (o.semAt (FK ro).round a.eval).run P w=r at*;cases r with
  | ok x w'=>
   cases x<;>simp only [Oper.uponIn]at h ⊢
   case value=>exact⟨hI _,h⟩
   case skip=>exact⟨hI undef,h⟩
   case defer=>exact⟨hd _,h⟩
   case enter f args=>
    refine⟨h.1,CallsIn.mono h.2 fun e w'' he=>?_⟩;cases e with
    | returned u=>exact⟨hI u,he⟩
    | panicked c=>exact he
    | outgrown=>exact he
   case row row args=>exact⟨h.1,RowsIn.mono h.2 fun u w'' he=>⟨hI u,he⟩⟩
   case round l f tmps assign body=>
    refine⟨h.1,RoundIn.mono h.2 fun e w'' he=>?_⟩;cases e with
    | returned u=>exact⟨hI u,he⟩
    | panicked c=>exact he
    | outgrown=>exact he
  | halt x w'=>
   cases x<;>simp only [Oper.uponIn]at h ⊢
   case panic u=>exact h
 ·rename_i hw
  simp only [hw]at h;exact⟨h.1,hI undef,h.2⟩
theorem Vp{g:Nat}{b:Bool}{o:Oper}{K:Act->World->Prop}{a:Act}{w:World} (h:(AY g b o).wpIn (FK ro) 0 P a w K Q):o.wpIn (FK ro) 0 P a w K Q:=by
 rcases tA g b o with e | ⟨e,_⟩
 ·rw [e]at h;exact h
 ·rw [e]at h;exact h
theorem Kh{g:Nat}{b:Bool}{j:Nat}{K:Act->World->Prop}{a:Act}{w:World} (hg:yielded ops a.tmps g=some b) (h:wpOpIn (FK ro) 0 P (cR ops g b) Q j K a w):wpOpIn (FK ro) 0 P ops Q j K a w:=by
 unfold wpOpIn at*;rw [nT,CH]at h;cases hj:ops[j]? with
 | none=>rw [hj]at h;exact h
 | some o=>
  rw [hj]at h;simp only [Option.map_some]at h ⊢;rcases tA g b o with e | ⟨e,hgd⟩
  ·rw [e]at h;exact h
  ·have h1:Region.wanted (AY g b o) (yielded ops a.tmps)=true:=by rw [e];rfl
   have h2:Region.wanted o (yielded ops a.tmps)=true:=by
    unfold Region.wanted;rw [hgd];simp [hg]
   rw [if_pos h1]at h;rw [if_pos h2];exact Vp h
def YU (ops:Array Oper) (g:Nat) (t:Tmp) (L:Array Bool):Prop:=(∃o,ops[g]? =some o/\o.dst=some t)/\∀j o,ops[j]? =some o->¬On L j->j<L.size->o.dst≠some t
theorem YU.mono{g:Nat}{t:Tmp}{L:Array Bool}{i:Nat} (h:YU ops g t L) (hi:i<L.size):YU ops g t (L.setIfInBounds i true):=⟨h.1,fun j o ho hn hl=>h.2 j o ho (fun c=>hn ((On.set hi).2 (.inl c))) (by simpa using hl)⟩
theorem Yl.res{g i:Nat}{b:Bool}{v:Value}{a:Act}{w:World} (hg:yielded ops a.tmps g=some b):Yl P (cR ops g b) i v a w↔Yl P ops i v a w:=by
 unfold Yl;rw [nT,CH];cases ops[i]? with
 | none=>simp
 | some o=>
  rcases tA g b o with e | ⟨e,hgd⟩
  ·simp only [Option.map_some,e]
  ·have h1:Region.wanted (AY g b o) (yielded ops a.tmps)=true:=by rw [e];rfl
   have h2:Region.wanted o (yielded ops a.tmps)=true:=by
    unfold Region.wanted;rw [hgd];simp [hg]
   have h3:execOp a.eval (AY g b o)=execOp a.eval o:=by rw [e];rfl
   constructor
   ·rintro⟨q,hq,h⟩
    simp only [Option.map_some]at hq;injection hq with hq;subst hq;rw [h1,h3]at h;exact⟨o,rfl,by rw [h2];exact h⟩
   ·rintro⟨q,hq,h⟩
    injection hq with hq;subst hq;rw [h2]at h;exact⟨_,rfl,by rw [h1,h3];exact h⟩
theorem aBn{g j i:Nat}{b:Bool}:dep (cR ops g b) j i=dep ops j i:=by
 unfold dep;rw [nT];cases ops[j]? with
 | none=>rfl
 | some o=>simp only [Option.map_some,GW]
theorem uG.res{g:Nat}{b:Bool}{t:Tmp}:∀{f:Nat} {J:List (Nat×Value)} {L:Array Bool} {a:Act} {w:World},YU ops g t L->yielded ops a.tmps g=some b->uG ro P (cR ops g b) Q f J L a w->uG ro P ops Q f J L a w:=by
 have hr:∀{L:Array Bool},Region.ready .any (cR ops g b) L=[]↔Region.ready .any ops L=[]:=fun {L}=>by
  rw [List.eq_nil_iff_forall_not_mem,List.eq_nil_iff_forall_not_mem];exact⟨fun h j hj=>h j (zG.2 hj),fun h j hj=>h j (zG.1 hj)⟩
 intro f;induction f with
 | zero=>intro J L a w hs hg h;exact⟨fun p hp=>(Yl.res hg).1 (h.1 p hp),hr.1 h.2.1,h.2.2⟩
 | succ f ih=>
  intro J L a w hs hg h;refine⟨fun p hp=>(Yl.res hg).1 (h.1 p hp),fun e=>h.2.1 (hr.2 e),fun j hj=>?_⟩;have h1:=Kh hg (h.2.2 j (zG.2 hj));obtain⟨⟨hlt,hno⟩,hjs,_⟩:=gB.1 hj;have ho:ops[j]? =some ops[j]:=Array.getElem?_eq_getElem hjs;have hne:=hs.2 j _ ho hno hlt
  have h2:=Kg (I:=fun t=>yielded ops t g=some b) ho (fun v=>by
   obtain⟨o,hog,hot⟩:=hs.1;unfold yielded at hg ⊢;rw [hog]at hg ⊢;simp only [Option.bind_some,hot]at hg ⊢
   have:(a.put ops[j].dst v).tmps[t]? =a.tmps[t]? :=by
    unfold Act.put;cases hd:ops[j].dst with
    | none=>rfl
    | some d=>
     have hdt:d≠t:=fun c=>hne (by rw [hd,c]);simp [Array.getElem?_setIfInBounds_ne hdt]
   rw [this];exact hg) h1
  refine wpOpIn_mono (fun a' w' hk=>?_) h2;simp only [aBn]at hk;exact ih (hs.mono hlt) hk.1 hk.2
theorem Kn.res{g:Nat}{b:Bool}{a:Act}{w:World}{p:Nat×Value} (hg:yielded ops a.tmps g=some b) (h:Kn P ops a w p):Kn P (cR ops g b) a w p:=by
 have pu:∀o,lA P (AY g b o)=lA P o:=fun o=>by unfold lA;rw [UM]
 have lo:∀o,uH (AY g b o)=uH o:=fun o=>by unfold uH;rw [UM]
 rcases h with ⟨o,h1,h2,h3⟩ | ⟨o,d,h1,h2,h3,h4,h5⟩
 ·exact .inl ⟨_,by rw [nT,h1];rfl,by rw [pu];exact h2,fun w=>(Yl.res hg).2 (h3 w)⟩
 ·exact .inr ⟨_,d,by rw [nT,h1];rfl,by rw [lo];exact h2,(Yl.res hg).2 h3,by rw [YT];exact h4,h5⟩
end
section
variable{E:Env}{w0:World}{ops:Array Oper}
theorem Inv.cut{U0:Rn}{wa:World}{L:Array Bool}{taken:List Nat}{m:Nat}{L':Array Bool}{X:List (Nat×Option Nat)}{J:List (Nat×Value)}{U:Rn}{A:aO}{a:Act}{Sz:St}{w:World}{c:Array Bool×List Nat}{g:Nat}{b:Bool}
 (h:Inv E w0 ops U0 wa L taken m L' X J U A a Sz w) (hc:zD E.P ops ops.size L []=c) (hc2:c.2=[]) (hno:∀i∈Region.ready .any ops c.1,gO E.P ops i=false) (hgb:∀j,On L j->xO E.P (cR ops g b) j=false) (hg:yielded ops a.tmps g=some b):
 Inv E w0 (cR ops g b) U0 wa L taken m L' [] J U A a Sz w:=by
 obtain⟨mm,h1,h2,h3,h4,h5,h6⟩:=sY _ _ _ hc
 have e2:mm=[]:=by have:c.2=mm:=by rw [h1];rfl
                   rw [<-this];exact hc2
 subst e2
 have hX:X=[]:=by
  cases X with
  | nil=>rfl
  | cons p X=>
   have hin:On c.1 p.1:=Fw h.Rg hc hno _ [] h.xr (by simp) (fun i hi=>by
    rw [List.mem_reverse,List.mem_map]at hi;obtain⟨p,hp,rfl⟩:=hi;exact⟨(h.xl p hp).2.1,MJ (h.xl p hp).2.1⟩) p.1 (by rw [List.mem_reverse,List.mem_map];exact⟨p,.head _,rfl⟩)
   rcases(h3 p.1).1 hin with q | q
   ·exact absurd q (h.xl p (.head _)).2.2
   ·cases q
 subst hX;exact⟨h.hs,h.DF,by rw [BQ];exact h.Rg,by rw [BQ];exact h.sz,h.on,fun j hj e he=>h.down j hj e (GX.1 he),by simp,by simp,by simp,by simp,by simp,hgb,fun p hp=>⟨(h.jf p hp).1,Kn.res hg (h.jf p hp).2⟩,h.fuel,trivial,by simp⟩
end
abbrev aDQ:=Nat×Bool×Array Bool×List Nat
noncomputable def JO (P:Program) (ops:Array Oper):Nat->List Nat->Array Bool->List Nat->Option (List rA×Option aDQ)
 | 0,_,_,_=>none
 | f+1,i::is,listed,taken=>match ops[i]? with
  | some o=>match neutral P o&&AX ops listed i with
   | true=>match Gh ops listed i&&vV ops o&&taken.all (leaves ops o)&&(lA P o || isLoad ops i)with
    | true=>OZ (listed.setIfInBounds i true) fun t=>(JO P ops f is t (i::taken)).map fun p=>(.take i::p.1,p.2)
    | false=>JO P ops f is listed taken
   | false=>JO P ops f is listed taken
  | none=>none
 | f+1,[],listed,taken=>
  PA P ops (List.range ops.size) listed [] fun c1 c2=>
  let pend:=c2.map fun d=>(d,chainOf P ops c2 d)
  let chk:=match c2 with | []=>[] | _=>taken.filter (isLoad ops)
  match c2.all fun d=>uJ ops d&&(match ops[d]? with | some o=>vV ops o&&(taken.filter fun p=> !dep ops d p).all (leaves ops o) | none=>false)with
  | true=>match Region.ready .any ops c1 with
   | []=>some ([.fin chk pend (c2.filter fun i=> !xO P ops i)],none)
   | [r]=>match ops[r]? with
    | some o=>
     let D:=chainOf P ops c2 r
     let taken':=taken.filter fun p=> !dep ops r p&&D.all fun d=> !dep ops d p
     match taken'.all (leaves ops o)&& !gO P ops r with
     | true=>OZ ((D.foldl (fun t i=>t.setIfInBounds i true) listed).setIfInBounds r true) fun t=>(JO P ops f (List.range ops.size) t taken').map fun p=>(.req chk pend D r (taken'.filter (isLoad ops))::p.1,p.2)
     | false=>none
    | none=>none
   | r::_=>match(ops[r]?).bind (·.guard)with
    | some (g,b)=>some ([],some (g,b,listed,taken))
    | none=>none
  | false=>none
def Vq (P:Program) (ops:Array Oper) (g:Nat) (t:Tmp) (b:Bool) (L:Array Bool):Bool:=
 (match ops[g]? with | some o=>o.dst==some t | none=>false)&&((List.range ops.size).all (fun j=>L.getD j false || (match ops[j]? with | some o=>o.dst != some t | none=>true))&&
 ((match zD P ops ops.size L []with | (c1,[])=>(Region.ready .any ops c1).all fun i=> !gO P ops i | _=>false)&&(List.range ops.size).all fun j=> !L.getD j false || !xO P (cR ops g b) j))
inductive GY where
 | fin (l:List rA)
 | cut (l:List rA) (g:Nat) (t:Tmp) (b:Bool) (r:GY)
noncomputable def MO (P:Program):Nat->Array Oper->Array Bool->List Nat->Option GY
 | 0,_,_,_=>none
 | f+1,ops,L,taken=>match JO P ops ((ops.size+1)*(ops.size+2)) (List.range ops.size) L taken with
  | some (l,none)=>some (.fin l)
  | some (l,some (g,b,L1,t1))=>match(ops[g]?).bind (·.dst)with
   | some t=>match Vq P ops g t b L1 with
    | true=>(MO P f (cR ops g b) L1 t1).map (.cut l g t b)
    | false=>none
   | none=>none
  | none=>none
def Br:GY->List Nat
 | .fin l=>CE l
 | .cut l _ _ _ r=>CE l++Br r
noncomputable def qR (E:Env) (ops:Array Oper) (l:List rA) (A:aO) (Sz:St) (k:aO->St->Bool):Bool:=
 eH (β:=aO->St->Bool) (fun A Sz=>k A Sz) (fun s _ ih A Sz=>match s with
  | .take i=>match ops[i]? with
   | some o=>KO E ops o A Sz ih
   | none=>false
  | .req chk pend D r vX=>match ops[r]? with
   | some o=>rE E ops A Sz chk (FM E ops A Sz pend (jD E ops D A Sz fun A Sz=>KO E ops o A Sz fun A Sz=>rE E ops A Sz vX (ih A Sz)))
   | none=>false
  | .fin _ _ _=>false) l A Sz
noncomputable def MP (A:aO) (t:Tmp) (b:Bool) (k:Bool):Bool:=IA A.tmps t fun v=>match v with
 | .bool b'=>match b,b' with | true,true=>k | false,false=>k | _,_=>false
 | _=>false
noncomputable def GZ (E:Env):GY->Array Oper->aO->St->(aO->St->Bool)->Bool
 | .fin l,ops,A,Sz,k=>iC E ops l A Sz k
 | .cut l g t b r,ops,A,Sz,k=>qR E ops l A Sz fun A Sz=>MP A t b (GZ E r (cR ops g b) A Sz k)
noncomputable def QS (E:Env) (ops:Array Oper) (cut:Option aDQ) (steps:List rA) (A:aO) (Sz:St) (k kc:aO->St->Bool):Bool:=match cut with | none=>iC E ops steps A Sz k | some _=>qR E ops steps A Sz kc
section sound
variable{E:Env}{w0:World}
theorem QT (hc:gN E.P w0 E.call) (hr:jC E.P w0 E.round){ops:Array Oper} (hpl:Plain ops){ro:Option Nat}{Q:Exit->Act->World->Prop} (hQp:∀c a w,¬Q (.panic c) a w){k:aO->St->Bool}{U0:Rn}{wa:World} (OK:w0.heap.size<=wa.heap.size)
 (hQ:∀a' w',Next E.P w0 U0 wa k a' w'->Q .normal a' w') {cut:Option aDQ} {kc:aO->St->Bool}
 (hcut:∀g b L1 t1,cut=some (g,b,L1,t1)->∀{m:Nat} {L':Array Bool} {X:List (Nat×Option Nat)} {J:List (Nat×Value)} {U:Rn} {A:aO} {a:Act} {Sz:St} {w:World},kc A Sz=true->Inv E w0 ops U0 wa L1 t1 m L' X J U A a Sz w->uG ro E.P ops Q m J L' a w):
 ∀(f:Nat) (is:List Nat) (L:Array Bool) (taken:List Nat) (steps:List rA),JO E.P ops f is L taken=some (steps,cut)->
 ∀{m:Nat} {L':Array Bool} {X:List (Nat×Option Nat)} {J:List (Nat×Value)} {U:Rn} {A:aO} {a:Act} {Sz:St} {w:World},QS E ops cut steps A Sz k kc=true->Inv E w0 ops U0 wa L taken m L' X J U A a Sz w->uG ro E.P ops Q m J L' a w:=by
 intro f;induction f with
 | zero=>intro is L taken steps hp;cases hp
 | succ f ih=>
  intro is L taken steps hp m L' X J U A a Sz w hk h;cases is with
  | cons i is=>
   unfold JO at hp;simp only [CF]at hp;split at hp
   ·rename_i o ho
    split at hp
    ·rename_i KZ
     rw [Bool.and_eq_true]at KZ;obtain⟨KZ,hrd⟩:=KZ;have hmem:=GS.1 hrd;split at hp
     ·rename_i Bm
      simp only [Bool.and_eq_true]at Bm;obtain⟨⟨⟨hfree,hself⟩,hleave⟩,hkind⟩:=Bm;cases hrest:JO E.P ops f is (L.setIfInBounds i true) (i::taken)with
      | none=>rw [hrest]at hp;cases hp
      | some rest=>
       obtain⟨rest,cut'⟩:=rest;rw [hrest]at hp;simp only [Option.map_some]at hp;injection hp with hp;injection hp with hp1 hp2;subst hp1 hp2
       have hk':KO E ops o A Sz (fun A Sz=>QS E ops cut' rest A Sz k kc)=true:=by
        cases cut' with
        | none=>
         unfold QS at hk ⊢;simp only at hk ⊢;unfold iC at hk;rw [aW]at hk;simp only [ho]at hk;exact hk
        | some q=>
         unfold QS at hk ⊢;simp only at hk ⊢;unfold qR at hk;rw [aW]at hk;simp only [ho]at hk;exact hk
       exact Inv.Fv hQp hpl OK ho hmem KZ (UL hfree) hself hleave hkind hk' (fun hk' h'=>ih _ _ _ _ hrest hk' h') h
     ·exact ih _ _ _ _ hp hk h
    ·exact ih _ _ _ _ hp hk h
   ·cases hp
  | nil=>
   unfold JO at hp;rw [YR]at hp;simp only [CF]at hp;generalize hcl:zD E.P ops ops.size L []=c at hp;have hcl':zC E.P ops (List.range ops.size) L []=c:=hcl;simp only [hcl']at hp;split at hp
   ·rename_i hok
    split at hp
    ·rename_i mW
     injection hp with hp;injection hp with hp1 hp2;subst hp1 hp2;unfold QS at hk;simp only at hk;unfold iC at hk;rw [aW]at hk;simp only at hk;obtain⟨hask,hk⟩:=Bn h.hs hcl hok hk;exact Inv.Nu hpl OK hask mW hk hQ m h
    ·rename_i r mW
     split at hp
     ·rename_i o ho
      split at hp
      ·rename_i hleave
       simp only [Bool.and_eq_true,Bool.not_eq_true']at hleave;obtain⟨hleave,hnl⟩:=hleave;generalize hrest:JO E.P ops f _ _ _=rest at hp;cases rest with
       | none=>cases hp
       | some rest=>
        obtain⟨rest,cut'⟩:=rest;simp only [Option.map_some]at hp;injection hp with hp;injection hp with hp1 hp2;subst hp1 hp2
        have hk':rE E ops A Sz (match c.2 with | []=>[] | _=>taken.filter (isLoad ops)) (FM E ops A Sz (c.2.map fun d=>(d,chainOf E.P ops c.2 d)) (jD E ops (chainOf E.P ops c.2 r) A Sz fun A Sz=>KO E ops o A Sz fun A Sz=>rE E ops A Sz ((taken.filter fun p=> !dep ops r p&&(chainOf E.P ops c.2 r).all fun d=> !dep ops d p).filter (isLoad ops)) ((fun A Sz=>QS E ops cut' rest A Sz k kc) A Sz)))=true:=by
         cases cut' with
         | none=>
          unfold QS at hk ⊢;simp only at hk ⊢;unfold iC at hk;rw [aW]at hk;simp only [ho]at hk;exact hk
         | some q=>
          unfold QS at hk ⊢;simp only at hk ⊢;unfold qR at hk;rw [aW]at hk;simp only [ho]at hk;exact hk
        obtain⟨hask,hk⟩:=Bn h.hs hcl hok hk';exact Inv.Nt hc hr hpl OK hask ho mW hnl rfl rfl hleave hk (fun hk' h'=>ih _ _ _ _ hrest hk' h') m h
      ·cases hp
     ·cases hp
    ·split at hp
     ·injection hp with hp
      injection hp with hp1 hp2;subst hp1 hp2;exact hcut _ _ _ _ rfl hk h
     ·cases hp
   ·cases hp
theorem Ki{P:Program}{ops:Array Oper}{g:Nat}{t:Tmp}{b:Bool}{L:Array Bool} (h:Vq P ops g t b L=true) (hsz:L.size=ops.size):
 YU ops g t L/\(∃c,zD P ops ops.size L []=c/\c.2=[]/\∀i∈Region.ready .any ops c.1,gO P ops i=false)/\∀j,On L j->xO P (cR ops g b) j=false:=by
 unfold Vq at h;simp only [Bool.and_eq_true]at h;obtain⟨h1,h2,h3,h4⟩:=h;refine⟨⟨?_,fun j o ho hn hl c=>?_⟩,?_,fun j hj=>?_⟩
 ·split at h1
  ·rename_i o ho;exact⟨o,ho,by simpa using h1⟩
  ·cases h1
 ·have:=List.all_eq_true.1 h2 j (List.mem_range.2 (by omega))
  rw [ho]at this;simp only [Bool.or_eq_true,bne_iff_ne,ne_eq]at this;rcases this with q | q
  ·exact hn q
  ·exact q c
 ·split at h3
  ·rename_i c1 hcl
   exact⟨_,hcl,rfl,fun i hi=>by have:=List.all_eq_true.1 h3 i hi;simpa using this⟩
  ·cases h3
 ·have:=List.all_eq_true.1 h4 j (List.mem_range.2 (by have:=hj.lt;omega))
  simp only [Bool.or_eq_true,Bool.not_eq_true']at this;rcases this with q | q
  ·have hj':L.getD j false=true:=hj
   rw [q]at hj';cases hj'
  ·exact q
theorem Kj{A:aO}{t:Tmp}{b k:Bool} (h:MP A t b k=true):A.tmps.t.get t=some (.bool b)/\k=true:=by
 unfold MP at h;obtain⟨x,hx,h⟩:=wT h;split at h
 ·rename_i b'
  cases b<;>cases b'<;>first | exact⟨hx,h⟩ | cases h
 ·cases h
theorem Gj (hc:gN E.P w0 E.call) (hr:jC E.P w0 E.round){ro:Option Nat}{Q:Exit->Act->World->Prop} (hQp:∀c a w,¬Q (.panic c) a w){k:aO->St->Bool}{U0:Rn}{wa:World} (OK:w0.heap.size<=wa.heap.size)
 (hQ:∀a' w',Next E.P w0 U0 wa k a' w'->Q .normal a' w'):∀(f:Nat) (ops:Array Oper) (L:Array Bool) (taken:List Nat) (p:GY),Plain ops->MO E.P f ops L taken=some p->
 ∀{m:Nat} {L':Array Bool} {X:List (Nat×Option Nat)} {J:List (Nat×Value)} {U:Rn} {A:aO} {a:Act} {Sz:St} {w:World},GZ E p ops A Sz k=true->Inv E w0 ops U0 wa L taken m L' X J U A a Sz w->uG ro E.P ops Q m J L' a w:=by
 intro f;induction f with
 | zero=>intro ops L taken p _ hp;cases hp
 | succ f ih=>
  intro ops L taken p hpl hp m L' X J U A a Sz w hk h;unfold MO at hp;split at hp
  ·rename_i l hl
   injection hp with hp;subst hp;exact QT hc hr hpl hQp OK hQ (kc:=fun _ _=>false) (fun g b L1 t1 e=>by cases e) _ _ _ _ _ hl hk h
  ·rename_i l g b L1 t1 hl
   split at hp
   ·rename_i t ht
    split at hp
    ·rename_i hok
     cases hrest:MO E.P f (cR ops g b) L1 t1 with
     | none=>rw [hrest]at hp;cases hp
     | some r=>
      rw [hrest]at hp;injection hp with hp;subst hp;refine QT hc hr hpl hQp OK hQ (kc:=fun A Sz=>MP A t b (GZ E r (cR ops g b) A Sz k)) (fun g' b' L1' t1' e=>?_) _ _ _ _ _ hl hk h;injection e with e;injection e with e1 e;injection e with e2 e;injection e with e3 e4;subst e1 e2 e3 e4;intro m L' X J U A a Sz w hk h;obtain⟨hget,hk⟩:=Kj hk;obtain⟨hst,⟨c,hcl,hc2,hno⟩,hgb⟩:=Ki hok h.Rg;obtain⟨x',hx',hv⟩:=h.hs.act.tmps.get hget;have hx:x'= .bool b:=by cases hv;rfl
      have hy:yielded ops a.tmps g=some b:=by
       obtain⟨o,hog,hot⟩:=hst.1;unfold yielded;rw [hog];simp only [Option.bind_some,hot];have:a.tmps[t]? =some x':=by rw [<-hx'];simp
       rw [this,hx]
      have h2:=ih (cR ops g b) L1 t1 r (UN hpl) hrest hk (h.cut hcl hc2 hno hgb hy);have hst':YU ops g t L':=⟨hst.1,fun j o ho hn hl=>hst.2 j o ho (fun q=>hn ((h.on j).2 (.inl q))) (by rw [h.Rg];rw [h.sz]at hl;exact hl)⟩;exact uG.res hst' hy h2
    ·cases hp
   ·cases hp
  ·cases hp
noncomputable def drG (E:Env) (ops:Array Oper) (A:aO) (Sz:St) (k:aO->St->Bool):Bool:=
 match MK E.P ops with
 | some l=>GR ops (CE l) A fun A=>iC E ops l A Sz k
 | none=>match zA ops with
  | true=>match MO E.P (ops.size+1) ops ⟨List.replicate ops.size false⟩ []with
   | some p=>GR ops (Br p) A fun A=>GZ E p ops A Sz k
   | none=>false
  | false=>false
theorem aDR (hc:gN E.P w0 E.call) (hr:jC E.P w0 E.round) (hm:E.P.follows .mixedOrders=true):Qs E w0 (drG E):=by
 intro ops A Sz k U a w ro id Q hk hs hQ;unfold drG at hk;split at hk
 ·rename_i l hl
  exact Vj hc hr hm ops A Sz k U a w ro id Q (by unfold QO;rw [hl];exact hk) hs hQ
 ·split at hk
  ·rename_i hplain
   split at hk
   ·rename_i p hp
    have hpl:=JM hplain;obtain⟨A',hk,hA',hmk⟩:=UD hs.act hk
    let Q0:Exit->Act->World->Prop:=fun e a' w'=>e= .normal/\Next E.P w0 U w k a' w'
    have hno:∀j,¬On (⟨List.replicate ops.size false⟩:Array Bool) j:=fun j h=>by
     unfold On at h;rcases Nat.lt_or_ge j ops.size with h' | h'
     ·simp [h']at h
     ·simp [h']at h
    have aDP:rem (⟨List.replicate ops.size false⟩:Array Bool)<=ops.size:=by
     unfold rem;refine Nat.le_trans (List.countP_le_length) ?_;simp
    have h:=Gj hc hr (ro:=ro) (Q:=Q0) (fun c a w h=>by cases h.1) (U0:=U) (wa:=w) hs.rel.base.size (fun a' w' h=>⟨rfl,h⟩) _ _ _ _ p hpl hp (m:=ops.size) (X:=[]) (J:=[]) hk
     ⟨⟨hA',hs.rel.drew,by rw [hmk];exact hs.marks⟩,Stp.drew U w,by simp,by simp,fun j=>by simp,fun j h=>absurd h (hno j),by simp,by simp,by simp,by simp,by simp,fun j h=>absurd h (hno j),by simp,aDP,trivial,by simp⟩
    exact wpIn_mono (wpIn_region_any hm h.any) fun e a' w' hq=>by obtain⟨rfl,hn⟩:=hq;exact hQ a' w' hn
   ·cases hk
  ·cases hk
end sound
section
variable{P:Program}
theorem PB{t:TypeId} (h:pV P t=some false) (a:Value) (Sz:St) (K:VK):BV P t a Sz K=rLd a Sz K:=by
 unfold BV rLd;simp only [h]<;>rfl
theorem PC{t:TypeId}{n:Nat} (h:pV P t=some true) (hn:bL P t=some n) (a:Value) (Sz:St) (K:VK):BV P t a Sz K=Vr n a Sz K:=by
 unfold BV Vr;simp only [h,hn]<;>rfl
theorem Gk{t:TypeId}{n:Nat} (hn:bL P t=some n) (a x:Value) (Sz:St) (k:St->Bool):KM P t a x Sz k=rSt n a x Sz k:=by
 unfold KM rSt;simp only [hn]<;>rfl
theorem Gl{t:TypeId}{z:List Value} (hz:pJ P t=some z) (hf:allB aY z=true) (Sz:St) (K:VK):FX P t Sz K=PD z t Sz K:=by
 unfold FX PD;simp only [hz,hf]
theorem MQ{s:TypeId}{f:Nat}{fd:Field}{n:Nat} (hf:uA P s f=some fd) (hn:bL P fd.type=some (n+1)) (x:Value) (K:Value->Bool):vP P s x f K=Vs fd.offset x K:=by
 unfold vP Vs;simp only [hf,hn]<;>rfl
theorem UO{t:TypeId}{f:Nat}{fd:Field} (hf:uA P t f=some fd) (h:pV P fd.type=some false) (x:Value) (K:Value->Bool):FW P t x f K=UP fd.offset x K:=by
 unfold FW UP;simp only [hf,YD,h]<;>rfl
theorem UQ{t:TypeId}{f:Nat}{fd:Field}{n:Nat} (hf:uA P t f=some fd) (h:pV P fd.type=some true) (hn:bL P fd.type=some n) (x:Value) (K:Value->Bool):FW P t x f K=MR fd.offset n x K:=by
 unfold FW MR;simp only [hf,YD,h,hn]<;>rfl
theorem MS{t e:TypeId}{n:Nat} (he:isSlice P t=some e) (hn:bL P e=some n) (x ix:Value) (K:Value->Bool):vO P t x ix K=aBo n x ix K:=by
 unfold vO aBo;simp only [he,hn,QF he];cases ix<;>first | rfl | skip
 rename_i kk i;cases i<;>first | rfl | skip
 rename_i i;cases x<;>first | rfl | skip
 ·rename_i b;cases b<;>first | rfl | (rename_i a;obtain⟨b,o,sp⟩:=a;cases sp<;>rfl)
 ·rename_i b len cap;cases b with
  | none=>rfl
  | some a=>
   obtain⟨b,o,sp⟩:=a
   match sp with
   | none=>simp only;cases Nat.blt i len<;>rfl
   | some 0=>simp only;cases Nat.blt i len<;>rfl
   | some (_+1)=>rfl
theorem Vt{t e:TypeId} (he:isSlice P t=some e) (x:Value) (Sz:St) (K:VK):lL P .len [t] [x] Sz K=Oc x fun v=>K v Sz:=by
 have hu:=QF he;have hm:FJ P t=none:=by unfold FJ;rw [hu]
 cases x<;>simp only [lL,Oc,he,hu,hm]
theorem Vu{t:TypeId} (hu:P.underlying t=some .string) (x:Value) (Sz:St) (K:VK):lL P .len [t] [x] Sz K=Gm x fun v=>K v Sz:=by
 have hs:isSlice P t=none:=by unfold isSlice;rw [hu]
 have hm:FJ P t=none:=by unfold FJ;rw [hu]
 cases x<;>simp only [lL,Gm,hs,hu,hm]
theorem YV{sT xT el:TypeId}{info:TypeInfo}{n:Nat}{z:Value} (h1:isSlice P sT=some el) (h2:WQ (P.underlying xT)=true) (h3:P.info? el=some info) (h4:info.size=n+1) (h5:info.zero=some z) (h6:Nat.beq z.cells.size (n+1)=true)
 (s x:Value) (Sz:St) (K:VK):DJ P [sT,xT] s x Sz K=Kk P el (n+1) info.bytes s x Sz K:=by
 unfold DJ Kk;simp only [h1,h2,h3,h4,h5];cases s<;>simp only [h6]<;>rfl
end
noncomputable def Ro (o:Oper):OpW:=⟨fun E A Sz K=>rP E o A Sz K⟩
structure PtW where
 f:aO->(List (Nat×Nat×Value)->Bool)->Bool
noncomputable def zH (place:Nat->Option (Nat×Nat)) (ps:List (Nat×Operand)):PtW:=
 eH (β:=PtW) ⟨fun _ k=>k []⟩ (fun p _ ih=>match place p.1 with
  | some (off,size)=>⟨fun A k=>(sC p.2).f A fun v=>ih.f A fun l=>k ((off,size,v)::l)⟩
  | none=>⟨fun _ _=>false⟩) ps
def RQ (place:Nat->Option (Nat×Nat)) (p:Nat×Value):Nat×Nat×Value:=match place p.1 with | some (off,size)=>(off,size,p.2) | none=>(0,0,p.2)
theorem Kl (place:Nat->Option (Nat×Nat)) (A:aO):∀(ps:List (Nat×Operand)) (k:List (Nat×Nat×Value)->Bool),(∀p∈ps,(place p.1).isSome=true)->(zH place ps).f A k=xL A ps fun l=>k (l.map (RQ place)):=by
 intro ps;induction ps with
 | nil=>intro k _;rfl
 | cons p ps ih=>
  intro k h;have hp:=h p (.head _);obtain⟨⟨off,size⟩,hq⟩:=Option.isSome_iff_exists.1 hp
  have e1:zH place (p::ps)=⟨fun A k=>(sC p.2).f A fun v=>(zH place ps).f A fun l=>k ((off,size,v)::l)⟩:=by
   unfold zH;rw [aW];simp only [hq]
  rw [e1];show(sC p.2).f A _=oN A p.2 fun v=>xL A ps fun l=>k (((p.1,v)::l).map (RQ place));rw [gI]
  congr 1
  funext v
  have e:∀l:List (Nat×Value),((p.1,v)::l).map (RQ place)=(off,size,v)::l.map (RQ place):=fun l=>by simp [RQ,hq]
  simp only [e];exact ih (fun l=>k ((off,size,v)::l)) (fun q hq=>h q (.tail _ hq))
theorem Bs (A:aO):∀(ps:List (Nat×Operand)) (k k':List (Nat×Value)->Bool),(∀l,l.map Prod.fst=ps.map Prod.fst->k l=k' l)->xL A ps k=xL A ps k':=by
 intro ps;induction ps with
 | nil=>intro k k' h;exact h [] rfl
 | cons p ps ih=>
  intro k k' h;show(oN A p.2 fun v=>xL A ps fun l=>k ((p.1,v)::l))=oN A p.2 fun v=>xL A ps fun l=>k' ((p.1,v)::l)
  congr 1
  funext v
  exact ih _ _ fun l hl=>h _ (by simp [hl])
theorem aBp (place:Nat->Option (Nat×Nat)) (k:List Value->Bool):∀(l:List (Nat×Value)) (cs:List Value),(∀p∈l,(place p.1).isSome=true)->JG place l cs k=HA (l.map (RQ place)) cs k:=by
 intro l;induction l with
 | nil=>intro cs _;rfl
 | cons p l ih=>
  intro cs h;obtain⟨⟨off,size⟩,hq⟩:=Option.isSome_iff_exists.1 (h p (.head _))
  have e1:JG place (p::l) cs k=match place p.1 with
   | some (off,size)=>kM p.2 fun new=>yT new fun m=>match Nat.beq m size with
    | true=>mM off new cs fun cs=>JG place l cs k
    | false=>false
   | none=>false:=rfl
  have e2:HA ((off,size,p.2)::l.map (RQ place)) cs k=kM p.2 fun new=>yT new fun m=>match Nat.beq m size with
   | true=>mM off new cs fun cs=>HA (l.map (RQ place)) cs k
   | false=>false:=rfl
  have e3:(p::l).map (RQ place)=(off,size,p.2)::l.map (RQ place):=by simp [RQ,hq]
  have ih':(fun cs=>JG place l cs k)=fun cs=>HA (l.map (RQ place)) cs k:=by funext cs;exact ih cs fun q hq=>h q (.tail _ hq)
  rw [e1,e3,e2,hq,ih']
theorem Bt (place:Nat->Option (Nat×Nat)) (A:aO) (ps:List (Nat×Operand)) (cs:List Value) (k:List Value->Bool) (h:∀p∈ps,(place p.1).isSome=true):
 (xL A ps fun l=>JG place l cs k)=(zH place ps).f A fun l=>HA l cs k:=by
 rw [Kl place A ps _ h];refine Bs A ps _ _ fun l hl=>aBp place k l cs fun p hp=>?_;have:p.1∈ps.map Prod.fst:=by rw [<-hl];exact List.mem_map.2 ⟨p,hp,rfl⟩
 obtain⟨q,hq,e⟩:=List.mem_map.1 this;rw [<-e];exact h q hq
noncomputable def Vv (P:Program) (c:Call):OpW:=
 match c.callee with
 | .builtin .len=>match c.argTypes.toList,c.args.toList with
  | [t],[a]=>match isSlice P t,P.underlying t with
   | some _,_=>⟨fun _ A Sz K=>(sC a).f A fun v=>Oc v fun v=>K v Sz⟩
   | none,some .string=>⟨fun _ A Sz K=>(sC a).f A fun v=>Gm v fun v=>K v Sz⟩
   | _,_=>GP P c
  | _,_=>GP P c
 | .builtin .append=>match c.argTypes.toList,c.args.toList with
  | [sT,xT],[a,b]=>match isSlice P sT,WQ (P.underlying xT)with
   | some el,true=>match P.info? el with
    | some info=>match info.size,info.zero with
     | n+1,some z=>match Nat.beq z.cells.size (n+1)with
      | true=>⟨fun _ A Sz K=>(sC a).f A fun a=>(sC b).f A fun b=>Kk P el (n+1) info.bytes a b Sz K⟩
      | false=>GP P c
     | _,_=>GP P c
    | none=>GP P c
   | _,_=>GP P c
  | _,_=>GP P c
 | .builtin _=>GP P c
 | .value f=>⟨fun E A Sz K=>(Ju c.args.toList).f A fun args=>(sC f).f A fun f=>aDS E.call E.round f args Sz K⟩
 | .invoke r m=>⟨fun E A Sz K=>(Ju c.args.toList).f A fun args=>(sC r).f A fun v=>aHq P E.call v m args Sz K⟩
theorem Vw (E:Env) (c:Call) (A:aO) (Sz:St) (K:VK):(Vv E.P c).f E A Sz K=iQ E A c Sz K:=by
 unfold Vv;split
 ·rename_i hc
  split
  ·rename_i t a ht ha
   split
   ·rename_i _ _ e hs
    unfold iQ;rw [hc,ha,ht];simp only [gI,FV,aW,oO,Vt hs]
   ·rename_i _ _ hs hu
    unfold iQ;rw [hc,ha,ht];simp only [gI,FV,aW,oO,Vu hu]
   ·exact uI E c A Sz K
  ·exact uI E c A Sz K
 ·rename_i hc
  split
  ·rename_i sT xT a b ht ha
   split
   ·rename_i el hs hx
    split
    ·rename_i info hi
     split
     ·rename_i n z hn hz
      split
      ·rename_i hzs
       unfold iQ;rw [hc,ha,ht];simp only [gI,FV,aW,oO]
       congr 1;funext a;congr 1;funext b
       exact(YV hs hx hi hn hz hzs a b Sz K).symm
      ·exact uI E c A Sz K
     ·exact uI E c A Sz K
    ·exact uI E c A Sz K
   ·exact uI E c A Sz K
  ·exact uI E c A Sz K
 ·exact uI E c A Sz K
 ·rename_i f hc
  unfold iQ;rw [hc];simp only [MD,gI]<;>rfl
 ·rename_i r m hc
  unfold iQ;rw [hc];simp only [MD,gI]<;>rfl
noncomputable def Km (P:Program) (o:Oper):OpW:=
 match o.op with
 | .pick c a b=>⟨fun E A Sz K=>(sC c).f A fun c=>(sC a).f A fun a=>(sC b).f A fun b=>shut E.most (aCW c a b fun v=>K v Sz)⟩
 | .alloc t=>match pJ P t with
  | some z=>match allB aY z with
   | true=>⟨fun _ _ Sz K=>PD z t Sz K⟩
   | false=>Ro o
  | none=>Ro o
 | .build t ps=>match pJ P t,P.underlying t with
  | some zero,some (.struct fields)=>match placesOf P fields.toList with
   | some pl=>match allB aY zero,ps.toList.all fun p=>(pl[p.1]?).isSome with
    | true,true=>⟨fun _ A Sz K=>(zH (pl[·]?) ps.toList).f A fun l=>Ko zero l fun v=>K v Sz⟩
    | _,_=>Ro o
   | none=>Ro o
  | some zero,some (.array _ elem)=>match bL P elem with
   | some size=>match allB aY zero with
    | true=>⟨fun _ A Sz K=>(zH (fun i=>some (i*size,size)) ps.toList).f A fun l=>Ko zero l fun v=>K v Sz⟩
    | false=>Ro o
   | none=>Ro o
  | _,_=>Ro o
 | .buildSlice t len ps=>match isSlice P t with
  | some elem=>match bL P elem,pJ P elem with
   | some (size+1),some zero=>match Nat.ble (len*(size+1)) 16777216,Nat.beq zero.length (size+1)with
    | true,true=>match allB aY zero with
     | true=>⟨fun _ A Sz K=>Ek zero len fun cs=>(zH (fun i=>some (i*(size+1),size+1)) ps.toList).f A fun l=>HA l cs fun cs=>sH Sz (.cells cs elem .exact) fun i Sz=>K (.slice (some ⟨i,0,none⟩) len len) Sz⟩
     | false=>Ro o
    | _,_=>Ro o
   | _,_=>Ro o
  | none=>Ro o
 | .load t a=>match pV P t,bL P t with
  | some false,_=>⟨fun _ A Sz K=>(sC a).f A fun a=>rLd a Sz K⟩
  | some true,some n=>⟨fun _ A Sz K=>(sC a).f A fun a=>Vr n a Sz K⟩
  | _,_=>Ro o
 | .store t a x=>match bL P t with
  | some n=>⟨fun _ A Sz K=>(sC a).f A fun a=>(sC x).f A fun x=>rSt n a x Sz fun Sz=>K undef Sz⟩
  | none=>Ro o
 | .nilCheck x=>⟨fun _ A Sz K=>(sC x).f A fun v=>aBq P v fun v=>K v Sz⟩
 | .binOp op t x y _=>⟨fun _ A Sz K=>(sC x).f A fun a=>(sC y).f A fun b=>Vx P op t a b fun v=>K v Sz⟩
 | .convert s d x=>match P.underlying s,P.underlying d with
  | some (.int _),some (.int k)=>⟨fun _ A Sz K=>(sC x).f A fun a=>Vy k a fun v=>K v Sz⟩
  | _,_=>Eg P o
 | .fieldAddr s x f=>match uA P s f with
  | some fd=>match bL P fd.type with
   | some (_+1)=>⟨fun _ A Sz K=>(sC x).f A fun x=>Vs fd.offset x fun v=>K v Sz⟩
   | _=>Eg P o
  | none=>Eg P o
 | .field t x f=>match uA P t f with
  | some fd=>match pV P fd.type,bL P fd.type with
   | some false,_=>⟨fun _ A Sz K=>(sC x).f A fun x=>UP fd.offset x fun v=>K v Sz⟩
   | some true,some n=>⟨fun _ A Sz K=>(sC x).f A fun x=>MR fd.offset n x fun v=>K v Sz⟩
   | _,_=>Eg P o
  | none=>Eg P o
 | .indexAddr t x ix=>match isSlice P t with
  | some el=>match bL P el with
   | some n=>⟨fun _ A Sz K=>(sC x).f A fun x=>(sC ix).f A fun ix=>aBo n x ix fun v=>K v Sz⟩
   | none=>Eg P o
  | none=>Eg P o
 | .index t x ix=>match P.underlying t with
  | some .string=>⟨fun _ A Sz K=>(sC x).f A fun x=>(sC ix).f A fun ix=>Bu x ix fun v=>K v Sz⟩
  | _=>Eg P o
 | .extract t i=>⟨fun _ A Sz K=>(sC t).f A fun v=>Vz i v fun v=>K v Sz⟩
 | .typeAssert x _ as ok=>⟨fun _ A Sz K=>(sC x).f A fun v=>Od P as ok v fun v=>K v Sz⟩
 | .call c=>Vv P c
 | _=>Eg P o
theorem Oe{P:Program}{s d:TypeId}{j k:IntKind} (hs:P.underlying s=some (.int j)) (hd:P.underlying d=some (.int k)) (x:Value) (Sz:St) (K:VK):PZ P s d x Sz K=Vy k x fun v=>K v Sz:=by
 cases x<;>simp only [PZ,Vy,hs,hd];rename_i b n c;cases b with
 | none=>rfl
 | some a=>obtain⟨b,o,sp⟩:=a;match sp with
  | none=>rfl
  | some 0=>rfl
  | some (_+1)=>rfl
theorem Gn{P:Program}{t:TypeId} (h:P.underlying t=some .string) (x ix:Value) (K:Value->Bool):OO P t x ix K=Bu x ix K:=by
 unfold OO Bu;simp only [h];cases ix<;>first | rfl | skip
 rename_i kk i;cases i<;>first | rfl | skip
 cases x<;>rfl
theorem HB (E:Env) (o:Oper) (A:aO) (Sz:St) (K:VK):(Km E.P o).f E A Sz K=rP E o A Sz K:=by
 unfold Km;split
 ·rename_i c a b h;unfold rP;rw [h];simp only [gI,SM,aCW]<;>rfl
 ·rename_i t h
  split
  ·rename_i z hz
   split
   ·rename_i hf;unfold rP;rw [h];exact(Gl hz hf Sz K).symm
   ·rfl
  ·rfl
 ·rename_i t ps h
  split
  ·rename_i zero fields hz hu
   split
   ·rename_i pl hp
    split
    ·rename_i hf ha
     unfold rP;rw [h];simp only [TF,hz,hu,hp,hf];refine(Bt (pl[·]?) A ps.toList zero (fun cs=>K (.agg ⟨cs⟩) Sz) ?_).symm;intro p hp';exact List.all_eq_true.1 ha p hp'
    ·rfl
   ·rfl
  ·rename_i zero n elem hz hu
   split
   ·rename_i size hs
    split
    ·rename_i hf
     unfold rP;rw [h];simp only [TF,hz,hu,hs,hf];exact(Bt (fun i=>some (i*size,size)) A ps.toList zero (fun cs=>K (.agg ⟨cs⟩) Sz) (fun p _=>rfl)).symm
    ·rfl
   ·rfl
  ·rfl
 ·rename_i t len ps h
  split
  ·rename_i elem hs
   split
   ·rename_i size zero hz hzl
    split
    ·rename_i h1 h2
     split
     ·rename_i hf
      unfold rP;rw [h];simp only [sU,hs,hz,hzl,h1,h2,hf]
      congr 1;funext cs
      exact(Bt (fun i=>some (i*(size+1),size+1)) A ps.toList cs _ (fun p _=>rfl)).symm
     ·rfl
    ·rfl
   ·rfl
  ·rfl
 ·rename_i t a h
  split
  ·rename_i h1;unfold rP;rw [h];simp only [gI,PB h1]
  ·rename_i n h1 h2;unfold rP;rw [h];simp only [gI,PC h1 h2]
  ·rfl
 ·rename_i t a x h
  split
  ·rename_i n h1;unfold rP;rw [h];simp only [gI,Gk h1]
  ·rfl
 ·rename_i x h;unfold rP;rw [h];simp only [gI,aBq]<;>rfl
 ·rename_i op t x y yt h;unfold rP;rw [h];simp only [gI,DY]
 ·rename_i s d x h
  split
  ·rename_i j k h1 h2;unfold rP;rw [h];simp only [gI,Oe h1 h2]
  ·exact vW E o A Sz K
 ·rename_i s x f h
  split
  ·rename_i fd h1
   split
   ·rename_i n h2;unfold rP;rw [h];simp only [gI,MQ h1 h2]
   ·exact vW E o A Sz K
  ·exact vW E o A Sz K
 ·rename_i t x f h
  split
  ·rename_i fd h1
   split
   ·rename_i h2;unfold rP;rw [h];simp only [gI,UO h1 h2]
   ·rename_i n h2 h3;unfold rP;rw [h];simp only [gI,UQ h1 h2 h3]
   ·exact vW E o A Sz K
  ·exact vW E o A Sz K
 ·rename_i t x ix h
  split
  ·rename_i el h1
   split
   ·rename_i n h2;unfold rP;rw [h];simp only [gI,MS h1 h2]
   ·exact vW E o A Sz K
  ·exact vW E o A Sz K
 ·rename_i t x ix h
  split
  ·rename_i h1;unfold rP;rw [h];simp only [gI,Gn h1]
  ·exact vW E o A Sz K
 ·rename_i t i h;unfold rP;rw [h];simp only [gI,Vz]<;>rfl
 ·rename_i x xt as ok h;unfold rP;rw [h];simp only [gI,Od]<;>rfl
 ·rename_i c h;unfold rP;rw [h];exact Vw E c A Sz K
 ·exact vW E o A Sz K
noncomputable def Wa (v:Value) (T:Tm) (i:Nat) (k:Tm->Bool):Bool:=match T with
 | ⟨t,n⟩=>match Nat.blt i n with
  | true=>IX v (Nat.succ i) t i fun t=>k ⟨t,n⟩
  | false=>false
theorem Wb (v:Value) (T:Tm) (i:Nat) (k:Tm->Bool):Wa v T i k=nQ v T i k:=by cases T;rfl
noncomputable def aDT (A:aO) (d:Tmp) (v:Value) (k:aO->Bool):Bool:=match A with
 | ⟨T,m,g⟩=>Wa v T d fun T=>k ⟨T,m,g⟩
theorem Of (A:aO) (d:Tmp) (v:Value) (k:aO->Bool):aDT A d v k=nQ v A.tmps d fun ts=>k ⟨ts,A.marks,A.g⟩:=by
 obtain⟨T,m,g⟩:=A;show Wa v T d (fun T=>k ⟨T,m,g⟩)=_;rw [Wb]
noncomputable def Wc (P:Program) (o:Oper):TY:=
 match o.dst with
 | some d=>⟨fun E A Sz k=>(Km P o).f E A Sz fun v Sz=>aDT A d v fun A=>k A Sz⟩
 | none=>⟨fun E A Sz k=>(Km P o).f E A Sz fun _ Sz=>k A Sz⟩
noncomputable def doX (P:Program) (ops:Array Oper) (o:Oper):TY:=
 match o.guard with
 | none=>Wc P o
 | some (j,w)=>match ops[j]? with
  | some o'=>match o'.dst with
   | some g=>match o.dst with
    | some d=>⟨fun E A Sz k=>IA A.tmps g fun b=>shut E.most (Bv w b (fun k=>(Km P o).f E A Sz k) Sz fun v Sz=>aDT A d v fun A=>k A Sz)⟩
    | none=>⟨fun E A Sz k=>IA A.tmps g fun b=>shut E.most (Bv w b (fun k=>(Km P o).f E A Sz k) Sz fun _ Sz=>k A Sz)⟩
   | none=>⟨fun E A Sz k=>KO E ops o A Sz k⟩
  | none=>⟨fun E A Sz k=>KO E ops o A Sz k⟩
theorem Wd (E:Env) (o:Oper) (A:aO) (Sz:St) (k:KS):(Wc E.P o).f E A Sz k=rP E o A Sz fun v Sz=>iE A o.dst v fun A=>k A Sz:=by
 unfold Wc iE;cases o.dst<;>simp only [HB,Of]
theorem UR (E:Env) (ops:Array Oper) (o:Oper) (A:aO) (Sz:St) (k:KS):(doX E.P ops o).f E A Sz k=KO E ops o A Sz k:=by
 unfold doX;cases hg:o.guard with
 | none=>
  simp only [Wd];unfold KO uB;rw [hg];rfl
 | some jw=>
  obtain⟨j,w⟩:=jw;simp only;cases ho:ops[j]? with
  | none=>rfl
  | some o'=>
   simp only;cases hd':o'.dst with
   | none=>rfl
   | some g=>
    simp only;cases hd:o.dst with
    | none=>
     unfold KO uB iE;simp only [hg,ho,hd',hd,HB,SM,Bv,QU]<;>rfl
    | some d=>
     unfold KO uB iE;simp only [hg,ho,hd',hd,HB,Of,SM,Bv,QU]<;>rfl
noncomputable def aDU (P:Program) (ops:Array Oper) (l:List Oper):TY:=
 eH (β:=TY) ⟨fun _ A Sz k=>k A Sz⟩ (fun o _ ih=>⟨fun E A Sz k=>(doX P ops o).f E A Sz fun A Sz=>ih.f E A Sz k⟩) l
theorem aBr (E:Env) (ops:Array Oper):∀(l:List Oper) (A:aO) (Sz:St) (k:KS),(aDU E.P ops l).f E A Sz k=IZ E ops l A Sz k:=by
 intro l;induction l with
 | nil=>intro A Sz k;rfl
 | cons o l ih=>
  intro A Sz k;show(doX E.P ops o).f E A Sz (fun A Sz=>(aDU E.P ops l).f E A Sz k)=KO E ops o A Sz fun A Sz=>IZ E ops l A Sz k;rw [UR]
  congr 1
  funext A Sz
  exact ih A Sz k
noncomputable def Rp (o:Oper) (d:Tmp) (ops:Array Oper) (ih:ChW):ChW:=⟨fun E A Sz k=>IA A.tmps d fun u=>uB ops o A fun b=>dN b (rP E o A Sz fun v _=>match EV v u with | true=>ih.f E A Sz k | false=>false) (match u with | .tuple ⟨[]⟩=>ih.f E A Sz k | _=>false)⟩
noncomputable def US (P:Program) (ops:Array Oper) (l:List Nat):ChW:=
 eH (β:=ChW) ⟨fun _ _ _ k=>k⟩ (fun i _ ih=>match ops[i]? with
  | some o=>match o.dst with
   | some d=>match o.guard with
    | none=>⟨fun E A Sz k=>IA A.tmps d fun u=>(Km P o).f E A Sz fun v _=>YW v u (ih.f E A Sz k)⟩
    | some (j,w)=>match ops[j]? with
     | some o'=>match o'.dst with
      | some g=>⟨fun E A Sz k=>IA A.tmps d fun u=>IA A.tmps g fun b=>shut E.most (Bw w b u (fun k=>(Km P o).f E A Sz fun v _=>YW v u k) (ih.f E A Sz k))⟩
      | none=>Rp o d ops ih
     | none=>Rp o d ops ih
   | none=>⟨fun _ _ _ _=>false⟩
  | none=>⟨fun _ _ _ _=>false⟩) l
theorem Rq (P:Program) (ops:Array Oper) (i:Nat) (l:List Nat):US P ops (i::l)=match ops[i]? with
 | some o=>match o.dst with
  | some d=>match o.guard with
   | none=>⟨fun E A Sz k=>IA A.tmps d fun u=>(Km P o).f E A Sz fun v _=>YW v u ((US P ops l).f E A Sz k)⟩
   | some (j,w)=>match ops[j]? with
    | some o'=>match o'.dst with
     | some g=>⟨fun E A Sz k=>IA A.tmps d fun u=>IA A.tmps g fun b=>shut E.most (Bw w b u (fun k=>(Km P o).f E A Sz fun v _=>YW v u k) ((US P ops l).f E A Sz k))⟩
     | none=>Rp o d ops (US P ops l)
    | none=>Rp o d ops (US P ops l)
  | none=>⟨fun _ _ _ _=>false⟩
 | none=>⟨fun _ _ _ _=>false⟩:=rfl
theorem Bx (E:Env) (ops:Array Oper) (A:aO) (Sz:St) (k:Bool):∀(l:List Nat),(US E.P ops l).f E A Sz k=rE E ops A Sz l k:=by
 intro l;induction l with
 | nil=>rfl
 | cons i l ih=>
  rw [Rq,OV];cases hi:ops[i]? with
  | none=>rfl
  | some o=>
   simp only;cases hd:o.dst with
   | none=>rfl
   | some d=>
    simp only;cases hg:o.guard with
    | none=>
     simp only [HB,ih,uB,hg,YW];rfl
    | some jw=>
     obtain⟨j,w⟩:=jw;simp only;cases hj:ops[j]? with
     | none=>simp only [Rp,ih]<;>rfl
     | some o'=>
      simp only;cases hd':o'.dst with
      | none=>simp only [Rp,ih]<;>rfl
      | some g=>simp only [HB,ih,uB,hg,hj,hd',SM,Bw,QU,YW,aFB]<;>rfl
noncomputable def aBs (P:Program) (ops:Array Oper) (i:Nat) (o:Oper):OpW:=match cS P ops i with
 | none=>Km P o
 | some _=>⟨fun E A Sz K=>xP E ops i o A Sz K⟩
theorem Og (E:Env) (ops:Array Oper) (i:Nat) (o:Oper) (A:aO) (Sz:St) (K:VK):(aBs E.P ops i o).f E A Sz K=xP E ops i o A Sz K:=by
 unfold aBs;cases h:cS E.P ops i with
 | none=>simp only [HB];unfold xP;rw [h]
 | some j=>rfl
noncomputable def YX (P:Program) (ops:Array Oper) (l:List Nat):TY:=
 eH (β:=TY) ⟨fun _ A Sz k=>k A Sz⟩ (fun i _ ih=>match ops[i]? with
  | some o=>⟨fun E A Sz k=>(aBs P ops i o).f E A Sz fun v Sz=>aDH o.dst v A fun A=>ih.f E A Sz k⟩
  | none=>⟨fun _ _ _ _=>false⟩) l
theorem MT (E:Env) (ops:Array Oper):∀(l:List Nat) (A:aO) (Sz:St) (k:KS),(YX E.P ops l).f E A Sz k=jD E ops l A Sz k:=by
 intro l;induction l with
 | nil=>intro A Sz k;rfl
 | cons i l ih=>
  intro A Sz k;unfold YX jD at ih ⊢;rw [aW,aW];cases ops[i]? with
  | none=>rfl
  | some o=>
   simp only [Og,Nx]
   congr 1
   funext v Sz
   congr 1
   funext A
   exact ih A Sz k
noncomputable def We (P:Program) (ops:Array Oper) (l:List (Nat×List Nat)):ChW:=
 eH (β:=ChW) ⟨fun _ _ _ k=>k⟩ (fun p _ ih=>match ops[p.1]? with
  | some o=>⟨fun E A Sz k=>Jy A o (dN ((YX P ops p.2).f E A Sz fun A Sz=>(aBs P ops p.1 o).f E A Sz fun _ _=>true) (ih.f E A Sz k) false)⟩
  | none=>⟨fun _ _ _ _=>false⟩) l
theorem By (E:Env) (ops:Array Oper) (A:aO) (Sz:St) (k:Bool):∀(l:List (Nat×List Nat)),(We E.P ops l).f E A Sz k=FM E ops A Sz l k:=by
 intro l;induction l with
 | nil=>rfl
 | cons p l ih=>
  unfold We FM at ih ⊢;rw [aW,aW];cases ops[p.1]? with
  | none=>rfl
  | some o=>simp only [MT,Og,ih]
noncomputable def MU (P:Program) (ops:Array Oper) (l:List rA):TY:=
 eH (β:=TY) ⟨fun _ _ _ _=>false⟩ (fun s _ ih=>match s with
  | .take i=>match ops[i]? with
   | some o=>⟨fun E A Sz k=>(doX P ops o).f E A Sz fun A Sz=>ih.f E A Sz k⟩
   | none=>⟨fun _ _ _ _=>false⟩
  | .req chk pend D r vX=>match ops[r]? with
   | some o=>⟨fun E A Sz k=>(US P ops chk).f E A Sz ((We P ops pend).f E A Sz ((YX P ops D).f E A Sz fun A Sz=>(doX P ops o).f E A Sz fun A Sz=>(US P ops vX).f E A Sz (ih.f E A Sz k)))⟩
   | none=>⟨fun _ _ _ _=>false⟩
  | .fin chk pend D=>⟨fun E A Sz k=>(US P ops chk).f E A Sz ((We P ops pend).f E A Sz ((YX P ops D).f E A Sz k))⟩) l
theorem LA (E:Env) (ops:Array Oper):∀(l:List rA) (A:aO) (Sz:St) (k:KS),(MU E.P ops l).f E A Sz k=iC E ops l A Sz k:=by
 intro l;induction l with
 | nil=>intro A Sz k;rfl
 | cons s l ih=>
  intro A Sz k;unfold MU iC at ih ⊢;rw [aW,aW];cases s with
  | take i=>
   simp only;cases ops[i]? with
   | none=>rfl
   | some o=>simp only [UR,ih]
  | req chk pend D r vX=>
   simp only;cases ops[r]? with
   | none=>rfl
   | some o=>simp only [UR,Bx,By,MT,ih]
  | fin chk pend D=>simp only [Bx,By,MT]
noncomputable def MV (P:Program) (ops:Array Oper) (l:List rA):TY:=
 eH (β:=TY) ⟨fun _ A Sz k=>k A Sz⟩ (fun s _ ih=>match s with
  | .take i=>match ops[i]? with
   | some o=>⟨fun E A Sz k=>(doX P ops o).f E A Sz fun A Sz=>ih.f E A Sz k⟩
   | none=>⟨fun _ _ _ _=>false⟩
  | .req chk pend D r vX=>match ops[r]? with
   | some o=>⟨fun E A Sz k=>(US P ops chk).f E A Sz ((We P ops pend).f E A Sz ((YX P ops D).f E A Sz fun A Sz=>(doX P ops o).f E A Sz fun A Sz=>(US P ops vX).f E A Sz (ih.f E A Sz k)))⟩
   | none=>⟨fun _ _ _ _=>false⟩
  | .fin _ _ _=>⟨fun _ _ _ _=>false⟩) l
theorem Gp (E:Env) (ops:Array Oper):∀(l:List rA) (A:aO) (Sz:St) (k:KS),(MV E.P ops l).f E A Sz k=qR E ops l A Sz k:=by
 intro l;induction l with
 | nil=>intro A Sz k;rfl
 | cons s l ih=>
  intro A Sz k;unfold MV qR at ih ⊢;rw [aW,aW];cases s with
  | take i=>
   simp only;cases ops[i]? with
   | none=>rfl
   | some o=>simp only [UR,ih]
  | req chk pend D r vX=>
   simp only;cases ops[r]? with
   | none=>rfl
   | some o=>simp only [UR,Bx,By,MT,ih]
  | fin chk pend D=>rfl
noncomputable def Kp (P:Program) (p:GY):Array Oper->TY:=
 GY.rec (motive:=fun _=>Array Oper->TY) (fun l ops=>MU P ops l) (fun l g t b _ ih ops=>⟨fun E A Sz k=>(MV P ops l).f E A Sz fun A Sz=>MP A t b ((ih (cR ops g b)).f E A Sz k)⟩) p
theorem Rr (E:Env):∀(p:GY) (ops:Array Oper) (A:aO) (Sz:St) (k:KS),(Kp E.P p ops).f E A Sz k=GZ E p ops A Sz k:=by
 intro p;induction p with
 | fin l=>intro ops A Sz k;exact LA E ops l A Sz k
 | cut l g t b r ih=>
  intro ops A Sz k;show(MV E.P ops l).f E A Sz (fun A Sz=>MP A t b ((Kp E.P r (cR ops g b)).f E A Sz k))=qR E ops l A Sz fun A Sz=>MP A t b (GZ E r (cR ops g b) A Sz k);rw [Gp]
  congr 1
  funext A Sz
  rw [ih]
noncomputable def Rs (P:Program) (ops:Array Oper) (draw:Bool):TY:=
 match draw with
 | true=>match MK P ops with
  | some l=>match CE l with
   | []=>MU P ops l
   | ls=>⟨fun E A Sz k=>GR ops ls A fun A=>(MU P ops l).f E A Sz k⟩
  | none=>match zA ops with
   | true=>match MO P (ops.size+1) ops ⟨List.replicate ops.size false⟩ []with
    | some p=>⟨fun E A Sz k=>GR ops (Br p) A fun A=>(Kp P p ops).f E A Sz k⟩
    | none=>⟨fun _ _ _ _=>false⟩
   | false=>⟨fun _ _ _ _=>false⟩
 | false=>aDU P ops ops.toList
theorem Oh (E:Env) (ops:Array Oper) (draw:Bool) (A:aO) (Sz:St) (k:KS):(Rs E.P ops draw).f E A Sz k=dN draw (drG E ops A Sz k) (IZ E ops ops.toList A Sz k):=by
 cases draw with
 | true=>
  unfold Rs drG dN;simp only;cases MK E.P ops with
  | none=>
   simp only;cases zA ops with
   | false=>rfl
   | true=>
    simp only;cases MO E.P (ops.size+1) ops ⟨List.replicate ops.size false⟩ []with
    | none=>rfl
    | some p=>simp only [Rr]
  | some l=>
   simp only;cases h:CE l with
   | nil=>exact LA E ops l A Sz k
   | cons d ls=>simp only [LA]
 | false=>exact aBr E ops _ A Sz k
structure mE where
 loop:Nat->List Nat×List Nat×List Nat
 join:Nat->Option (List Nat)
def lO:Code->Option Nat
 | .region i _ _=>some i
 | .seq a b=>match lO a with | some i=>some i | none=>lO b
 | .cond _ a b=>match lO a with | some i=>some i | none=>lO b
 | .block _ a=>lO a
 | .loop a=>lO a
 | .scope a=>lO a
 | .rangeFunc _ _ a b=>match lO a with | some i=>some i | none=>lO b
 | _=>none
def rF (tb:mE) (a:Code):List Nat:=match lO a with | some i=>(tb.loop i).1 | none=>[]
def outOf (tb:mE) (a:Code) (e:qZ):List Nat:=match lO a with
 | some i=>match e with | .ret=>(tb.loop i).2.2 | _=>(tb.loop i).2.1
 | none=>[]
def xQ (tb:mE) (b:Code):Option (List Nat):=match lO b with | some i=>tb.join i | none=>none
noncomputable def uL (l:List Nat) (A:aO) (k:List Value->Bool):Bool:=
 eH (β:=(List Value->Bool)->Bool) (fun k=>k []) (fun i _ ih k=>IA A.tmps i fun v=>ih fun vs=>k (v::vs)) l k
noncomputable def canonK (l:List Nat) (vs:List Value) (nt g:Nat) (marks:List Nat) (k:aO->Bool):Bool:=
 eH (β:=List Value->Tm->Bool) (fun _ T=>k ⟨T,marks,g⟩) (fun i _ ih vs T=>match vs with | v::vs=>nQ v T i fun T=>ih vs T | []=>false) l vs ⟨.leaf,nt⟩
abbrev LpT:=Env->Option Nat->List Value->Nat->List Nat->St->(qZ->List Value->Nat->List Nat->St->Bool)->Bool
section
variable (P:Program) (tb:mE)
noncomputable def Cc (a:Code) (ih:List Value->Nat->List Nat->St->Bool) (K:qZ->List Value->Nat->List Nat->St->Bool):KP:=fun e A Sz=>match e with
 | .normal=>uL (rF tb a) A fun vs=>ih vs A.tmps.n A.marks Sz
 | e=>uL (outOf tb a e) A fun vs=>K e vs A.tmps.n A.marks Sz
noncomputable def MW (a:Code) (body:CdW) (E:Env) (r:Option Nat) (K:qZ->List Value->Nat->List Nat->St->Bool):Nat->List Value->Nat->List Nat->St->Bool:=
 AJ (β:=List Value->Nat->List Nat->St->Bool) (fun _ _ _ _=>false) (fun _ ih vs n marks Sz=>canonK (rF tb a) vs n P.globals.size marks fun A=>body.f E r A Sz (Cc tb a ih K))
noncomputable def aBv (a:Code) (body:CdW):LpT:=fun E r vs n marks Sz K=>MW P tb a body E r K E.most vs n marks Sz
noncomputable def aDY (a:Code) (K:KP):qZ->List Value->Nat->List Nat->St->Bool:=fun e vs n marks Sz=>canonK (outOf tb a e) vs n P.globals.size marks fun A=>K e A Sz
noncomputable def aFC (a:Code) (lp:LpT):CdW:=⟨fun E r A Sz K=>uL (rF tb a) A fun vs=>lp E r vs A.tmps.n A.marks Sz (aDY P tb a K)⟩
noncomputable def Oi (l:List Nat) (b:CdW) (E:Env) (r:Option Nat) (K:KP) (vs:List Value) (n:Nat) (marks:List Nat) (Sz:St):Bool:=kK E.most false fun _=>canonK l vs n P.globals.size marks fun A=>b.f E r A Sz K
noncomputable def Gr (j:Option (List Nat)) (b:CdW) (E:Env) (r:Option Nat) (K:KP):KP:=fun e A Sz=>match e with
 | .normal=>match j with
  | none=>b.f E r A Sz K
  | some l=>uL l A fun vs=>Oi P l b E r K vs A.tmps.n A.marks Sz
 | e=>K e A Sz
noncomputable def Ks (id:Nat) (K:KP):KP:=fun e A Sz=>match e with
 | .exit i=>match Nat.beq i id with | true=>K .normal A Sz | false=>K (.exit i) A Sz
 | e=>K e A Sz
noncomputable def kO (lp:Code->LpT):Code->CdW
 | .skip=>⟨fun _ _ A Sz K=>K .normal A Sz⟩
 | .region _ ops draw=>⟨fun E _ A Sz K=>(Rs P ops draw).f E A Sz fun A Sz=>K .normal A Sz⟩
 | .seq a b=>⟨fun E r A Sz K=>(kO lp a).f E r A Sz (Gr P (xQ tb b) (kO lp b) E r K)⟩
 | .cond c a b=>⟨fun E r A Sz K=>(sC c).f A fun v=>match v with | .bool v=>dN v ((kO lp a).f E r A Sz K) ((kO lp b).f E r A Sz K) | _=>false⟩
 | .block id a=>⟨fun E r A Sz K=>(kO lp a).f E r A Sz (Ks id K)⟩
 | .loop a=>aFC P tb a (lp a)
 | .scope a=>kO lp a
 | .rangeFunc f ps as bo=>⟨fun E r A Sz K=>KQ E r f ps as bo A Sz K⟩
 | .exit id=>⟨fun _ _ A Sz K=>K (.exit id) A Sz⟩
 | .label _=>⟨fun _ _ A Sz K=>K .normal A Sz⟩
 | .ret=>⟨fun _ _ A Sz K=>K .ret A Sz⟩
 | _=>⟨fun _ _ _ _ _=>false⟩
noncomputable def Rv:Nat->Code->LpT
 | 0=>fun _ _ _ _ _ _ _ _=>false
 | n+1=>fun a=>aBv P tb a (kO P tb (Rv n) a)
end
end Go.Am
namespace Go.Am
open Go.RowKit Go.MapKept
section
variable{P:Program}{w0:World}{U:Rn}{Sz:St}{w:World}
theorem Kt{A:aO}:∀{l:List Nat} {k:List Value->Bool},uL l A k=true->∃vs,k vs=true/\vs.length=l.length/\∀(j i:Nat) (v:Value),l[j]? =some i->vs[j]? =some v->A.tmps.t.get i=some v:=by
 intro l;induction l with
 | nil=>intro k hk;exact⟨[],hk,rfl,fun j i v h=>by simp at h⟩
 | cons x l ih=>
  intro k hk;obtain⟨v,hv,hk⟩:=wT (show IA A.tmps x (fun v=>uL l A fun vs=>k (v::vs))=true from hk);obtain⟨vs,h1,h2,h3⟩:=ih hk;refine⟨v::vs,h1,by simp [h2],fun j i u hi hu=>?_⟩;cases j with
  | zero=>simp at hi hu;subst hi hu;exact hv
  | succ j=>simp at hi hu;exact h3 j i u hi hu
def Oj (U:Rn) (l:List Nat) (vs:List Value) (a:Act):Prop:=vs.length=l.length/\∀(j i:Nat) (v:Value),l[j]? =some i->vs[j]? =some v->∃v',a.tmps.toList[i]? =some v'/\VR U v v'
theorem Gt{A:aO}{a:Act} (hA:sJ P U A a){l:List Nat}{k:List Value->Bool} (hk:uL l A k=true):∃vs,k vs=true/\Oj U l vs a:=by
 obtain⟨vs,h1,h2,h3⟩:=Kt hk;exact⟨vs,h1,h2,fun j i v hi hv=>hA.tmps.get (h3 j i v hi hv)⟩
theorem Cd{a:Act}{marks:List Nat}{k:aO->Bool}{nt:Nat}:∀{l:List Nat} {vs:List Value} {T:Tm},
 (eH (β:=List Value->Tm->Bool) (fun _ T=>k ⟨T,marks,P.globals.size⟩) (fun i _ ih vs T=>match vs with | v::vs=>nQ v T i fun T=>ih vs T | []=>false) l vs T)=true->
 Oj U l vs a->T.n=nt->(∀i v,T.t.get i=some v->∃v',a.tmps.toList[i]? =some v'/\VR U v v')->∃T',k ⟨T',marks,P.globals.size⟩=true/\T'.n=nt/\∀i v,T'.t.get i=some v->∃v',a.tmps.toList[i]? =some v'/\VR U v v':=by
 intro l;induction l with
 | nil=>intro vs T hk _ hn hT;exact⟨T,hk,hn,hT⟩
 | cons x l ih=>
  intro vs T hk hv hn hT;rw [aW]at hk;cases vs with
  | nil=>have:=hv.1;simp at this
  | cons v vs=>
   obtain⟨hx,hk⟩:=vT hk;refine ih hk ⟨by have:=hv.1;simpa using this,fun j i u hi hu=>hv.2 (j+1) i u (by simpa using hi) (by simpa using hu)⟩ hn fun i u hu=>?_;have hu:(T.t.put x v).get i=some u:=hu;rw [get_put]at hu;split at hu
   ·rename_i e
    injection hu with hu;subst hu e;exact hv.2 0 i v rfl rfl
   ·exact hT i u hu
theorem Gu{a:Act}{marks:List Nat}{k:aO->Bool}{nt:Nat}{l:List Nat}{vs:List Value} (hk:canonK l vs nt P.globals.size marks k=true) (hv:Oj U l vs a) (hn:nt=a.tmps.size) (hm:Bb U marks a.defers) (hr:Rel P w0 U Sz w):
 ∃A,k A=true/\SR P w0 U A a Sz w/\A.marks=marks:=by
 obtain⟨T',h1,h2,h3⟩:=Cd hk hv rfl (fun i v h=>by cases h);exact⟨_,h1,⟨⟨⟨by rw [h2,hn];simp,h3⟩,rfl⟩,hr,hm⟩,rfl⟩
end
end Go.Am
namespace Go.Am
open Go.RowKit Go.MapKept
section
variable{E:Env}{w0:World}
structure AtX (P:Program) (w0:World) (U:Rn) (l:List Nat) (vs:List Value) (n:Nat) (marks:List Nat) (a:Act) (Sz:St) (w:World):Prop where
 vals:Oj U l vs a
 size:n=a.tmps.size
 marks:Bb U marks a.defers
 rel:Rel P w0 U Sz w
def aHr (P:Program) (w0:World) (tb:mE) (b:Code) (U:Rn) (w:World) (K:qZ->List Value->Nat->List Nat->St->Bool) (e:Exit) (a':Act) (w':World):Prop:=
 ∃U' ae vs n marks S',e=exR ae/\K ae vs n marks S'=true/\AtX P w0 U' (outOf tb b ae) vs n marks a' S' w'/\Stp U w U' w'
def aFD (E:Env) (w0:World) (tb:mE) (lp:Code->LpT):Prop:=∀(b:Code) {U:Rn} {vs:List Value} {n:Nat} {marks:List Nat} {a:Act} {Sz:St} {w:World} {K:qZ->List Value->Nat->List Nat->St->Bool} {r ro:Option Nat} {Q:Exit->Act->World->Prop},
 lp b E r vs n marks Sz K=true->AtX E.P w0 U (rF tb b) vs n marks a Sz w->RoR U r ro->(∀e a' w',aHr E.P w0 tb b U w K e a' w'->Q e a' w')->(Code.loop b).wpIn (FK ro) 0 E.P Q a w
theorem AtX.canon{P:Program}{U:Rn}{l:List Nat}{vs:List Value}{n:Nat}{marks:List Nat}{a:Act}{Sz:St}{w:World}{k:aO->Bool} (h:AtX P w0 U l vs n marks a Sz w) (hk:canonK l vs n P.globals.size marks k=true):∃A,k A=true/\SR P w0 U A a Sz w:=by
 obtain⟨A,h1,h2,_⟩:=Gu hk h.vals h.size h.marks h.rel;exact⟨A,h1,h2⟩
theorem SR.at{P:Program}{U:Rn}{A:aO}{a:Act}{Sz:St}{w:World}{l:List Nat}{k:List Value->Bool} (h:SR P w0 U A a Sz w) (hk:uL l A k=true):∃vs,k vs=true/\AtX P w0 U l vs A.tmps.n A.marks a Sz w:=by
 obtain⟨vs,h1,h2⟩:=Gt h.act hk;exact⟨vs,h1,h2,by rw [h.act.tmps.1];simp,h.marks,h.rel⟩
theorem MX (hc:gN E.P w0 E.call) (hr:jC E.P w0 E.round) (hm:E.P.follows .mixedOrders=true){tb:mE}{lp:Code->LpT} (hlp:aFD E w0 tb lp):∀(c:Code) {U:Rn} {A:aO} {a:Act} {Sz:St} {w:World} {K:KP} {r ro:Option Nat} {Q:Exit->Act->World->Prop},
 (kO E.P tb lp c).f E r A Sz K=true->SR E.P w0 U A a Sz w->RoR U r ro->(∀e a' w',Arr E.P w0 U w K e a' w'->Q e a' w')->c.wpIn (FK ro) 0 E.P Q a w:=by
 intro c;induction c with
 | skip=>intro U A a Sz w K r ro Q hk hs hro hQ;exact wpIn_skip (hQ _ _ _ ⟨U,.normal,A,Sz,rfl,hk,hs,.refl U w⟩)
 | label l=>intro U A a Sz w K r ro Q hk hs hro hQ;exact wpIn_label (hQ _ _ _ ⟨U,.normal,A,Sz,rfl,hk,hs,.refl U w⟩)
 | ret=>intro U A a Sz w K r ro Q hk hs hro hQ;exact wpIn_ret (hQ _ _ _ ⟨U,.ret,A,Sz,rfl,hk,hs,.refl U w⟩)
 | exit id=>intro U A a Sz w K r ro Q hk hs hro hQ;exact wpIn_exit (hQ _ _ _ ⟨U,.exit id,A,Sz,rfl,hk,hs,.refl U w⟩)
 | goto l=>intro U A a Sz w K r ro Q hk hs hro hQ;cases hk
 | refuse l=>intro U A a Sz w K r ro Q hk hs hro hQ;cases hk
 | region id ops draw=>
  intro U A a Sz w K r ro Q hk hs hro hQ;have hk:(Rs E.P ops draw).f E A Sz (fun A Sz=>K .normal A Sz)=true:=hk;rw [Oh]at hk;exact LZ hc hr (aDR hc hr hm) (.region id ops draw) hk hs hro hQ
 | seq x y Uy ihy=>
  intro U A a Sz w K r ro Q hk hs hro hQ;have hk:(kO E.P tb lp x).f E r A Sz (Gr E.P (xQ tb y) (kO E.P tb lp y) E r K)=true:=hk;refine wpIn_seq (Uy hk hs hro ?_)
  rintro e a' w' ⟨U',ae,A',S',rfl,h1,h2,h3⟩
  cases ae with
  | normal=>
   unfold Gr at h1;cases hj:xQ tb y with
   | none=>
    rw [hj]at h1;exact ihy h1 h2 (hro.mono h3.ext) fun e a w h=>hQ e a w (h.trans h3)
   | some l=>
    rw [hj]at h1;have h1:uL l A' (fun vs=>Oi E.P l (kO E.P tb lp y) E r K vs A'.tmps.n A'.marks S')=true:=h1;obtain⟨vs,g1,g2⟩:=h2.at h1
    have g1:canonK l vs A'.tmps.n E.P.globals.size A'.marks (fun A=>(kO E.P tb lp y).f E r A S' K)=true:=by
     unfold Oi at g1;cases hm:E.most with
     | zero=>rw [hm]at g1;cases g1
     | succ m=>rw [hm]at g1;exact g1
    obtain⟨A2,g3,g4⟩:=g2.canon g1;exact ihy g3 g4 (hro.mono h3.ext) fun e a w h=>hQ e a w (h.trans h3)
  | exit id=>exact hQ _ _ _ ⟨U',.exit id,A',S',rfl,h1,h2,h3⟩
  | ret=>exact hQ _ _ _ ⟨U',.ret,A',S',rfl,h1,h2,h3⟩
 | cond c x y Uy ihy=>
  intro U A a Sz w K r ro Q hk hs hro hQ;have hk:(sC c).f A (fun v=>match v with | .bool b=>dN b ((kO E.P tb lp x).f E r A Sz K) ((kO E.P tb lp y).f E r A Sz K) | _=>false)=true:=hk;rw [gI]at hk;obtain⟨v,hk,hv⟩:=aM hs.rel hs.act hk;split at hk
  ·rename_i b
   have e:=hv.of_flat rfl;cases b with
   | true=>exact wpIn_cond_true e (Uy hk hs hro hQ)
   | false=>exact wpIn_cond_false e (ihy hk hs hro hQ)
  ·cases hk
 | block id x ih=>
  intro U A a Sz w K r ro Q hk hs hro hQ;have hk:(kO E.P tb lp x).f E r A Sz (Ks id K)=true:=hk;refine wpIn_block (ih hk hs hro ?_)
  rintro e a' w' ⟨U',ae,A',S',rfl,h1,h2,h3⟩
  cases ae with
  | normal=>exact hQ _ _ _ ⟨U',.normal,A',S',rfl,h1,h2,h3⟩
  | ret=>exact hQ _ _ _ ⟨U',.ret,A',S',rfl,h1,h2,h3⟩
  | exit i=>
   unfold Ks at h1;simp only at h1;show Exit.inBlock id Q (.exit i) a' w';split at h1
   ·rename_i hi
    have hi:=Nat.eq_of_beq_eq_true hi;subst hi;simp only [Exit.inBlock,if_true];exact hQ _ _ _ ⟨U',.normal,A',S',rfl,h1,h2,h3⟩
   ·rename_i hi
    have hi:=Nat.ne_of_beq_eq_false hi;simp only [Exit.inBlock,hi,if_false];exact hQ _ _ _ ⟨U',.exit i,A',S',rfl,h1,h2,h3⟩
 | scope x ih=>
  intro U A a Sz w K r ro Q hk hs hro hQ;refine TV (ih (show(kO E.P tb lp x).f E r A Sz K=true from hk) hs hro ?_)
  rintro e a' w' ⟨U',ae,A',S',rfl,h1,h2,h3⟩
  cases ae with
  | normal=>exact hQ _ _ _ ⟨U',.normal,A',S',rfl,h1,h2,h3⟩
  | exit id=>exact hQ _ _ _ ⟨U',.exit id,A',S',rfl,h1,h2,h3⟩
  | ret=>exact hQ _ _ _ ⟨U',.ret,A',S',rfl,h1,h2,h3⟩
 | rangeFunc f ps as bo _ _=>
  intro U A a Sz w K r ro Q hk hs hro hQ;exact YM hc hk hs hro hQ
 | loop x ih=>
  intro U A a Sz w K r ro Q hk hs hro hQ;have hk:uL (rF tb x) A (fun vs=>lp x E r vs A.tmps.n A.marks Sz (aDY E.P tb x K))=true:=hk;obtain⟨vs,hk,hat⟩:=hs.at hk;refine hlp x hk hat hro ?_
  rintro e a' w' ⟨U',ae,vs',n',marks',S',rfl,h1,h2,h3⟩
  obtain⟨A',h1,h4⟩:=h2.canon h1;exact hQ _ _ _ ⟨U',ae,A',S',rfl,h1,h4,h3⟩
theorem Ku (hc:gN E.P w0 E.call) (hr:jC E.P w0 E.round) (hm:E.P.follows .mixedOrders=true) (tb:mE):∀m,aFD E w0 tb (Rv E.P tb m):=by
 intro m;induction m with
 | zero=>intro b U vs n marks a Sz w K r ro Q hk;cases hk
 | succ m ih=>
  intro b U vs n marks a Sz w K r ro Q hk hat hro hQ
  let F:Nat->List Value->Nat->List Nat->St->Bool:=MW E.P tb b (kO E.P tb (Rv E.P tb m) b) E r K
  have hk:F E.most vs n marks Sz=true:=hk
  let I:Nat->Act->World->Prop:=fun j a' w'=>∃U' vs n marks S',F j vs n marks S'=true/\AtX E.P w0 U' (rF tb b) vs n marks a' S' w'/\Stp U w U' w'
  refine wpIn_loop (I:=fun a w=>∃j,I j a w) (μ:=fun a w=>least fun j=>I j a w) ⟨E.most,U,vs,n,marks,Sz,hk,hat,.refl U w⟩ ?_
  rintro a1 w1 ⟨j0,hj0⟩
  obtain⟨hj,_⟩:=DS (p:=fun j=>I j a1 w1) hj0;generalize hgen:least (fun j=>I j a1 w1)=j at hj;obtain⟨U1,vs1,n1,aDZ,S1,h1,h2,h3⟩:=hj;cases j with
  | zero=>cases h1
  | succ j=>
   have h1:canonK (rF tb b) vs1 n1 E.P.globals.size aDZ (fun A=>(kO E.P tb (Rv E.P tb m) b).f E r A S1 (Cc tb b (F j) K))=true:=h1;obtain⟨A1,h1,hs1⟩:=h2.canon h1;refine MX hc hr hm ih b h1 hs1 (hro.mono h3.ext) ?_
   rintro e a' w' ⟨U',ae,A',S',rfl,g1,g2,g3⟩
   cases ae with
   | normal=>
    obtain⟨vs',g1,hat'⟩:=g2.at g1;have hI:I j a' w':=⟨U',vs',_,_,S',g1,hat',h3.trans g3⟩;refine⟨⟨j,hI⟩,?_⟩;have:=(DS (p:=fun j=>I j a' w') hI).2;exact Nat.lt_succ_of_le this
   | exit id=>
    obtain⟨vs',g1,hat'⟩:=g2.at g1;exact hQ _ _ _ ⟨U',.exit id,vs',_,_,S',rfl,g1,hat',h3.trans g3⟩
   | ret=>
    obtain⟨vs',g1,hat'⟩:=g2.at g1;exact hQ _ _ _ ⟨U',.ret,vs',_,_,S',rfl,g1,hat',h3.trans g3⟩
end
section
variable (P:Program) (tb:FuncId->mE)
noncomputable def aHs (fn:Func) (K:VK):KP:=fun e A Sz=>match e with
 | .exit _=>false
 | _=>BO A.marks Sz fun Sz=>mV P fn.results.toList A Sz fun vs=>match vs with | [v]=>K v Sz | vs=>K (.tuple ⟨vs⟩) Sz
def vI:Nat:=5
noncomputable def fnX (f:FuncId) (E:Env) (args:List Value) (Sz:St) (K:VK):Bool:=
 match P.funcs[f]? with
 | some fn=>match fn.body with
  | some c=>bA fn.ntmps fun n=>Nc n args fun ts=>(kO P (tb f) (Rv P (tb f) vI) c).f E none ⟨ts,[],P.globals.size⟩ Sz (aHs P fn K)
  | none=>false
 | none=>false
def PE (n:Nat) (bo:Code):Nat:=match lO bo with | some i=>1000000+n*10000+i | none=>1000000
def JP (n:Nat) (bo:Code):List Nat:=((tb (PE n bo)).loop 1000000).1
noncomputable def aBw (l:Nat) (K:VK):KP:=fun e _ Sz=>nY Sz.h l fun o=>match o with
 | .loop tm ps as bo _ _=>match e with
  | .normal=>mS Sz l (.loop tm ps as bo .ready none) fun Sz=>K (.bool true) Sz
  | .ret=>mS Sz l (.loop tm ps as bo .done (some .ret)) fun Sz=>K (.bool false) Sz
  | .exit id=>mS Sz l (.loop tm ps as bo .done (some (.exit id))) fun Sz=>K (.bool false) Sz
 | _=>false
noncomputable def Wk (n l:Nat) (bo:Code) (E:Env) (K:VK):KP:=fun e A Sz=>match e with
 | .normal=>nY Sz.h l fun o=>match o with
  | .loop tm ps as bo' .ready pe=>mS Sz l (.loop tm ps as bo' .busy pe) fun Sz=>(kO P (tb (PE n bo)) (Rv P (tb (PE n bo)) vI) bo).f E (some l) A Sz (aBw l K)
  | _=>false
 | _=>false
noncomputable def UT (E:Env) (l:Nat) (args:List Value) (Sz:St) (K:VK):Bool:=
 nY Sz.h l fun o=>match o with
  | .loop tmps ps as bo _ _=>uL (JP tb tmps.n bo) ⟨tmps,[],P.globals.size⟩ fun vs=>canonK (JP tb tmps.n bo) vs tmps.n P.globals.size [] fun A=>Fd ps args A.tmps fun ts=>
   (kO P (tb (PE tmps.n bo)) (Rv P (tb (PE tmps.n bo)) vI) as).f E (some l) ⟨ts,[],P.globals.size⟩ Sz (Wk P tb tmps.n l bo E K)
  | _=>false
noncomputable def Rw (ov:FuncId->Option (List Value->St->VK->Bool)) (most:Nat) (n:Nat):Env:=
 AJ (β:=Env) {P,ov,call:=fun _ _ _ _=>false,round:=fun _ _ _ _=>false,most}
  (fun _ E=>{P,ov,call:=fun f args Sz K=>match ov f with | some g=>g args Sz K | none=>fnX P tb f E args Sz K,round:=fun l args Sz K=>UT P tb E l args Sz K,most}) n
inductive Dir where
 | l
 | r
 | d
variable (T:mE) (E:Env)
end
section
variable{P:Program}{tb:FuncId->mE}{w0:World}
theorem Rx{E:Env} (hP:E.P=P) (hc:gN P w0 E.call) (hr:jC P w0 E.round) (hm:P.follows .mixedOrders=true) (yZ:∀(f:FuncId) (fn:Func),P.funcs[f]? =some fn->fn.name≠ "runtime.NumGoroutine"):gN P w0 (fun f args Sz K=>fnX P tb f E args Sz K):=by
 subst hP;intro f args Sz K U w args' hk h ha;dsimp only at hk;unfold fnX at hk;split at hk
 ·rename_i fn hf
  split at hk
  ·rename_i c hb
   refine⟨fun w=>?_,?_⟩
   ·have hn:=yZ f fn hf
    have hp:(program).run E.P w= .ok E.P w:=rfl;simp [callFunc,hp,hf,hn,hb]
   ·rw [aT]at hk
    obtain⟨ts,hk,hts⟩:=QG hk ha;refine callsIn_of_wp_marks hf hb trivial (MX hc hr hm (Ku hc hr hm (tb f) vI) c (ro:=none) (r:=none) hk ⟨⟨hts,rfl⟩,h,⟨rfl,by simp⟩⟩ (.inl ⟨rfl,rfl⟩) ?_)
    ·rintro e a' w' ⟨U',ae,A',S',rfl,g1,g2,g3⟩
     have fin:BO A'.marks S' (fun Sz=>mV E.P fn.results.toList A' Sz fun vs=>match vs with | [v]=>K v Sz | vs=>K (.tuple ⟨vs⟩) Sz)=true->LeavesInM (FK none) 0 E.P fn a'.tmps (Back E.P w0 U w K) a'.defers .returning w':=by
      intro hk;refine MA hk g2.rel g2.marks fun S2 w2 hk hrel hstp=>?_;obtain⟨vs,vs',hk,hvs,hrun⟩:=GN hrel g2.act hk
      have hmap:(fn.results.mapM (fun | .tmp t=>pure (a'.tmps.getD t undef) | .cell x t=>do loadVar t (<-asAddr (a'.tmps.getD x undef)):ResultVar->Sem Value)).run E.P w2= .ok ⟨vs'⟩ w2:=by
       rw [<-Array.toArray_toList (xs:=fn.results),List.mapM_toArray];rw [Sem.run_map];exact(congrArg (fun r=>Result.andThen r _) hrun).trans rfl
      refine⟨(if h:(⟨vs'⟩:Array Value).size=1 then(⟨vs'⟩:Array Value)[0]else .tuple ⟨vs'⟩),?_,?_⟩
      ·unfold results
       rw [Sem.run_bind];exact(congrArg (fun r=>Result.andThen r _) hmap).trans rfl
      ·refine⟨_,rfl,?_⟩
       match vs,vs',hk,hvs with
       | [v],[v'],hk,hvs=>exact⟨U',v,S2,hk,hvs.head,hrel,g3.trans hstp⟩
       | [],[],hk,hvs=>exact⟨U',_,S2,hk,.kN (.nil _),hrel,g3.trans hstp⟩
       | a::b::l,a2::b2::l2,hk,hvs=>
        have:¬(⟨a2::b2::l2⟩:Array Value).size=1:=by simp
        rw [dif_neg this];exact⟨U',_,S2,hk,.kN hvs,hrel,g3.trans hstp⟩
       | [],_::_,_,hvs=>have:=hvs.1;simp at this
       | _::_,[],_,hvs=>have:=hvs.1;simp at this
       | [_],_::_::_,_,hvs=>have:=hvs.1;simp at this
       | _::_::_,[_],_,hvs=>have:=hvs.1;simp at this
     cases ae with
     | normal=>exact fin g1
     | ret=>exact fin g1
     | exit id=>cases g1
  ·cases hk
 ·cases hk
theorem Ce{E:Env} (hP:E.P=P) (hc:gN P w0 E.call) (hr:jC P w0 E.round) (hm:P.follows .mixedOrders=true):jC P w0 (UT P tb E):=by
 subst hP;intro l args Sz K U w args' L hk h ha hL;unfold UT at hk;obtain⟨o,ho,hk⟩:=jU hk;split at hk
 ·rename_i tmps params assign body st pe
  obtain⟨r,hb,hrr,hst,hpe,hps,has,YL,htm⟩:=pZ h ho hL;have aHt:SR E.P w0 U ⟨tmps,[],E.P.globals.size⟩ {tmps:=r.tmps,defers:=[]} Sz w:=⟨⟨htm,rfl⟩,h,⟨rfl,by simp⟩⟩;obtain⟨vs,hk,hat⟩:=aHt.at hk;obtain⟨A0,hk,hA0⟩:=hat.canon hk;obtain⟨ts,hk,hlen,hts⟩:=TX hk ha hA0.act.tmps
  have Jt:(Instr.yield L.b ⟨args'⟩).run E.P w= .ok (.round L.b r.fn ((r.params.zip ⟨args'⟩).foldl (fun tmps (x:Tmp×Value)=>tmps.setIfInBounds x.1 x.2) r.tmps) r.assign r.body) w:=by
   have hsz:(⟨args'⟩:Array Value).size=r.params.size:=by
    show args'.length=_;rw [hlen,<-hps];rfl
   have hne:¬(⟨args'⟩:Array Value).size≠r.params.size:=fun hh=>hh hsz;simp only [Instr.yield,Sem.run_bind,run_getLoop hrr,Result.andThen_ok,if_neg hne,Sem.run_pure]
  refine⟨_,_,_,_,Jt,?_⟩;refine roundIn_of_wpIn trivial ?_;rw [has]
  have aDy:((r.params.zip ⟨args'⟩).foldl (fun tmps (x:Tmp×Value)=>tmps.setIfInBounds x.1 x.2) r.tmps)=(params.zip args').foldl (fun tmps (x:Tmp×Value)=>tmps.setIfInBounds x.1 x.2) r.tmps:=by
   rw [<-Array.foldl_toList]
   congr 1
   rw [Array.toList_zip,hps]
  rw [aDy];refine MX hc hr hm (Ku hc hr hm _ vI) assign (ro:=some L.b) hk ⟨⟨hts,rfl⟩,h,⟨rfl,by simp⟩⟩ (.inr ⟨l,L,rfl,hL,rfl⟩) ?_
  rintro e a' w' ⟨U1,ae,A1,S1,rfl,g1,g2,g3⟩
  unfold Wk at g1;cases ae with
  | exit id=>cases g1
  | ret=>cases g1
  | normal=>
   simp only at g1;obtain⟨o1,ho1,g1⟩:=jU g1;have hL1:=g3.ext _ _ hL;split at g1
   ·rename_i tm ps as bo pe1
    obtain⟨r1,hb1,Va,hst1,aDz,hps1,aDA,aDB,aDC⟩:=pZ g2.rel ho1 hL1;obtain⟨q1,q2,q3⟩:=GM g2.rel ho1 hL1 hb1 Va hps1 aDA aDB aDC .busy pe1;rw [eQ]at g1;refine⟨w'.putObj L.b (.loop {r1 with state:= .busy,pending:=pe1}),?_,?_⟩
    ·have q3':(setObj L.b (.loop {r1 with state:= .busy})).run E.P w'= .ok () (w'.putObj L.b (.loop {r1 with state:= .busy,pending:=pe1})):=by
      rw [<-aDz]at q3 ⊢;exact q3
     simp only [Instr.beginRound,Sem.run_bind,run_getLoop Va,Result.andThen_ok,q3',hst1,Sem.run_pure]
    ·rw [YL]
     refine MX hc hr hm (Ku hc hr hm _ vI) body (ro:=some L.b) g1 ⟨g2.act,q1,g2.marks⟩ (.inr ⟨l,L,rfl,hL1,rfl⟩) ?_
     rintro e2 a2 w2 ⟨U2,ae2,A2,S2,rfl,k1,k2,k3⟩
     unfold aBw at k1;obtain⟨o2,ho2,k1⟩:=jU k1;have hL2:=k3.ext _ _ hL1;split at k1
     ·rename_i tm2 ps2 as2 bo2 st2 pe2
      obtain⟨r2,hb2,Vb,hst2,aG7,aDD,aDE,aDF,aDG⟩:=pZ k2.rel ho2 hL2
      have fin:∀(st':LoopState) (jump:Option Code) (bv:Bool),K (.bool bv) (S2.set l (.loop tm2 ps2 as2 bo2 st' jump))=true->bv=jump.isNone->st'=(if jump.isNone then .ready else .done)->
       ∃v w',(Instr.endRound L.b jump).run E.P w2= .ok v w'/\Back E.P w0 U w K (.returned v) w':=by
       intro st' jump bv hK hbv hst';obtain⟨z1,z2,z3⟩:=GM k2.rel ho2 hL2 hb2 Vb aDD aDE aDF aDG st' jump;refine⟨.bool bv,_,?_,.bool bv,rfl,U2,.bool bv,_,hK,.flat rfl,z1,((g3.trans q2).trans k3).trans z2⟩;rw [hst']at z3 ⊢;simp only [Instr.endRound,Sem.run_bind,run_getLoop Vb,Result.andThen_ok,z3,Sem.run_pure,hbv]
      cases ae2 with
      | normal=>
       simp only [eQ]at k1;exact fin .ready none true k1 rfl rfl
      | ret=>
       simp only [eQ]at k1;exact fin .done (some .ret) false k1 rfl rfl
      | exit id=>
       simp only [eQ]at k1;exact fin .done (some (.exit id)) false k1 rfl rfl
     ·cases k1
   ·cases g1
 ·cases hk
theorem aD0 (P:Program) (tb:FuncId->mE) (ov:FuncId->Option (List Value->St->VK->Bool)) (most n:Nat):(Rw P tb ov most n).P=P:=by cases n<;>rfl
theorem Kw{ov:FuncId->Option (List Value->St->VK->Bool)}{most:Nat} (hov:RP P w0 ov) (yZ:∀(f:FuncId) (fn:Func),P.funcs[f]? =some fn->fn.name≠ "runtime.NumGoroutine") (hm:P.follows .mixedOrders=true):∀n,gN P w0 (Rw P tb ov most n).call/\jC P w0 (Rw P tb ov most n).round:=by
 intro n;induction n with
 | zero=>
  refine⟨?_,?_⟩
  ·intro f args Sz K U w args' hk;cases hk
  ·intro l args Sz K U w args' L hk;cases hk
 | succ n ih=>
  obtain⟨ih1,ih2⟩:=ih;have hP:=aD0 P tb ov most n;refine⟨fun f args Sz K U w args' hk h ha=>?_,?_⟩
  ·have hk:(match(generalizing:=false) ov f with | some g=>g args Sz K | none=>fnX P tb f (Rw P tb ov most n) args Sz K)=true:=hk
   split at hk
   ·rename_i g hg
    exact hov f g hg f args Sz K U w args' (by simpa using hk) h ha
   ·exact Rx (tb:=tb) hP ih1 ih2 hm yZ f args Sz K U w args' hk h ha
  ·exact Ce hP ih1 ih2 hm
end
end Go.Am
namespace Go.Am
noncomputable def cD (l:List (Nat×List Nat×List Nat×List Nat)) (i:Nat):List Nat×List Nat×List Nat:=eH (β:=List Nat×List Nat×List Nat) ([],[],[]) (fun p _ ih=>dN (Nat.beq p.1 i) p.2 ih) l
noncomputable def cE (l:List (Nat×List Nat)) (i:Nat):Option (List Nat):=eH (β:=Option (List Nat)) none (fun p _ ih=>dN (Nat.beq p.1 i) (some p.2) ih) l
noncomputable def aFE (l:List (Nat×mE)) (f:FuncId):mE:=eH (β:=mE) ⟨fun _=>([],[],[]),fun _=>none⟩ (fun p _ ih=>dN (Nat.beq p.1 f) p.2 ih) l
section
variable{P:Program}
theorem Kq (off b o:Nat) (K:Value->Bool):Vs off (.pointer (some ⟨b,o,none⟩)) K=K (.pointer (some ⟨b,o+off,none⟩)):=by
 show bA (o+off) (fun o=>K (.pointer (some ⟨b,o,none⟩)))=_;rw [aT]
theorem aDV (i:Nat) (vs:List Value) (K:Value->Bool):Vz i (.tuple ⟨vs⟩) K=IY vs i fun v=>K v:=rfl
theorem Ca{α:Type}{l:List α}{i:Nat}{v:α} (h:l[i]? =some v) (k:α->Bool):IY l i k=k v:=by
 induction l generalizing i with
 | nil=>cases h
 | cons a l ih=>
  cases i with
  | zero=>simp at h;subst h;rfl
  | succ i=>exact ih (by simpa using h)
theorem aBt (l:List UInt8) (K:Value->Bool):Gm (.string ⟨⟨l⟩⟩) K=K (.int .i64 (.ofNat l.length)):=jS _ _
theorem aDW (k j:IntKind) (n:Int) (K:Value->Bool):Vy k (.int j n) K=K (.int k (mU k n)):=by
 show tY (mU k n) (fun n=>K (.int k n))=_;rw [jA]
theorem zJ{Sz:St}{i:Nat}{vs:List Value}{e:TypeId}{c:CK} (h:Sz.obj i=some (.cells vs e c)) (k:List Value->TypeId->CK->Bool):tZ Sz i k=k vs e c:=by
 unfold tZ;rw [mO];have h:Sz.h.get i=some (.cells vs e c):=h;rw [h]
theorem Wf{Sz:St}{i o:Nat}{vs:List Value}{e:TypeId}{c:CK}{v:Value} (h:Sz.obj i=some (.cells vs e c)) (hv:vs[o]? =some v) (K:VK):rLd (.pointer (some ⟨i,o,none⟩)) Sz K=K v Sz:=by
 show tZ Sz i (fun vs _ _=>IY vs o fun v=>K v Sz)=_;rw [zJ h,Ca hv]
theorem IH{Sz:St}{i o n:Nat}{vs:List Value}{e:TypeId}{c:CK} (h:Sz.obj i=some (.cells vs e c)) (hn:o+n<=vs.length) (k:List Value->Bool):BU Sz i o n k=k ((vs.drop o).take n):=by
 show tZ Sz i (fun vs _ _=>AQ o vs fun l=>FU n l k)=_;rw [zJ h,uE,if_pos (by omega),wQ,if_pos (by simp;omega)]
theorem Kr{Sz:St}{i o n:Nat}{vs:List Value}{e:TypeId}{c:CK} (h:Sz.obj i=some (.cells vs e c)) (hn:o+n<=vs.length) (K:VK):Vr n (.pointer (some ⟨i,o,none⟩)) Sz K=K (.agg ⟨(vs.drop o).take n⟩) Sz:=by
 show BU Sz i o n (fun l=>K (.agg ⟨l⟩) Sz)=_;rw [IH h hn]
theorem Wg{cs:List Value}{off:Nat}{v:Value} (h:cs[off]? =some v) (K:Value->Bool):UP off (.agg ⟨cs⟩) K=K v:=by
 show IY cs off K=_;rw [Ca h]
theorem Rt{cs:List Value}{off n:Nat} (h:off+n<=cs.length) (K:Value->Bool):MR off n (.agg ⟨cs⟩) K=K (.agg ⟨(cs.drop off).take n⟩):=by
 show AQ off cs (fun l=>FU n l fun l=>K (.agg ⟨l⟩))=_;rw [uE,if_pos (by omega),wQ,if_pos (by simp;omega)]
theorem Gq{v:Value} (h:oneCell v=true) (k:List Value->Bool):kM v k=k [v]:=by cases v<;>first | rfl | cases h
theorem Wh (z:List Value) (t:TypeId) (Sz:St) (K:VK):PD z t Sz K=K (.pointer (some ⟨Sz.n,0,none⟩)) (Sz.new (.cells z t .exact)):=by
 unfold PD aA4
 have:∀(z:List Value) (k:List Value->Bool),eH (β:=(List Value->Bool)->Bool) (fun k=>k []) (fun a _ ih k=>ih fun t=>k (a::t)) z k=k z:=by
  intro z;induction z with
  | nil=>intro k;rfl
  | cons a z ih=>intro k;exact ih _
 rw [this,fO]
theorem aDX (op:BinOp) (t:TypeId) (k:IntKind) (a b:Int) (K:Value->Bool) (h1:op≠ .shl) (h2:op≠ .shr):Vx P op t (.int k a) (.int k b) K=DG op k a b K:=by
 rw [DY];have hk:vN k k=true:=by cases k<;>rfl
 cases op<;>first | exact absurd rfl h1 | exact absurd rfl h2 | (show(match vN k k with | true=>_ | false=>false)=_;rw [hk])
theorem aBu (b:Bool) (K:Value->Bool):unK .not (.bool b) K=K (.bool (!b)):=by
 show KJ (!b) (fun b=>K (.bool b))=_;rw [kH]
theorem eJ{Sz:St}{o:fD}{i:Nat} (h:i≠Sz.n):(Sz.new o).obj i=Sz.obj i:=by rw [IE,if_neg h]
theorem oD{Sz:St}{o:fD}:(Sz.new o).obj Sz.n=some o:=by rw [IE,if_pos rfl]
theorem Cb{Sz:St}{i:Nat}{o:fD}:(Sz.set i o).obj i=some o:=by rw [wL,if_pos rfl]
theorem gL{Sz:St}{i j:Nat}{o:fD} (h:j≠i):(Sz.set i o).obj j=Sz.obj j:=by rw [wL,if_neg h]
theorem Ru (j:IntKind) (z:Int):EV (.int j z) (.int j z)=true:=by
 have h1:vN j j=true:=by cases j<;>rfl
 show(vN j j&&Jj z z)=true;rw [h1,DK];simp
def bytesV (l:List UInt8):List Value:=l.map fun b=> .int .u8 (.ofNat b.toNat)
structure Src (Sz:St) (size:Nat) (x:Value) (n:Nat) (new:List Value):Prop where
 len:∀k,ET x k=k n
 first:∀k,n≠0->BN Sz size n x k=k new
 one:∀v∈new,oneCell v=true
theorem Src.text (Sz:St) (l:List UInt8):Src Sz 1 (.string ⟨⟨l⟩⟩) l.length (bytesV l):=by
 refine⟨fun k=>jS _ _,fun k h=>?_,fun v hv=>?_⟩
 ·show FU l.length l (fun l=>Ui l k)=_
  rw [wQ,if_pos (Nat.le_refl _),List.take_length,Au];rfl
 ·obtain⟨b,_,rfl⟩:=List.mem_map.1 hv
  rfl
theorem Src.row{Sz:St}{i o n c size:Nat}{vs:List Value}{e:TypeId}{ck:CK} (h:Sz.obj i=some (.cells vs e ck)) (hn:o+n*size<=vs.length) (h1:∀v∈(vs.drop o).take (n*size),oneCell v=true):Src Sz size (.slice (some ⟨i,o,none⟩) n c) n ((vs.drop o).take (n*size)):=by
 refine⟨fun k=>rfl,fun k hz=>?_,h1⟩;obtain⟨m,rfl⟩:=Nat.exists_eq_succ_of_ne_zero hz;show BU Sz i o ((m+1)*size) k=_;rw [IH h hn]
theorem Wi{elem size bytes n:Nat}{Sz:St}{x:Value}{new:List Value} (hx:Src Sz size x n new) (hz:n≠0) (hb:n*(bytes+1)<=1099511627776) (K:VK):
 Kk P elem size bytes (.slice none 0 0) x Sz K=K (.slice (some ⟨Sz.n,0,some 0⟩) n n) (Sz.new (.cells new elem (.grown []))):=by
 obtain⟨m,rfl⟩:=Nat.exists_eq_succ_of_ne_zero hz;show ET x _=_;rw [hx.len];show BN Sz size (m+1) x _=_;rw [hx.first _ hz];simp only [aT,Nat.zero_add];rw [show Nat.ble ((m+1)*(bytes+1)) 1099511627776=true from Nat.ble_eq_true_of_le hb];have:Nat.ble (m+1) 0=false:=rfl;simp only [this];show EU elem [] new (m+1) none Sz K=_;unfold EU;rw [jB];simp only [List.nil_append,fO]
theorem Wj{elem size bytes n m j:Nat}{Sz:St}{x:Value}{new vs:List Value}{olds:List Nat} (hx:Src Sz size x n new) (hz:n≠0) (hb:(m+n)*(bytes+1)<=1099511627776)
 (hj:Sz.obj j=some (.cells vs elem (.grown olds))) (hv:vs.length=m*size) (hs:bL P elem=some size) (K:VK):
 Kk P elem size bytes (.slice (some ⟨j,0,some 0⟩) m m) x Sz K=K (.slice (some ⟨Sz.n,0,some 0⟩) (m+n) (m+n)) ((Sz.set j (.cells vs elem .stale)).new (.cells (vs++new) elem (.grown (j::olds)))):=by
 obtain⟨p,rfl⟩:=Nat.exists_eq_succ_of_ne_zero hz;show ET x _=_;rw [hx.len];show BN Sz size (p+1) x _=_;rw [hx.first _ hz];simp only [aT];rw [show Nat.ble ((m+(p+1))*(bytes+1)) 1099511627776=true from Nat.ble_eq_true_of_le hb]
 have:Nat.ble (m+(p+1)) m=false:=by
  cases h:Nat.ble (m+(p+1)) m with
  | false=>rfl
  | true=>have:=Nat.le_of_ble_eq_true h;omega
 simp only [this];show tZ Sz j _=_;rw [zJ hj];simp only [jS,Nat.zero_add,hv,hs];have hone:allB oneCell new=true:=by rw [jT];exact List.all_eq_true.2 hx.one
 simp only [show Nat.beq (m*size) (m*size)=true from Nat.beq_refl _,show Nat.beq size size=true from Nat.beq_refl _,show Nat.beq elem elem=true from Nat.beq_refl _,hone];rw [IH hj (by omega)];rw [List.drop_zero,<-hv,List.take_length];show EU elem vs new (m+(p+1)) (some (j,vs,elem,olds)) Sz K=_;unfold EU;rw [jB];simp only [eQ,fO];rfl
end
inductive Tag where
 | root (n:Nat)
 | sub (t:Tag) (k:Nat)
 | cut (t:Tag) (o n c:Nat)
inductive Dt where
 | int (k:IntKind) (z:Int)
 | bool (b:Bool)
 | str (l:List UInt8)
 | list (cs:List Dt) (n:Nat)
inductive V where
 | int (k:IntKind) (z:Int)
 | bool (b:Bool)
 | str (l:List UInt8)
 | list (O:Tag) (cs:List Dt) (n:Nat)
 | nP (O:Tag) (cs:List Dt) (o:Nat)
 | nil
 | acc (i n:Nat)
 | lX (i n o:Nat)
 | tW (i n o k c:Nat)
 | emp (i n:Nat)
 | own (i o n c:Nat)
 | ptr (i o:Nat)
 | PS
 | func (f:FuncId) (a c:List V)
 | yield (l:Nat)
 | meth (s:String) (v:V)
 | iface (t:TypeId) (v:V)
 | XX
 | VZ
 | LF (i:Nat)
 | XY
 | agg (cs:List V)
 | tuple (cs:List V)
def T (O:Tag):Dt->V
 | .int k z=> .int k z
 | .bool b=> .bool b
 | .str l=> .str l
 | .list cs n=> .list O cs n
def Tl (O:Tag):Nat->List Dt->List V
 | _,[]=>[]
 | o,d::l=>T (.sub O o) d::Tl O (o+1) l
inductive Ob where
 | row (vs:List V) (t:TypeId)
 | dF (vs:List V) (t:TypeId) (n:Nat)
 | map (es:List (V×V))
 | loop (ls:List Nat) (vs:List V) (n:Nat) (ps:List Tmp) (as bo:Code) (st:LoopState) (pe:Option Code)
def Ij:Ob->Bool
 | .dF _ _ _=>true
 | _=>false
abbrev Hp:=Nat->Option Ob
def upd (Sz:Hp) (i:Nat) (o:Ob):Hp:=fun j=>if j=i then some o else Sz j
def bE (S' Sz:Hp):Prop:=∀i o,S' i=some o->Sz i=some o
abbrev KV:=V->Hp->Prop
def jK:V->Bool
 | .agg _=>false
 | .tuple _=>false
 | _=>true
def ofV:Value->Option V
 | .int k z=>some (.int k z)
 | .bool b=>some (.bool b)
 | .string ⟨⟨l⟩⟩=>some (.str l)
 | .pointer none=>some .PS
 | .slice none 0 0=>some .nil
 | .nilIface=>some .XX
 | .nilFunc=>some .VZ
 | .map none=>some .XY
 | _=>none
def AK:List Value->Option (List V)
 | []=>some []
 | v::l=>match ofV v with
  | some x=>match AK l with | some xs=>some (x::xs) | none=>none
  | none=>none
def WC:V:= .tuple []
noncomputable def NA{α:Type} (l:List α) (i:Nat) (k:α->Prop):Prop:=match l[i]? with | some a=>k a | none=>False
noncomputable def HU{α:Type} (l:List α) (o n:Nat) (k:List α->Prop):Prop:=o+n<=l.length/\k ((l.drop o).take n)
def iG (c:V) (a b:Prop):Prop:=match c with
 | .bool v=>match v with | true=>a | false=>b
 | _=>False
def dA (c a b:V) (K:V->Prop):Prop:=match c with
 | .bool v=>match v with | true=>K a | false=>K b
 | _=>False
noncomputable def aS (a:V) (Sz:Hp) (K:KV):Prop:=match a with
 | .ptr i o=>match Sz i with
  | some (.row vs _)=>NA vs o fun v=>K v Sz
  | _=>False
 | .nP O cs o=>NA cs o fun d=>K (T (.sub O o) d) Sz
 | .lX i n o=>match Sz i with
  | some (.dF vs _ m)=>m=n/\NA vs o fun v=>K v Sz
  | _=>False
 | _=>False
noncomputable def bF (n:Nat) (a:V) (Sz:Hp) (K:KV):Prop:=match a with
 | .ptr i o=>match Sz i with
  | some (.row vs _)=>HU vs o n fun l=>K (.agg l) Sz
  | _=>False
 | .nP O cs o=>HU cs o n fun l=>K (.agg (Tl O o l)) Sz
 | .lX i m o=>match Sz i with
  | some (.dF vs _ m')=>m'=m/\HU vs o n fun l=>K (.agg l) Sz
  | _=>False
 | _=>False
def oY (v:V) (k:List V->Prop):Prop:=match v with
 | .agg cs=>cs.all jK=true/\k cs
 | .tuple _=>False
 | v=>k [v]
noncomputable def rH (n:Nat) (a x:V) (Sz:Hp) (k:Hp->Prop):Prop:=match a with
 | .ptr i o=>match Sz i with
  | some (.row vs t)=>oY x fun cs=>cs.length=n/\o+n<=vs.length/\k (upd Sz i (.row (splice o cs vs) t))
  | _=>False
 | .lX i q o=>match Sz i with
  | some (.dF vs t m)=>m=q/\oY x fun cs=>cs.length=n/\o+n<=vs.length/\k (upd Sz i (.dF (splice o cs vs) t m))
  | _=>False
 | _=>False
def vNew (vs:List V) (t:TypeId) (Sz:Hp) (K:Nat->Hp->Prop):Prop:=∀i,Sz i=none->K i (upd Sz i (.row vs t))
def mY (z:List Value) (k:List V->Prop):Prop:=match AK z with | some l=>k l | none=>False
def eU (z:List Value) (t:TypeId) (Sz:Hp) (K:KV):Prop:=mY z fun l=>vNew l t Sz fun i Sz=>K (.ptr i 0) Sz
def jO (t:TypeId) (v:V) (Sz:Hp) (K:KV):Prop:=oY v fun cs=>vNew cs t Sz fun i Sz=>K (.ptr i 0) Sz
noncomputable def jE:List (Nat×Nat×V)->List V->(List V->Prop)->Prop
 | [],cs,k=>k cs
 | (o,n,v)::ps,cs,k=>oY v fun new=>new.length=n/\o+n<=cs.length/\jE ps (splice o new cs) k
noncomputable def gQ (zero:List Value) (ps:List (Nat×Nat×V)) (K:V->Prop):Prop:=mY zero fun z=>jE ps z fun cs=>K (.agg cs)
noncomputable def aP (el:TypeId) (n:Nat) (zero:List Value) (ps:List (Nat×Nat×V)) (Sz:Hp) (K:KV):Prop:=
 mY zero fun z=>jE ps (List.replicate n z).flatten fun cs=>vNew cs el Sz fun i Sz=>K (.own i 0 n n) Sz
def bI (off:Nat) (x:V) (K:V->Prop):Prop:=match x with
 | .ptr i o=>K (.ptr i (o+off))
 | .nP O cs o=>K (.nP O cs (o+off))
 | .lX i n o=>K (.lX i n (o+off))
 | _=>False
noncomputable def Me (off:Nat) (x:V) (K:V->Prop):Prop:=match x with
 | .agg cs=>NA cs off K
 | _=>False
noncomputable def Dp (off n:Nat) (x:V) (K:V->Prop):Prop:=match x with
 | .agg cs=>HU cs off n fun l=>K (.agg l)
 | _=>False
def bY (size:Nat) (x ix:V) (K:V->Prop):Prop:=match ix with
 | .int _ (.ofNat i)=>match x with
  | .list O cs n=>i<n/\K (.nP O cs (i*size))
  | .own b o n _=>i<n/\K (.ptr b (o+i*size))
  | .acc b n=>i<n/\K (.lX b n (i*size))
  | .tW b n o m _=>i<m/\K (.lX b n (o+i*size))
  | _=>False
 | _=>False
noncomputable def VD (x ix:V) (K:V->Prop):Prop:=match ix with
 | .int _ (.ofNat i)=>match x with
  | .str l=>NA l i fun b=>K (.int .u8 (.ofNat b.toNat))
  | _=>False
 | _=>False
noncomputable def tK (i:Nat) (x:V) (K:V->Prop):Prop:=match x with
 | .tuple vs=>NA vs i K
 | _=>False
def AL (k:IntKind) (x:V) (K:V->Prop):Prop:=match x with
 | .int _ n=>K (.int k (mU k n))
 | _=>False
def aV (x:V) (K:V->Prop):Prop:=match x with
 | .list _ _ n=>K (.int .i64 (.ofNat n))
 | .nil=>K (.int .i64 (.ofNat 0))
 | .acc _ n=>K (.int .i64 (.ofNat n))
 | .own _ _ n _=>K (.int .i64 (.ofNat n))
 | .tW _ _ _ k _=>K (.int .i64 (.ofNat k))
 | .emp _ _=>K (.int .i64 (.ofNat 0))
 | _=>False
def aAk (x:V) (K:V->Prop):Prop:=match x with
 | .str l=>K (.int .i64 (.ofNat l.length))
 | _=>False
noncomputable def UX (size:Nat) (x:V) (Sz:Hp) (k:Nat->List V->Prop):Prop:=match x with
 | .nil=>k 0 []
 | .list O cs n=>n*size<=cs.length/\k n (Tl O 0 (cs.take (n*size)))
 | .own i o n _=>match Sz i with
  | some (.row vs _)=>HU vs o (n*size) fun l=>k n l
  | _=>False
 | .acc i n=>match Sz i with
  | some (.dF vs _ m)=>m=n/\vs.length=n*size/\k n vs
  | _=>False
 | .tW i n o q _=>match Sz i with
  | some (.dF vs _ m)=>m=n/\HU vs o (q*size) fun l=>k q l
  | _=>False
 | .emp _ _=>k 0 []
 | .str l=>size=1/\k l.length (l.map fun b=> .int .u8 (.ofNat b.toNat))
 | _=>False
def aDn (el:TypeId) (vs:List V) (n:Nat) (Sz:Hp) (K:KV):Prop:=∀i,Sz i=none->K (.acc i n) (upd Sz i (.dF vs el n))
noncomputable def kI (el:TypeId) (size bytes:Nat) (s x:V) (Sz:Hp) (K:KV):Prop:=UX size x Sz fun m new=>match m with
 | 0=>(match s with | .nil=>K s Sz | .acc _ _=>K s Sz | .own _ _ n c=>n<=c/\K s Sz | .list _ _ _=>K s Sz | _=>False)
 | m+1=>new.all jK=true/\match s with
  | .nil=>(m+1)*(bytes+1)<=1099511627776/\aDn el new (m+1) Sz K
  | .acc i n=>match Sz i with
   | some (.dF vs t n')=>n'=n/\t=el/\vs.length=n*size/\(n+(m+1))*(bytes+1)<=1099511627776/\K (.acc i (n+(m+1))) (upd Sz i (.dF (vs++new) el (n+(m+1))))
   | _=>False
  | .own i o n c=>match Sz i with
   | some (.row vs t)=>(n+(m+1))*(bytes+1)<=1099511627776/\o+n*size<=vs.length/\
    (n+(m+1)<=c->o+n*size+new.length<=vs.length/\K (.own i o (n+(m+1)) c) (upd Sz i (.row (splice (o+n*size) new vs) t)))/\
    (c<n+(m+1)->aDn el ((vs.drop o).take (n*size)++new) (n+(m+1)) Sz K)
   | _=>False
  | _=>False
def FQ (P:Program) (v:V) (K:V->Prop):Prop:=match v with
 | .ptr i o=>K (.ptr i o)
 | .nP O cs o=>K (.nP O cs o)
 | .lX i n o=>K (.lX i n o)
 | .func f a c=>K (.func f a c)
 | .iface t w=>K (.iface t w)
 | .meth s v=>match v with
  | .iface t w=>match yU P t s with
   | some _=>K (.meth s (.iface t w))
   | none=>False
  | _=>False
 | _=>False
abbrev aDo:=FuncId->List V->Hp->KV->Prop
def aGO (P:Program) (call:aDo) (r:V) (m:String) (args:List V) (Sz:Hp) (K:KV):Prop:=match r with
 | .iface t v=>match yU P t m with
  | some g=>call g (v::args) Sz K
  | none=>False
 | _=>False
def KG (l:Nat) (Sz:Hp) (k:Hp->Prop):Prop:=match Sz l with
 | some (.loop ls vs n ps as bo .ready pe)=>k (upd Sz l (.loop ls vs n ps as bo .busy pe))
 | _=>False
def yB (l:Nat) (st:LoopState) (pe:Option Code) (b:Bool) (Sz:Hp) (K:KV):Prop:=match Sz l with
 | some (.loop ls vs n ps as bo _ _)=>K (.bool b) (upd Sz l (.loop ls vs n ps as bo st pe))
 | _=>False
def Ik (l:Nat) (Sz:Hp) (k:Option Code->Hp->Prop):Prop:=match Sz l with
 | some (.loop ls vs n ps as bo st pe)=>match st with
  | .busy=>False
  | _=>k pe (upd Sz l (.loop ls vs n ps as bo .exhausted pe))
 | _=>False
def HV (pe:Option Code) (kn kr:Prop) (ke:Nat->Prop):Prop:=match pe with
 | none=>kn
 | some .ret=>kr
 | some (.exit id)=>ke id
 | _=>False
def EH (l:Nat) (Sz:Hp) (p:Prop):Prop:=match Sz l with
 | some (.loop _ _ _ _ _ _ _ _)=>p
 | _=>False
abbrev OC (i id:Nat) (a b:Prop):Prop:=Bool.rec (motive:=fun _=>Prop) b a (Nat.beq i id)
def TA:V->Bool
 | .int _ _ | .bool _ | .str _ | .list _ _ _ | .nil | .ptr _ _ | .PS | .nP _ _ _ | .lX _ _ _ | .acc _ _ | .tW _ _ _ _ _ | .own _ _ _ _ | .LF _ | .XY | .XX | .VZ=>true
 | _=>false
def sE:V->Bool
 | .func _ a c=>a.all TA&&c.all TA
 | v=>TA v
def TB:V->Bool
 | .agg cs=>cs.all sE
 | v=>sE v
def uP:V->Bool
 | .tuple cs=>cs.all TB
 | v=>TB v
def aL (v u:V) (k:Prop):Prop:=v=u/\uP v=true/\k
def aAl (w:Bool) (v:V) (k:Bool->Prop):Prop:=match v with
 | .bool b=>match b,w with | true,true=>k true | false,false=>k true | _,_=>k false
 | .tuple []=>k false
 | _=>False
def aC (w:Bool) (v:V) (op:KV->Prop) (Sz:Hp) (k:KV):Prop:=aAl w v fun b=>match b with | true=>op k | false=>k WC Sz
def aGP (u:V) (k:Prop):Prop:=match u with | .tuple []=>k | _=>False
def gH (w:Bool) (v u:V) (op:Prop->Prop) (k:Prop):Prop:=aAl w v fun b=>match b with | true=>op k | false=>aGP u k
noncomputable def aD (most:Nat) (p:Prop):Prop:=Nat.rec (motive:=fun _=>Prop->Prop) (fun x=>x) (fun _ _ x=>x) most p
theorem aF (most:Nat) (p:Prop):aD most p=p:=by cases most<;>rfl
def FD (op:BinOp) (k:IntKind) (x y:Int) (K:V->Prop):Prop:=match op with
 | .add=>K (.int k (mU k (x+y)))
 | .sub=>K (.int k (mU k (x-y)))
 | .mul=>K (.int k (mU k (x*y)))
 | .quo=>y≠0/\K (.int k (mU k (x.tdiv y)))
 | .rem=>y≠0/\K (.int k (x.tmod y))
 | .and=>K (.int k (k.wrap (BitVec.ofInt k.bits x &&& BitVec.ofInt k.bits y).toNat))
 | .or=>K (.int k (k.wrap (BitVec.ofInt k.bits x ||| BitVec.ofInt k.bits y).toNat))
 | .xor=>K (.int k (k.wrap (BitVec.ofInt k.bits x ^^^ BitVec.ofInt k.bits y).toNat))
 | .andNot=>K (.int k (k.wrap (BitVec.ofInt k.bits x &&& ~~~ BitVec.ofInt k.bits y).toNat))
 | .eql=>K (.bool (decide (x=y)))
 | .neq=>K (.bool (!decide (x=y)))
 | .lss=>K (.bool (decide (x<y)))
 | .leq=>K (.bool (decide (x<=y)))
 | .gtr=>K (.bool (decide (y<x)))
 | .geq=>K (.bool (decide (y<=x)))
 | _=>False
def aEY (op:BinOp) (k:IntKind) (x y:Int) (K:V->Prop):Prop:=0<=y/\match op with
 | .shl=>K (.int k (mU k (x*2 ^ (min y.toNat k.bits))))
 | .shr=>K (.int k (x.fdiv (2 ^ (min y.toNat k.bits))))
 | _=>False
def aGQ (op:BinOp) (a b:List UInt8) (K:V->Prop):Prop:=match op with
 | .add=>a.length+b.length<9223372036854775808/\K (.str (a++b))
 | .eql=>K (.bool (decide (a=b)))
 | .neq=>K (.bool (!decide (a=b)))
 | .lss=>K (.bool (Op.bytesLess a b))
 | _=>False
def aGR (op:BinOp) (a b:Bool) (K:V->Prop):Prop:=match op with
 | .eql=>K (.bool (decide (a=b)))
 | .neq=>K (.bool (!decide (a=b)))
 | _=>False
def qV:BinOp->Bool
 | .shl | .shr=>true
 | _=>false
def Qc (P:Program) (t:TypeId):Bool:=match P.underlying t with | some .bool=>true | _=>false
inductive NK where
 | ptr
 | slice
 | map
 | func
 | iface
def Dq:V->Option (NK×Bool)
 | .ptr _ _=>some (.ptr,false)
 | .nP _ _ _=>some (.ptr,false)
 | .lX _ _ _=>some (.ptr,false)
 | .PS=>some (.ptr,true)
 | .own _ _ _ _=>some (.slice,false)
 | .acc _ _=>some (.slice,false)
 | .tW _ _ _ _ _=>some (.slice,false)
 | .list _ (_::_) _=>some (.slice,false)
 | .nil=>some (.slice,true)
 | .LF _=>some (.map,false)
 | .XY=>some (.map,true)
 | .func _ _ _=>some (.func,false)
 | .meth _ _=>some (.func,false)
 | .VZ=>some (.func,true)
 | .iface _ _=>some (.iface,false)
 | .XX=>some (.iface,true)
 | _=>none
def VB (P:Program) (t:TypeId):Option NK:=match P.underlying t with
 | some (.pointer _)=>some .ptr
 | some (.slice _)=>some .slice
 | some (.map _ _)=>some .map
 | some (.func _ _ _)=>some .func
 | some (.interface _)=>some .iface
 | _=>none
def Mf (P:Program) (op:BinOp) (t:TypeId) (a b:V) (K:V->Prop):Prop:=match Dq a with
 | some (k,x)=>match Dq b with
  | some (l,y)=>k=l/\VB P t=some k/\(x=true\/y=true)/\(x=true->y=true->k≠ .iface)/\match op with
   | .eql=>K (.bool (x&&y))
   | .neq=>K (.bool (!(x&&y)))
   | _=>False
  | none=>False
 | none=>False
def aG (P:Program) (op:BinOp) (t:TypeId) (a b:V) (K:V->Prop):Prop:=match a with
 | .int j x=>match b with
  | .int k y=>match qV op with
   | true=>aEY op j x y K
   | false=>j=k/\FD op j x y K
  | _=>False
 | .str x=>match b with | .str y=>aGQ op x y K | _=>False
 | .bool x=>match b with | .bool y=>Qc P t=true/\aGR op x y K | _=>False
 | a=>Mf P op t a b K
def Dg (big:Bool) (a b:V) (K:V->Prop):Prop:=match a with
 | .int j x=>match b with
  | .int _ y=>K (.int j (match big with | true=>max x y | false=>min x y))
  | _=>False
 | _=>False
inductive CT where
 | int (k:IntKind)
 | str
 | bool
inductive KSh where
 | one (c:CT)
 | many (l:List CT)
def PT (P:Program) (t:TypeId):Option CT:=match P.underlying t with
 | some (.int k)=>some (.int k)
 | some .string=>some .str
 | some .bool=>some .bool
 | _=>none
def BI (P:Program):List Field->Option (List CT)
 | []=>some []
 | f::fs=>match PT P f.type with
  | some c=>match BI P fs with
   | some l=>some (c::l)
   | none=>none
  | none=>none
def keyS (P:Program) (t:TypeId):Option KSh:=match PT P t with
 | some c=>some (.one c)
 | none=>match DI P t with
  | some fs=>match BI P fs with
   | some l=>some (.many l)
   | none=>none
  | none=>none
def Tg:CT->V->Prop
 | .int k,.int j _=>j=k
 | .str,.str _=>True
 | .bool,.bool _=>True
 | _,_=>False
def NJ:List CT->List V->Prop
 | [],[]=>True
 | c::l,v::vs=>Tg c v/\NJ l vs
 | _,_=>False
def XZ:KSh->V->Prop
 | .one c,v=>Tg c v
 | .many l,.agg cs=>NJ l cs
 | _,_=>False
open Classical in
noncomputable def Il:List (V×V)->V->Option V
 | [],_=>none
 | e::es,a=>if a=e.1 then some e.2 else Il es a
open Classical in
noncomputable def Dr:List (V×V)->V->V->List (V×V)
 | [],a,x=>[(a,x)]
 | e::es,a,x=>if a=e.1 then(a,x)::es else e::Dr es a x
def Sm (P:Program) (op:BinOp) (t:TypeId) (a b:V) (K:V->Prop):Prop:=match keyS P t with
 | some (.many l)=>match a with
  | .agg x=>match b with
   | .agg y=>NJ l x/\NJ l y/\match op with
    | .eql=>(x=y->K (.bool true))/\(x≠y->K (.bool false))
    | .neq=>(x=y->K (.bool false))/\(x≠y->K (.bool true))
    | _=>False
   | _=>False
  | _=>False
 | _=>False
def Qd (Sz:Hp) (K:KV):Prop:=∀i,Sz i=none->K (.LF i) (upd Sz i (.map []))
def aAm (ok:Bool) (v:V) (is:Bool):V:=match ok with | true=> .tuple [v,.bool is] | false=>v
noncomputable def aAn (sh:KSh) (z:V) (ok:Bool) (m a:V) (Sz:Hp) (K:KV):Prop:=match m with
 | .LF i=>match Sz i with
  | some (.map es)=>XZ sh a/\(∀e∈es,XZ sh e.1)/\(∀v,Il es a=some v->K (aAm ok v true) Sz)/\(Il es a=none->K (aAm ok z false) Sz)
  | _=>False
 | _=>False
noncomputable def Mg (sh:KSh) (m a x:V) (Sz:Hp) (k:Hp->Prop):Prop:=match m with
 | .LF i=>match Sz i with
  | some (.map es)=>XZ sh a/\(∀e∈es,XZ sh e.1)/\k (upd Sz i (.map (Dr es a x)))
  | _=>False
 | _=>False
def PO (d:Nat) (o:Option V) (k:Nat->Prop):Prop:=match o with
 | none=>k d
 | some (.int _ (.ofNat n))=>k n
 | _=>False
def zZ (len cap:Nat) (lo hi mx:Option V) (k:Nat->Nat->Nat->Prop):Prop:=PO cap mx fun m=>PO len hi fun h=>PO 0 lo fun l=>l<=h/\h<=m/\m<=cap/\k l h m
def aGS (x:V) (lo hi:Option V) (K:V->Prop):Prop:=match x with
 | .str s=>zZ s.length s.length lo hi none fun l h _=>K (.str ((s.take h).drop l))
 | _=>False
def aGT (len size:Nat) (x:V) (lo hi mx:Option V) (K:V->Prop):Prop:=match x with
 | .ptr i o=>zZ len len lo hi mx fun l h m=>K (.own i (if m=l then o else o+l*size) (h-l) (m-l))
 | _=>False
def HM (el size:Nat) (x:V) (lo hi mx:Option V) (Sz:Hp) (K:V->Prop):Prop:=match x with
 | .own i o n c=>zZ n c lo hi mx fun l h m=>K (.own i (if m=l then o else o+l*size) (h-l) (m-l))
 | .list O cs n=>match mx with
  | some _=>zZ n n lo hi mx fun l h m=>l<m/\h*size<=cs.length/\K (.list (.cut O (l*size) (h-l) (m-l)) ((cs.drop (l*size)).take ((h-l)*size)) (h-l))
  | none=>False
 | .nil=>zZ 0 0 lo hi mx fun _ _ _=>K .nil
 | .acc i n=>match mx with
  | none=>match Sz i with
   | some (.dF _ t n')=>n'=n/\t=el/\zZ n n lo hi none fun l h m=>(l<m->K (.tW i n (0+l*size) (h-l) (m-l)))/\(m=l->K (.emp i n))
   | _=>False
  | some _=>False
 | .tW i n o k c=>match mx with
  | none=>match Sz i with
   | some (.dF _ t n')=>n'=n/\t=el/\zZ k c lo hi none fun l h m=>(l<m->K (.tW i n (o+l*size) (h-l) (m-l)))/\(m=l->K (.emp i n))
   | _=>False
  | some _=>False
 | _=>False
def Mh (zero:List Value) (x:V) (Sz:Hp) (k:Hp->Prop):Prop:=match x with
 | .nil=>k Sz
 | .own i o n _=>match n with
  | 0=>k Sz
  | n+1=>mY zero fun z=>match Sz i with
   | some (.row vs t)=>o+(List.replicate (n+1) z).flatten.length<=vs.length/\k (upd Sz i (.row (splice o (List.replicate (n+1) z).flatten vs) t))
   | _=>False
 | .acc i q=>match q with
  | 0=>k Sz
  | n+1=>mY zero fun z=>match Sz i with
   | some (.dF vs t m)=>m=q/\(List.replicate (n+1) z).flatten.length<=vs.length/\k (upd Sz i (.dF (splice 0 (List.replicate (n+1) z).flatten vs) t m))
   | _=>False
 | .tW i q o n _=>match n with
  | 0=>k Sz
  | n+1=>mY zero fun z=>match Sz i with
   | some (.dF vs t m)=>m=q/\o+(List.replicate (n+1) z).flatten.length<=vs.length/\k (upd Sz i (.dF (splice o (List.replicate (n+1) z).flatten vs) t m))
   | _=>False
 | _=>False
noncomputable def Hd (size:Nat) (d x:V) (Sz:Hp) (K:KV):Prop:=UX size x Sz fun m new=>match d with
 | .own i o n _=>m<=n/\match m with
  | 0=>K (.int .i64 (.ofNat 0)) Sz
  | q+1=>new.all jK=true/\match Sz i with
   | some (.row vs t)=>o+new.length<=vs.length/\K (.int .i64 (.ofNat (q+1))) (upd Sz i (.row (splice o new vs) t))
   | _=>False
 | _=>False
def Gy (el:TypeId) (bytes:Nat) (zero:List Value) (l c:V) (Sz:Hp) (K:KV):Prop:=match l with
 | .int _ (.ofNat l)=>match c with
  | .int _ (.ofNat c)=>l<=c/\bytes*c<=1099511627776/\c<=65536/\mY zero fun z=>vNew (List.replicate c z).flatten el Sz fun i Sz=>K (.own i 0 l c) Sz
  | _=>False
 | _=>False
def IP (op:UnOp) (a:V) (K:V->Prop):Prop:=match op with
 | .not=>match a with | .bool b=>K (.bool (!b)) | _=>False
 | .neg=>match a with | .int k n=>K (.int k (mU k (Int.sub 0 n))) | _=>False
 | .xor=>match a with | .int k n=>K (.int k (k.wrap (BitVec.ofInt k.bits (if k.signed then-1 else k.max) ^^^ BitVec.ofInt k.bits n).toNat)) | _=>False
 | _=>False
section
variable{α β:Type}
noncomputable abbrev AF (n:Nat) (z:β) (s:Nat->β):β:=Nat.rec (motive:=fun _=>β) z (fun p _=>s p) n
noncomputable abbrev aAo (o:Option α) (z:β) (s:α->β):β:=Option.rec (motive:=fun _=>β) z s o
noncomputable abbrev Qe (z:β) (s:Nat->β->β) (n:Nat):β:=Nat.rec (motive:=fun _=>β) z s n
noncomputable abbrev BJ (z:β) (s:α->List α->β->β) (l:List α):β:=List.rec (motive:=fun _=>β) z s l
noncomputable abbrev aAp (z:β) (s:Option α->Tr α->Tr α->β->β->β) (t:Tr α):β:=Tr.rec (motive:=fun _=>β) z s t
noncomputable abbrev aEZ (t:Tr α) (z:β) (s:Option α->Tr α->Tr α->β):β:=Tr.rec (motive:=fun _=>β) z (fun v l r _ _=>s v l r) t
end
section
variable{α:Type}
noncomputable abbrev Ti (t:Tr α) (n:Nat) (k:α->Prop):Prop:=
 aAp (β:=Nat->Prop) (fun _=>False) (fun v _ _ gl gr n=>AF n (aAo v False k) fun p=>AF (Nat.mod p 2) (gl (Nat.div p 2)) fun _=>gr (Nat.div p 2)) t n
noncomputable abbrev Tj (x:α) (f:Nat):Tr α->Nat->(Tr α->Prop)->Prop:=
 Qe (β:=Tr α->Nat->(Tr α->Prop)->Prop) (fun t _ k=>k t)
  (fun _ ih t n k=>aEZ t
   (AF n (k (.node (some x) .leaf .leaf)) fun p=>AF (Nat.mod p 2) (ih .leaf (Nat.div p 2) fun c=>k (.node none c .leaf)) fun _=>ih .leaf (Nat.div p 2) fun c=>k (.node none .leaf c))
   (fun v l r=>AF n (k (.node (some x) l r)) fun p=>AF (Nat.mod p 2) (ih l (Nat.div p 2) fun c=>k (.node v c r)) fun _=>ih r (Nat.div p 2) fun c=>k (.node v l c))) f
noncomputable abbrev Tk (t:Tr α) (n:Nat) (k:Prop):Prop:=
 aAp (β:=Nat->Prop) (fun _=>k) (fun v _ _ gl gr n=>AF n (aAo v k fun _=>False) fun p=>AF (Nat.mod p 2) (gl (Nat.div p 2)) fun _=>gr (Nat.div p 2)) t n
noncomputable abbrev aAq (t:Tr α) (n:Nat) (k:Tr α->Prop):Prop:=
 aAp (β:=Nat->(Tr α->Prop)->Prop) (fun _ k=>k .leaf) (fun v l r dl dr n k=>AF n (k (.node none l r)) fun p=>AF (Nat.mod p 2) (dl (Nat.div p 2) fun c=>k (.node v c r)) fun _=>dr (Nat.div p 2) fun c=>k (.node v l c)) t n k
end
structure Ds where
 t:Tr V
 n:Nat
structure VA where
 tmps:Ds
 g:Nat
noncomputable abbrev YB (T:Ds) (i:Nat) (k:V->Prop):Prop:=Ti T.t i k
noncomputable abbrev KH (v:V) (T:Ds) (i:Nat) (k:Ds->Prop):Prop:=match T with
 | ⟨t,n⟩=>match Nat.blt i n with
  | true=>Tj v (Nat.succ i) t i fun t=>k ⟨t,n⟩
  | false=>False
noncomputable abbrev WE (A:VA) (d:Tmp) (v:V) (k:VA->Prop):Prop:=match A with
 | ⟨T,g⟩=>KH v T d fun T=>k ⟨T,g⟩
noncomputable abbrev aGU (n:Nat) (args:List V) (k:Ds->Prop):Prop:=
 BJ (β:=Nat->Ds->Prop) (fun _ T=>k T) (fun a _ ih i T=>KH a T i fun T=>ih (Nat.succ i) T) args 0 ⟨.leaf,n⟩
def ofC (v:Value):Option V:=match v with
 | .agg ⟨cs⟩=>match AK cs with | some l=>some (.agg l) | none=>none
 | v=>ofV v
structure EvV where
 f:VA->(V->Prop)->Prop
noncomputable def tX (x:Operand):EvV:=match x with
 | .tmp t=>⟨fun A k=>YB A.tmps t k⟩
 | .const v=>match ofC v with | some d=>⟨fun _ k=>k d⟩ | none=>⟨fun _ _=>False⟩
 | .global _=>⟨fun _ _=>False⟩
 | .func f=>⟨fun _ k=>k (.func f [] [])⟩
structure aGV where
 f:VA->(List V->Prop)->Prop
noncomputable def Tn (xs:List Operand):aGV:=BJ (β:=aGV) ⟨fun _ k=>k []⟩ (fun x _ ih=>⟨fun A k=>(tX x).f A fun v=>ih.f A fun vs=>k (v::vs)⟩) xs
structure PtV where
 f:VA->(List (Nat×Nat×V)->Prop)->Prop
noncomputable def PU (place:Nat->Option (Nat×Nat)) (ps:List (Nat×Operand)):PtV:=
 BJ (β:=PtV) ⟨fun _ k=>k []⟩ (fun p _ ih=>match place p.1 with
  | some (off,size)=>⟨fun A k=>(tX p.2).f A fun v=>ih.f A fun l=>k ((off,size,v)::l)⟩
  | none=>⟨fun _ _=>False⟩) ps
inductive QV (S' Sz:Hp):V->Dt->Prop
 | int {k:IntKind} {z:Int}:QV S' Sz (.int k z) (.int k z)
 | bool {b:Bool}:QV S' Sz (.bool b) (.bool b)
 | str {l:List UInt8}:QV S' Sz (.str l) (.str l)
 | list {O:Tag} {cs:List Dt} {n:Nat}:QV S' Sz (.list O cs n) (.list cs n)
 | nil:QV S' Sz .nil (.list [] 0)
 | acc {i n:Nat} {vs:List V} {t:TypeId} {cs:List Dt} (h:Sz i=some (.dF vs t n)) (hn:S' i=none) (hl:vs.length=cs.length) (hr:∀(j:Nat) (v:V) (d:Dt),vs[j]? =some v->cs[j]? =some d->QV S' Sz v d):QV S' Sz (.acc i n) (.list cs n)
 | tW {i n o k c:Nat} {vs:List V} {t:TypeId} {cs:List Dt} (h:Sz i=some (.dF vs t n)) (hn:S' i=none) (hc:k<=c) (hl:o+cs.length<=vs.length) (hr:∀(j:Nat) (v:V) (d:Dt),vs[o+j]? =some v->cs[j]? =some d->QV S' Sz v d):QV S' Sz (.tW i n o k c) (.list cs k)
 | own {i o n c:Nat} {vs:List V} {t:TypeId} {cs:List Dt} (h:Sz i=some (.row vs t)) (hn:S' i=none) (hc:n<=c) (hl:o+cs.length<=vs.length) (hr:∀(j:Nat) (v:V) (d:Dt),vs[o+j]? =some v->cs[j]? =some d->QV S' Sz v d):QV S' Sz (.own i o n c) (.list cs n)
inductive Fz1 (S' Sz:Hp) (O:Tag):V->V->Prop
 | keep (v:V):Fz1 S' Sz O v v
 | dat {v:V} {d:Dt} (h:QV S' Sz v d):Fz1 S' Sz O v (T O d)
def FzL (S' Sz:Hp) (O:Nat->Tag) (vs us:List V):Prop:=us.length=vs.length/\∀(j:Nat) (v u:V),vs[j]? =some v->us[j]? =some u->Fz1 S' Sz (O j) v u
inductive Fz (S' Sz:Hp) (O:Nat->Tag):V->V->Prop
 | one {v u:V} (h:Fz1 S' Sz (O 0) v u):Fz S' Sz O v u
 | agg {vs us:List V} (h:FzL S' Sz O vs us):Fz S' Sz O (.agg vs) (.agg us)
 | tup {vs us:List V} (h:FzL S' Sz O vs us):Fz S' Sz O (.tuple vs) (.tuple us)
def bC (v:V) (Sz:Hp) (K:KV):Prop:=∃(S':Hp) (u:(Nat->Tag)->V),bE S' Sz/\(∀O,Fz S' Sz O v (u O))/\∀O,K (u O) S'
def cT (Sz:Hp) (k:Hp->Prop):Prop:=∃S',bE S' Sz/\k S'
structure VE where
 C:aDo
 R:Nat->List V->Hp->KV->Prop
 most:Nat
def VE.call (E:VE) (c:FuncId) (args:List V) (Sz:Hp) (K:KV):Prop:=∃(S':Hp) (us:(Nat->Tag)->List V),bE S' Sz/\(∀O,FzL S' Sz O args (us O))/\∀O,E.C c (us O) S' K
def rL (E:VE) (f:V) (args:List V) (Sz:Hp) (K:KV):Prop:=match f with
 | .func g a c=>E.call g (a++args++c) Sz K
 | .yield l=>E.R l args Sz K
 | _=>False
def zT (E:VE) (f:V) (ls:List Nat) (vs:List V) (n:Nat) (ps:List Tmp) (as bo:Code) (Sz:Hp) (k:Option Code->Hp->Prop):Prop:=match f with
 | .func g a c=>∀l,Sz l=none->E.call g (a++[.yield l]++c) (upd Sz l (.loop ls vs n ps as bo .ready none)) fun _ Sz=>Ik l Sz k
 | _=>False
structure OpV where
 f:VE->VA->Hp->KV->Prop
def vM:OpV:=⟨fun _ _ _ _=>False⟩
noncomputable def aAr (P:Program) (c:Call):OpV:=
 match c.callee with
 | .builtin .len=>match c.argTypes.toList,c.args.toList with
  | [t],[a]=>match isSlice P t,P.underlying t with
   | some _,_=>⟨fun _ A Sz K=>(tX a).f A fun v=>aV v fun v=>K v Sz⟩
   | none,some .string=>⟨fun _ A Sz K=>(tX a).f A fun v=>aAk v fun v=>K v Sz⟩
   | _,_=>vM
  | _,_=>vM
 | .builtin .append=>match c.argTypes.toList,c.args.toList with
  | [sT,xT],[a,b]=>match isSlice P sT,WQ (P.underlying xT)with
   | some el,true=>match P.info? el with
    | some info=>match info.size,info.zero with
     | n+1,some z=>match Nat.beq z.cells.size (n+1),Nat.beq ((bL P el).getD 0) (n+1)with
      | true,true=>⟨fun _ A Sz K=>(tX a).f A fun a=>(tX b).f A fun b=>kI el (n+1) info.bytes a b Sz K⟩
      | _,_=>vM
     | _,_=>vM
    | none=>vM
   | _,_=>vM
  | _,_=>vM
 | .builtin .min=>match c.args.toList with
  | [a,b]=>⟨fun _ A Sz K=>(tX a).f A fun a=>(tX b).f A fun b=>Dg false a b fun v=>K v Sz⟩
  | _=>vM
 | .builtin .max=>match c.args.toList with
  | [a,b]=>⟨fun _ A Sz K=>(tX a).f A fun a=>(tX b).f A fun b=>Dg true a b fun v=>K v Sz⟩
  | _=>vM
 | .builtin .clear=>match c.argTypes.toList,c.args.toList with
  | [t],[a]=>match isSlice P t with
   | some el=>match bL P el,pJ P el with
    | some (m+1),some zero=>match Nat.beq zero.length (m+1),allB aY zero with
     | true,true=>⟨fun _ A Sz K=>(tX a).f A fun a=>Mh zero a Sz fun Sz=>K WC Sz⟩
     | _,_=>vM
    | _,_=>vM
   | none=>vM
  | _,_=>vM
 | .builtin .copy=>match c.argTypes.toList,c.args.toList with
  | dT::_,[a,b]=>match isSlice P dT with
   | some el=>match bL P el with
    | some (m+1)=>⟨fun _ A Sz K=>(tX a).f A fun a=>(tX b).f A fun b=>Hd (m+1) a b Sz K⟩
    | _=>vM
   | none=>vM
  | _,_=>vM
 | .builtin _=>vM
 | .value f=>⟨fun E A Sz K=>(Tn c.args.toList).f A fun args=>(tX f).f A fun f=>rL E f args Sz K⟩
 | .invoke r m=>⟨fun E A Sz K=>(Tn c.args.toList).f A fun args=>(tX r).f A fun v=>aGO P E.call v m args Sz K⟩
structure OvO where
 f:VA->(Option V->Prop)->Prop
noncomputable def evO (x:Option Operand):OvO:=match x with
 | none=>⟨fun _ k=>k none⟩
 | some x=>⟨fun A k=>(tX x).f A fun v=>k (some v)⟩
def aDp (mx hi:Option Operand):Bool:=match mx,hi with | some _,none=>false | _,_=>true
noncomputable def Mi (P:Program) (t:TypeId) (x:Operand) (lo hi mx:Option Operand):OpV:=
 match isSlice P t with
  | some el=>match bL P el with
   | some size=>⟨fun _ A Sz K=>(tX x).f A fun x=>(evO lo).f A fun lo=>(evO hi).f A fun hi=>(evO mx).f A fun mx=>HM el size x lo hi mx Sz fun v=>K v Sz⟩
   | none=>vM
  | none=>match P.underlying t with
   | some .string=>match mx with
    | none=>⟨fun _ A Sz K=>(tX x).f A fun x=>(evO lo).f A fun lo=>(evO hi).f A fun hi=>aGS x lo hi fun v=>K v Sz⟩
    | some _=>vM
   | some (.array len el)=>match bL P el with
    | some size=>⟨fun _ A Sz K=>(tX x).f A fun x=>(evO lo).f A fun lo=>(evO hi).f A fun hi=>(evO mx).f A fun mx=>aGT len size x lo hi mx fun v=>K v Sz⟩
    | none=>vM
   | _=>vM
noncomputable def LH (P:Program) (t:TypeId) (l c:Operand):OpV:=
 match isSlice P t with
  | some el=>match P.info? el,pJ P el with
   | some info,some zero=>match Nat.beq zero.length info.size,info.size,allB aY zero with
    | true,_+1,true=>⟨fun _ A Sz K=>(tX l).f A fun l=>(tX c).f A fun c=>Gy el info.bytes zero l c Sz K⟩
    | _,_,_=>vM
   | _,_=>vM
  | none=>vM
noncomputable def Du (P:Program) (t:TypeId) (x ix:Operand) (ok:Bool):OpV:=match FJ P t with
 | some (kt,et)=>match keyS P kt,zeroV P et with
  | some sh,some z=>match ofC z with
   | some z=>⟨fun _ A Sz K=>(tX x).f A fun x=>(tX ix).f A fun ix=>aAn sh z ok x ix Sz K⟩
   | none=>vM
  | _,_=>vM
 | none=>vM
noncomputable def Dv (P:Program) (t:TypeId) (m a x:Operand):OpV:=match FJ P t with
 | some (kt,_)=>match keyS P kt with
  | some sh=>⟨fun _ A Sz K=>(tX m).f A fun m=>(tX a).f A fun a=>(tX x).f A fun x=>Mg sh m a x Sz fun Sz=>K WC Sz⟩
  | none=>vM
 | none=>vM
def Im (P:Program) (t:TypeId):Bool:=match P.underlying t with | some (.interface _)=>false | some _=>true | none=>false
noncomputable def To (P:Program) (o:Oper):OpV:=
 match o.op with
 | .move x=>⟨fun _ A Sz K=>(tX x).f A fun v=>K v Sz⟩
 | .assign x=>⟨fun _ A Sz K=>(tX x).f A fun v=>K v Sz⟩
 | .pick c a b=>⟨fun E A Sz K=>(tX c).f A fun c=>(tX a).f A fun a=>(tX b).f A fun b=>aD E.most (dA c a b fun v=>K v Sz)⟩
 | .alloc t=>match pJ P t with
  | some z=>match allB aY z with
   | true=>⟨fun _ _ Sz K=>eU z t Sz K⟩
   | false=>vM
  | none=>vM
 | .box t x=>⟨fun _ A Sz K=>(tX x).f A fun v=>jO t v Sz K⟩
 | .build t ps=>match pJ P t,P.underlying t with
  | some zero,some (.struct fields)=>match placesOf P fields.toList with
   | some pl=>match allB aY zero,ps.toList.all fun p=>(pl[p.1]?).isSome with
    | true,true=>⟨fun _ A Sz K=>(PU (pl[·]?) ps.toList).f A fun l=>gQ zero l fun v=>K v Sz⟩
    | _,_=>vM
   | none=>vM
  | some zero,some (.array _ elem)=>match bL P elem with
   | some size=>match allB aY zero with
    | true=>⟨fun _ A Sz K=>(PU (fun i=>some (i*size,size)) ps.toList).f A fun l=>gQ zero l fun v=>K v Sz⟩
    | false=>vM
   | none=>vM
  | _,_=>vM
 | .buildSlice t len ps=>match isSlice P t with
  | some elem=>match bL P elem,pJ P elem with
   | some (size+1),some zero=>match Nat.ble (len*(size+1)) 16777216,Nat.beq zero.length (size+1)with
    | true,true=>match allB aY zero with
     | true=>⟨fun _ A Sz K=>(PU (fun i=>some (i*(size+1),size+1)) ps.toList).f A fun l=>aP elem len zero l Sz K⟩
     | false=>vM
    | _,_=>vM
   | _,_=>vM
  | none=>vM
 | .load t a=>match pV P t,bL P t with
  | some false,_=>⟨fun _ A Sz K=>(tX a).f A fun a=>aS a Sz K⟩
  | some true,some (n+1)=>⟨fun _ A Sz K=>(tX a).f A fun a=>bF (n+1) a Sz K⟩
  | _,_=>vM
 | .store t a x=>match bL P t with
  | some n=>⟨fun _ A Sz K=>(tX a).f A fun a=>(tX x).f A fun x=>rH n a x Sz fun Sz=>K WC Sz⟩
  | none=>vM
 | .nilCheck x=>⟨fun _ A Sz K=>(tX x).f A fun v=>FQ P v fun v=>K v Sz⟩
 | .binOp op t x y _=>match pV P t with
  | some true=>⟨fun _ A Sz K=>(tX x).f A fun a=>(tX y).f A fun b=>Sm P op t a b fun v=>K v Sz⟩
  | _=>⟨fun _ A Sz K=>(tX x).f A fun a=>(tX y).f A fun b=>aG P op t a b fun v=>K v Sz⟩
 | .unOp op _ x=>⟨fun _ A Sz K=>(tX x).f A fun a=>IP op a fun v=>K v Sz⟩
 | .convert s d x=>match P.underlying s,P.underlying d with
  | some (.int _),some (.int k)=>⟨fun _ A Sz K=>(tX x).f A fun a=>AL k a fun v=>K v Sz⟩
  | _,_=>vM
 | .makeInterface t x=>match Im P t with
  | true=>⟨fun _ A Sz K=>(tX x).f A fun v=>K (.iface t v) Sz⟩
  | false=>vM
 | .makeFunc fn first cap=>match fn with
  | .func f=>⟨fun _ A Sz K=>(Tn first.toList).f A fun a=>(Tn cap.toList).f A fun b=>K (.func f a b) Sz⟩
  | .method s=>match first.toList,cap.toList with
   | [x],[]=>⟨fun _ A Sz K=>(tX x).f A fun v=>K (.meth s v) Sz⟩
   | _,_=>vM
  | _=>vM
 | .fieldAddr s x f=>match uA P s f with
  | some fd=>match bL P fd.type with
   | some (_+1)=>⟨fun _ A Sz K=>(tX x).f A fun x=>bI fd.offset x fun v=>K v Sz⟩
   | _=>vM
  | none=>vM
 | .field t x f=>match uA P t f with
  | some fd=>match pV P fd.type,bL P fd.type with
   | some false,_=>⟨fun _ A Sz K=>(tX x).f A fun x=>Me fd.offset x fun v=>K v Sz⟩
   | some true,some n=>⟨fun _ A Sz K=>(tX x).f A fun x=>Dp fd.offset n x fun v=>K v Sz⟩
   | _,_=>vM
  | none=>vM
 | .indexAddr t x ix=>match isSlice P t with
  | some el=>match bL P el with
   | some n=>⟨fun _ A Sz K=>(tX x).f A fun x=>(tX ix).f A fun ix=>bY n x ix fun v=>K v Sz⟩
   | none=>vM
  | none=>vM
 | .index t x ix=>match P.underlying t with
  | some .string=>⟨fun _ A Sz K=>(tX x).f A fun x=>(tX ix).f A fun ix=>VD x ix fun v=>K v Sz⟩
  | _=>vM
 | .slice t x lo hi mx=>match aDp mx hi with
  | true=>Mi P t x lo hi mx
  | false=>vM
 | .makeSlice t l c=>LH P t l c
 | .makeMap _ none=>⟨fun _ _ Sz K=>Qd Sz K⟩
 | .lookup t x ix ok=>Du P t x ix ok
 | .mapUpdate t m k x=>Dv P t m k x
 | .insert t m k x=>Dv P t m k x
 | .extract t i=>⟨fun _ A Sz K=>(tX t).f A fun v=>tK i v fun v=>K v Sz⟩
 | .call c=>aAr P c
 | _=>vM
abbrev KSV:=VA->Hp->Prop
structure Tp where
 f:VE->VA->Hp->KSV->Prop
structure ChV where
 f:VE->VA->Hp->Prop->Prop
noncomputable def aDq (P:Program) (o:Oper):Tp:=
 match o.dst with
 | some d=>⟨fun E A Sz k=>(To P o).f E A Sz fun v Sz=>WE A d v fun A=>k A Sz⟩
 | none=>⟨fun E A Sz k=>(To P o).f E A Sz fun _ Sz=>k A Sz⟩
noncomputable def Uh (P:Program) (ops:Array Oper) (o:Oper):Tp:=
 match o.guard with
 | none=>aDq P o
 | some (j,w)=>match ops[j]? with
  | some o'=>match o'.dst with
   | some g=>match o.dst with
    | some d=>⟨fun E A Sz k=>YB A.tmps g fun b=>aD E.most (aC w b (fun k=>(To P o).f E A Sz k) Sz fun v Sz=>WE A d v fun A=>k A Sz)⟩
    | none=>⟨fun E A Sz k=>YB A.tmps g fun b=>aD E.most (aC w b (fun k=>(To P o).f E A Sz k) Sz fun _ Sz=>k A Sz)⟩
   | none=>⟨fun _ _ _ _=>False⟩
  | none=>⟨fun _ _ _ _=>False⟩
noncomputable def opsV (P:Program) (ops:Array Oper) (l:List Oper):Tp:=
 BJ (β:=Tp) ⟨fun _ A Sz k=>k A Sz⟩ (fun o _ ih=>⟨fun E A Sz k=>(Uh P ops o).f E A Sz fun A Sz=>ih.f E A Sz k⟩) l
noncomputable def JE (P:Program) (ops:Array Oper) (l:List Nat):ChV:=
 BJ (β:=ChV) ⟨fun _ _ _ k=>k⟩ (fun i _ ih=>match ops[i]? with
  | some o=>match o.dst with
   | some d=>match o.guard with
    | none=>⟨fun E A Sz k=>YB A.tmps d fun u=>(To P o).f E A Sz fun v _=>aL v u (ih.f E A Sz k)⟩
    | some (j,w)=>match ops[j]? with
     | some o'=>match o'.dst with
      | some g=>⟨fun E A Sz k=>YB A.tmps d fun u=>YB A.tmps g fun b=>aD E.most (gH w b u (fun k=>(To P o).f E A Sz fun v _=>aL v u k) (ih.f E A Sz k))⟩
      | none=>⟨fun _ _ _ _=>False⟩
     | none=>⟨fun _ _ _ _=>False⟩
   | none=>⟨fun _ _ _ _=>False⟩
  | none=>⟨fun _ _ _ _=>False⟩) l
noncomputable def In (P:Program) (ops:Array Oper) (i:Nat) (o:Oper):OpV:=match cS P ops i with
 | none=>To P o
 | some _=>vM
noncomputable def FI (P:Program) (ops:Array Oper) (l:List Nat):Tp:=
 BJ (β:=Tp) ⟨fun _ A Sz k=>k A Sz⟩ (fun i _ ih=>match ops[i]? with
  | some o=>match o.dst with
   | some d=>⟨fun E A Sz k=>(In P ops i o).f E A Sz fun v Sz=>WE A d v fun A=>ih.f E A Sz k⟩
   | none=>⟨fun E A Sz k=>(In P ops i o).f E A Sz fun _ Sz=>ih.f E A Sz k⟩
  | none=>⟨fun _ _ _ _=>False⟩) l
noncomputable abbrev absP (A:VA) (o:Oper) (k:Prop):Prop:=match o.dst with
 | some d=>Tk A.tmps.t d k
 | none=>False
noncomputable def Dw (P:Program) (ops:Array Oper) (l:List (Nat×List Nat)):ChV:=
 BJ (β:=ChV) ⟨fun _ _ _ k=>k⟩ (fun p _ ih=>match ops[p.1]? with
  | some o=>⟨fun E A Sz k=>absP A o (((FI P ops p.2).f E A Sz fun A Sz=>(In P ops p.1 o).f E A Sz fun _ _=>True)/\ih.f E A Sz k)⟩
  | none=>⟨fun _ _ _ _=>False⟩) l
noncomputable def BK (P:Program) (ops:Array Oper) (l:List rA):Tp:=
 BJ (β:=Tp) ⟨fun _ _ _ _=>False⟩ (fun s _ ih=>match s with
  | .take i=>match ops[i]? with
   | some o=>⟨fun E A Sz k=>(Uh P ops o).f E A Sz fun A Sz=>ih.f E A Sz k⟩
   | none=>⟨fun _ _ _ _=>False⟩
  | .req chk pend D r vX=>match ops[r]? with
   | some o=>⟨fun E A Sz k=>(JE P ops chk).f E A Sz ((Dw P ops pend).f E A Sz ((FI P ops D).f E A Sz fun A Sz=>(Uh P ops o).f E A Sz fun A Sz=>(JE P ops vX).f E A Sz (ih.f E A Sz k)))⟩
   | none=>⟨fun _ _ _ _=>False⟩
  | .fin chk pend D=>⟨fun E A Sz k=>(JE P ops chk).f E A Sz ((Dw P ops pend).f E A Sz ((FI P ops D).f E A Sz k))⟩) l
noncomputable abbrev Io (ops:Array Oper) (l:List Nat) (A:VA) (k:VA->Prop):Prop:=
 BJ (β:=VA->Prop) k (fun i _ ih A=>match ops[i]? with
  | some o=>match o.dst with
   | some d=>match A with | ⟨⟨t,n⟩,g⟩=>aAq t d fun t=>ih ⟨⟨t,n⟩,g⟩
   | none=>False
  | none=>False) l A
noncomputable def AG (P:Program) (ops:Array Oper) (l:List rA):Tp:=
 BJ (β:=Tp) ⟨fun _ A Sz k=>k A Sz⟩ (fun s _ ih=>match s with
  | .take i=>match ops[i]? with
   | some o=>⟨fun E A Sz k=>(Uh P ops o).f E A Sz fun A Sz=>ih.f E A Sz k⟩
   | none=>⟨fun _ _ _ _=>False⟩
  | .req chk pend D r vX=>match ops[r]? with
   | some o=>⟨fun E A Sz k=>(JE P ops chk).f E A Sz ((Dw P ops pend).f E A Sz ((FI P ops D).f E A Sz fun A Sz=>(Uh P ops o).f E A Sz fun A Sz=>(JE P ops vX).f E A Sz (ih.f E A Sz k)))⟩
   | none=>⟨fun _ _ _ _=>False⟩
  | .fin _ _ _=>⟨fun _ _ _ _=>False⟩) l
def VL (w:Bool) (v:V) (k:Prop):Prop:=match v with
 | .bool b=>match w,b with | true,true=>k | false,false=>k | _,_=>False
 | _=>False
noncomputable def Mj (P:Program) (p:GY):Array Oper->Tp:=
 GY.rec (motive:=fun _=>Array Oper->Tp) (fun l ops=>BK P ops l) (fun l g t b _ ih ops=>⟨fun E A Sz k=>(AG P ops l).f E A Sz fun A Sz=>YB A.tmps t fun v=>VL b v ((ih (cR ops g b)).f E A Sz k)⟩) p
noncomputable def aCC (P:Program) (ops:Array Oper) (draw:Bool):Tp:=
 match draw with
 | true=>match MK P ops with
  | some l=>match CE l with
   | []=>BK P ops l
   | ls=>⟨fun E A Sz k=>Io ops ls A fun A=>(BK P ops l).f E A Sz k⟩
  | none=>match zA ops with
   | true=>match MO P (ops.size+1) ops ⟨List.replicate ops.size false⟩ []with
    | some p=>⟨fun E A Sz k=>Io ops (Br p) A fun A=>(Mj P p ops).f E A Sz k⟩
    | none=>⟨fun _ _ _ _=>False⟩
   | false=>⟨fun _ _ _ _=>False⟩
 | false=>opsV P ops ops.toList
abbrev CV:=qZ->VA->Hp->Prop
structure CdV where
 f:VE->VA->Hp->CV->Prop
noncomputable abbrev DA (l:List Nat) (A:VA) (k:List V->Prop):Prop:=
 BJ (β:=(List V->Prop)->Prop) (fun k=>k []) (fun i _ ih k=>YB A.tmps i fun v=>ih fun vs=>k (v::vs)) l k
noncomputable abbrev EI (l:List Nat) (vs:List V) (nt g:Nat) (k:VA->Prop):Prop:=
 BJ (β:=List V->Ds->Prop) (fun _ T=>k ⟨T,g⟩) (fun i _ ih vs T=>match vs with | v::vs=>KH v T i fun T=>ih vs T | []=>False) l vs ⟨.leaf,nt⟩
abbrev LpV:=VE->List V->Nat->Hp->(qZ->List V->Nat->Hp->Prop)->Prop
section
variable (P:Program) (tb:mE) (r:Option Nat)
noncomputable abbrev Dx (a:Code) (ih:List V->Nat->Hp->Prop) (K:qZ->List V->Nat->Hp->Prop):CV:=fun e A Sz=>match e with
 | .normal=>DA (rF tb a) A fun vs=>ih vs A.tmps.n Sz
 | e=>DA (outOf tb a e) A fun vs=>K e vs A.tmps.n Sz
noncomputable def IQ (a:Code) (body:CdV) (E:VE) (K:qZ->List V->Nat->Hp->Prop):Nat->List V->Nat->Hp->Prop:=
 Qe (β:=List V->Nat->Hp->Prop) (fun _ _ _=>False) (fun _ ih vs n Sz=>cT Sz fun Sz=>EI (rF tb a) vs n P.globals.size fun A=>body.f E A Sz (Dx tb a ih K))
noncomputable def aAs (a:Code) (body:CdV):LpV:=fun E vs n Sz K=>IQ P tb a body E K E.most vs n Sz
noncomputable abbrev Tq (a:Code) (K:CV):qZ->List V->Nat->Hp->Prop:=fun e vs n Sz=>EI (outOf tb a e) vs n P.globals.size fun A=>K e A Sz
noncomputable def aGW (a:Code) (lp:LpV):CdV:=⟨fun E A Sz K=>DA (rF tb a) A fun vs=>lp E vs A.tmps.n Sz (Tq P tb a K)⟩
noncomputable def aAt (l:List Nat) (b:CdV) (E:VE) (K:CV) (vs:List V) (n:Nat) (Sz:Hp):Prop:=AF E.most False fun _=>cT Sz fun Sz=>EI l vs n P.globals.size fun A=>b.f E A Sz K
noncomputable abbrev Qf (j:Option (List Nat)) (b:CdV) (E:VE) (K:CV):CV:=fun e A Sz=>match e with
 | .normal=>match j with
  | none=>b.f E A Sz K
  | some l=>DA l A fun vs=>aAt P l b E K vs A.tmps.n Sz
 | e=>K e A Sz
noncomputable abbrev Ml (id:Nat) (K:CV):CV:=fun e A Sz=>match e with
 | .exit i=>OC i id (K .normal A Sz) (K (.exit i) A Sz)
 | e=>K e A Sz
def Dy (a:Code):List Nat:=match lO a with | some i=>(tb.loop (1000000+i)).1 | none=>[]
def rOk (r:Option Nat) (Sz:Hp) (p:Prop):Prop:=match r with | none=>p | some l=>EH l Sz p
noncomputable def Dz (f:Operand) (ps:Array Tmp) (as bo:Code):CdV:=⟨fun E A Sz K=>(tX f).f A fun f=>DA (Dy tb bo) A fun vs=>rOk r Sz (zT E f (Dy tb bo) vs A.tmps.n ps.toList as bo Sz fun pe Sz=>HV pe (K .normal A Sz) (K .ret A Sz) fun id=>K (.exit id) A Sz)⟩
noncomputable def mI (lp:Code->LpV):Code->CdV
 | .skip=>⟨fun _ A Sz K=>K .normal A Sz⟩
 | .region _ ops draw=>⟨fun E A Sz K=>(aCC P ops draw).f E A Sz fun A Sz=>K .normal A Sz⟩
 | .seq a b=>⟨fun E A Sz K=>(mI lp a).f E A Sz (Qf P (xQ tb b) (mI lp b) E K)⟩
 | .cond c a b=>⟨fun E A Sz K=>(tX c).f A fun v=>iG v ((mI lp a).f E A Sz K) ((mI lp b).f E A Sz K)⟩
 | .block id a=>⟨fun E A Sz K=>(mI lp a).f E A Sz (Ml id K)⟩
 | .loop a=>aGW P tb a (lp a)
 | .scope a=>mI lp a
 | .rangeFunc f ps as bo=>Dz tb r f ps as bo
 | .exit id=>⟨fun _ A Sz K=>K (.exit id) A Sz⟩
 | .label _=>⟨fun _ A Sz K=>K .normal A Sz⟩
 | .ret=>⟨fun _ A Sz K=>K .ret A Sz⟩
 | _=>⟨fun _ _ _ _=>False⟩
noncomputable def JD:Nat->Code->LpV
 | 0=>fun _ _ _ _ _ _=>False
 | n+1=>fun a=>aAs P tb a (mI P tb r (JD n) a)
end
section
variable (P:Program) (tb:FuncId->mE)
noncomputable abbrev AI (rs:List ResultVar) (A:VA) (Sz:Hp) (k:List V->Prop):Prop:=
 BJ (β:=(List V->Prop)->Prop) (fun k=>k []) (fun x _ ih k=>match x with
  | .tmp t=>YB A.tmps t fun v=>ih fun vs=>k (v::vs)
  | .cell a t=>match pV P t,bL P t with
   | some false,_=>YB A.tmps a fun a=>aS a Sz fun v _=>ih fun vs=>k (v::vs)
   | some true,some (n+1)=>YB A.tmps a fun a=>bF (n+1) a Sz fun v _=>ih fun vs=>k (v::vs)
   | _,_=>False) rs k
noncomputable abbrev aAu (fn:Func) (K:KV):CV:=fun e A Sz=>match e with
 | .exit _=>False
 | _=>AI P fn.results.toList A Sz fun vs=>match vs with | [v]=>bC v Sz K | vs=>bC (.tuple vs) Sz K
noncomputable def lG (f:FuncId) (E:VE) (args:List V) (Sz:Hp) (K:KV):Prop:=
 match P.funcs[f]? with
 | some fn=>match fn.body with
  | some c=>aGU fn.ntmps args fun ts=>(mI P (tb f) none (JD P (tb f) none vI) c).f E ⟨ts,P.globals.size⟩ Sz (aAu P fn K)
  | none=>False
 | none=>False
noncomputable abbrev aGX (l:Nat) (K:KV):CV:=fun e _ Sz=>match e with
 | .normal=>yB l .ready none true Sz K
 | .ret=>yB l .done (some .ret) false Sz K
 | .exit id=>yB l .done (some (.exit id)) false Sz K
noncomputable abbrev aE0 (n l:Nat) (bo:Code) (E:VE) (K:KV):CV:=fun e A Sz=>match e with
 | .normal=>KG l Sz fun Sz=>(mI P (tb (PE n bo)) (some l) (JD P (tb (PE n bo)) (some l) vI) bo).f E A Sz (aGX l K)
 | _=>False
noncomputable abbrev aAv (ps:List Tmp) (args:List V) (T:Ds) (k:Ds->Prop):Prop:=
 BJ (β:=List V->Ds->Prop) (fun as T=>match as with | []=>k T | _=>False) (fun p _ ih as T=>match as with | a::as=>KH a T p fun T=>ih as T | []=>False) ps args T
noncomputable def HW (E:VE) (n:Nat) (ps:List Tmp) (as bo:Code) (l:Nat) (vs args:List V) (Sz:Hp) (K:KV):Prop:=
 EI (JP tb n bo) vs n P.globals.size fun A=>aAv ps args A.tmps fun T=>(mI P (tb (PE n bo)) (some l) (JD P (tb (PE n bo)) (some l) vI) as).f E ⟨T,P.globals.size⟩ Sz (aE0 P tb n l bo E K)
def LG (E:VE) (l:Nat) (args:List V) (Sz:Hp) (K:KV):Prop:=match Sz l with
 | some (.loop ls vs n ps as bo _ _)=>ls=JP tb n bo/\HW P tb E n ps as bo l vs args Sz K
 | _=>False
abbrev OvV:=FuncId->Option (List V->Hp->KV->Prop)
noncomputable def Dh (ov:OvV) (most:Nat) (n:Nat):VE:=
 Qe (β:=VE) ⟨fun _ _ _ _=>False,fun _ _ _ _=>False,most⟩ (fun _ E=>⟨fun f args Sz K=>match ov f with | some g=>g args Sz K | none=>lG P tb f E args Sz K,fun l args Sz K=>LG P tb E l args Sz K,most⟩) n
variable (Tb:mE) (r:Option Nat) (E:VE)
noncomputable def nN:List Dir->Nat->Code->List Nat->CV->(Nat->Code->CV->Prop)->Prop
 | [],D,c,_,K,k=>k D c K
 | .l::p,D,.seq a b,ms,K,k=>nN p D a ms (Qf P (xQ Tb b) (mI P Tb r (JD P Tb r D) b) E K) k
 | .r::p,D,.seq _ b,ms,K,k=>nN p D b ms K k
 | .l::p,D,.cond _ a _,ms,K,k=>nN p D a ms K k
 | .r::p,D,.cond _ _ b,ms,K,k=>nN p D b ms K k
 | .d::p,D,.block id a,ms,K,k=>nN p D a ms (Ml id K) k
 | .d::p,D,.scope a,ms,K,k=>nN p D a ms K k
 | .d::p,D+1,.loop a,m::ms,K,k=>nN p D a ms (Dx Tb a (IQ P Tb a (mI P Tb r (JD P Tb r D) a) E (Tq P Tb a K) m) (Tq P Tb a K)) k
 | _,_,_,_,_,_=>False
noncomputable def WD (f:FuncId) (E:VE) (p:List Dir) (ms:List Nat) (vs:List V) (Sz:Hp) (K:KV):Prop:=
 match P.funcs[f]? with
 | some fn=>match fn.body with
  | some c=>nN P (tb f) none E p vI c ms (aAu P fn K) fun D c K=>match xQ (tb f) c with
   | some l=>aAt P l (mI P (tb f) none (JD P (tb f) none D) c) E K vs fn.ntmps Sz
   | none=>False
  | none=>False
 | none=>False
noncomputable def Ae (f:FuncId) (E:VE) (p:List Dir) (ms:List Nat) (vs:List V) (Sz:Hp) (K:KV):Prop:=
 match P.funcs[f]? with
 | some fn=>match fn.body with
  | some c=>nN P (tb f) none E p vI c ms (aAu P fn K) fun D c K=>match xQ (tb f) c with
   | some l=>cT Sz fun Sz=>EI l vs fn.ntmps P.globals.size fun A=>(mI P (tb f) none (JD P (tb f) none D) c).f E A Sz K
   | none=>False
  | none=>False
 | none=>False
noncomputable def eT (f:FuncId) (E:VE) (p:List Dir) (m:Nat) (ms:List Nat) (vs:List V) (Sz:Hp) (K:KV):Prop:=
 match P.funcs[f]? with
 | some fn=>match fn.body with
  | some c=>nN P (tb f) none E p vI c ms (aAu P fn K) fun D c K=>match D,c with
   | D+1,.loop a=>IQ P (tb f) a (mI P (tb f) none (JD P (tb f) none D) a) E (Tq P (tb f) a K) m vs fn.ntmps Sz
   | _,_=>False
  | none=>False
 | none=>False
def EJ:List Dir->Code->Code
 | [],c=>c
 | .l::p,.seq a _=>EJ p a
 | .r::p,.seq _ b=>EJ p b
 | .l::p,.cond _ a _=>EJ p a
 | .r::p,.cond _ _ b=>EJ p b
 | .d::p,.block _ a=>EJ p a
 | .d::p,.scope a=>EJ p a
 | .d::p,.loop a=>EJ p a
 | .d::p,.rangeFunc _ _ _ b=>EJ p b
 | _,c=>c
def aE1 (f:FuncId) (p:List Dir):Code:=match P.funcs[f]? with
 | some fn=>match fn.body with
  | some c=>EJ p c
  | none=> .skip
 | none=> .skip
def tL (f:FuncId) (p:List Dir):List Tmp:=match aE1 P f p with | .rangeFunc _ ps _ _=>ps.toList | _=>[]
def tO (f:FuncId) (p:List Dir):Code:=match aE1 P f p with | .rangeFunc _ _ as _=>as | _=> .skip
def qD (f:FuncId) (p:List Dir):Code:=match aE1 P f p with | .rangeFunc _ _ _ bo=>bo | _=> .skip
end
structure vG (B:Nat->Prop) (Sz S':St) (B':Nat->Prop):Prop where
 n:Sz.n<=S'.n
 same:∀i,i<Sz.n->¬B i->S'.obj i=Sz.obj i
 sub:∀i,B' i->B i\/Sz.n<=i
theorem vG.trans{B B1 B2:Nat->Prop}{Sz S1 S2:St} (h:vG B Sz S1 B1) (k:vG B1 S1 S2 B2):vG B Sz S2 B2:=by
 refine⟨Nat.le_trans h.n k.n,fun i hi hb=>?_,fun i hi=>?_⟩
 ·rw [k.same i (Nat.lt_of_lt_of_le hi h.n) (fun hb1=>?_),h.same i hi hb]
  rcases h.sub i hb1 with h1 | h1
  ·exact hb h1
  ·omega
 ·rcases k.sub i hi with h1 | h1
  ·exact h.sub i h1
  ·exact .inr (Nat.le_trans h.n h1)
theorem vG.refl (B:Nat->Prop) (Sz:St):vG B Sz Sz B:=⟨Nat.le_refl _,fun _ _ _=>rfl,fun _ h=> .inl h⟩
inductive It where
 | num
 | kind
 | int
 | is
 | text
 | nums
 | list (its:List It)
inductive D where
 | n (z:Int)
 | b (v:Bool)
 | s (l:List UInt8)
 | l (es:List (List D))
def Wr (c:CK):Prop:=c= .rs\/c= .exact\/∃l,c= .grown l
inductive Rd (Sz:St) (C:Nat->Prop):It->Value->D->Prop where
 | num {z:Nat} (h:z<18446744073709551616):Rd Sz C .num (.int .u64 (.ofNat z)) (.n z)
 | kind {z:Nat} (h:z<256):Rd Sz C .kind (.int .u8 (.ofNat z)) (.n z)
 | int {z:Int} (h1: -9223372036854775808<=z) (h2:z<9223372036854775808):Rd Sz C .int (.int .i64 z) (.n z)
 | is {v:Bool}:Rd Sz C .is (.bool v) (.b v)
 | text {l:List UInt8} (h:l.length<=140737488355328):Rd Sz C .text (.string ⟨⟨l⟩⟩) (.s l)
 | nums {v:Value} {es:List (List D)} (h:Rd Sz C (.list [.num]) v (.l es)):Rd Sz C .nums v (.l es)
 | empty {its:List It}:Rd Sz C (.list its) (.slice none 0 0) (.l [])
 | Bp {its:List It} {b o s:Nat}:Rd Sz C (.list its) (.slice (some ⟨b,o,some (s+2)⟩) 0 0) (.l [])
 | row {its:List It} {b o n c:Nat} {sp:Option Nat} {vs:List Value} {e:TypeId} {ck:CK} {es:List (List D)} (hsp:WR sp=true) (hb:b<Sz.n) (hC:¬C b) (ho:Sz.obj b=some (.cells vs e ck)) (hw:Wr ck)
  (hn:es.length=n) (hl:o+n*its.length<=vs.length) (hd:∀ds∈es,ds.length=its.length) (hN:n<=140737488355328) (hnc:n<=c)
  (hr:∀(k:Nat) (ds:List D) (j:Nat) (it:It) (v:Value) (d:D),es[k]? =some ds->its[j]? =some it->vs[o+k*its.length+j]? =some v->ds[j]? =some d->Rd Sz C it v d):Rd Sz C (.list its) (.slice (some ⟨b,o,sp⟩) n c) (.l es)
theorem Rd.fr{Sz S':St}{C C':Nat->Prop} (f:vG C Sz S' C'){it:It}{v:Value}{d:D} (h:Rd Sz C it v d):Rd S' C' it v d:=by
 induction h with
 | num h=>exact .num h
 | kind h=>exact .kind h
 | int h1 h2=>exact .int h1 h2
 | is=>exact .is
 | text h=>exact .text h
 | nums _ ih=>exact .nums ih
 | empty=>exact .empty
 | Bp=>exact .Bp
 | row hsp hb hC ho hw hn hl hd hN hnc _ ih=>
  refine .row hsp (Nat.lt_of_lt_of_le hb f.n) (fun h=>?_) (by rw [f.same _ hb hC];exact ho) hw hn hl hd hN hnc ih;rcases f.sub _ h with h | h
  ·exact hC h
  ·omega
structure DW (Sz S':St):Prop where
 n:Sz.n<=S'.n
 same:∀i,i<Sz.n->S'.obj i=Sz.obj i
theorem DW.fr{Sz S':St} (h:DW Sz S') (B:Nat->Prop):vG B Sz S' B:=⟨h.n,fun i hi _=>h.same i hi,fun _ hi=> .inl hi⟩
theorem DW.refl (Sz:St):DW Sz Sz:=⟨Nat.le_refl _,fun _ _=>rfl⟩
structure RdA (Sz:St) (C:Nat->Prop) (its:List It) (cs:List Value) (ds:List D):Prop where
 len:cs.length=its.length
 Ge:ds.length=its.length
 rd:∀(j:Nat) (it:It) (v:Value) (d:D),its[j]? =some it->cs[j]? =some v->ds[j]? =some d->Rd Sz C it v d
theorem RdA.fr{Sz S':St}{C C':Nat->Prop}{its:List It}{cs:List Value}{ds:List D} (h:RdA Sz C its cs ds) (f:vG C Sz S' C'):RdA S' C' its cs ds:=⟨h.len,h.Ge,fun j it v d a b c=>(h.rd j it v d a b c).fr f⟩
theorem DW.trans{a b c:St} (h:DW a b) (k:DW b c):DW a c:=⟨Nat.le_trans h.n k.n,fun i hi=>by rw [k.same i (Nat.lt_of_lt_of_le hi h.n),h.same i hi]⟩
theorem DW.new (Sz:St) (o:fD):DW Sz (Sz.new o):=⟨Nat.le_succ _,fun _i hi=>eJ (Nat.ne_of_lt hi)⟩
structure Cx where
 Zz:Nat->Option Nat
 Gz:Nat->Nat->Option Value
 Yz:Nat->Option Value
 n0:Nat
structure Cx.le0 (c d:Cx):Prop where
 Zz:∀i b,c.Zz i=some b->d.Zz i=some b
 Gz:∀i n v,c.Gz i n=some v->d.Gz i n=some v
 Yz:∀k v,c.Yz k=some v->d.Yz k=some v
structure Cx.le (c d:Cx):Prop where
 Zz:∀i b,c.Zz i=some b->d.Zz i=some b
 Gz:∀i n v,c.Gz i n=some v->d.Gz i n=some v
 Yz:∀k v,c.Yz k=some v->d.Yz k=some v
 n0:d.n0=c.n0
theorem Cx.le.refl (c:Cx):c.le c:=⟨fun _ _ h=>h,fun _ _ _ h=>h,fun _ _ h=>h,rfl⟩
theorem Cx.le.trans{a b c:Cx} (h:a.le b) (k:b.le c):a.le c:=⟨fun i b e=>k.Zz i b (h.Zz i b e),fun i n v e=>k.Gz i n v (h.Gz i n v e),fun i v e=>k.Yz i v (h.Yz i v e),k.n0.trans h.n0⟩
theorem Cx.le.to0{a b:Cx} (h:a.le b):a.le0 b:=⟨h.Zz,h.Gz,h.Yz⟩
structure Fc (C:Nat->Prop) (Sz S':St) (C':Nat->Prop):Prop where
 n:Sz.n<=S'.n
 same:∀b,b<Sz.n->¬C b->∀vs e ck,Sz.obj b=some (.cells vs e ck)->S'.obj b=some (.cells vs e ck)
 sub:∀b,C' b->C b\/Sz.n<=b
theorem Fc.of{C C':Nat->Prop}{Sz S':St} (f:vG C Sz S' C'):Fc C Sz S' C':=⟨f.n,fun b h1 h2 _ _ _ e=>by rw [f.same b h1 h2];exact e,f.sub⟩
inductive RE (Sz:St) (C:Nat->Prop):Dt->Value->Prop
 | int {k:IntKind} {z:Int}:RE Sz C (.int k z) (.int k z)
 | bool {b:Bool}:RE Sz C (.bool b) (.bool b)
 | str {l:List UInt8}:RE Sz C (.str l) (.string ⟨⟨l⟩⟩)
 | nil:RE Sz C (.list [] 0) (.slice none 0 0)
 | emp {b o s:Nat}:RE Sz C (.list [] 0) (.slice (some ⟨b,o,some (s+2)⟩) 0 0)
 | row {b o n c:Nat} {sp:Option Nat} {vs:List Value} {e:TypeId} {ck:CK} {cs:List Dt} (hsp:WR sp=true) (hb:b<Sz.n) (hC:¬C b) (ho:Sz.obj b=some (.cells vs e ck)) (hl:o+cs.length<=vs.length) (hn:n<=c)
  (hr:∀(j:Nat) (d:Dt) (v:Value),cs[j]? =some d->vs[o+j]? =some v->RE Sz C d v):RE Sz C (.list cs n) (.slice (some ⟨b,o,sp⟩) n c)
inductive HX (c:Cx) (Sz:St) (C:Nat->Prop):Tag->Value->Prop
 | root {k:Nat} {w:Value} (h:c.Yz k=some w):HX c Sz C (.root k) w
 | sub {O:Tag} {b o n cc k:Nat} {sp:Option Nat} {vs:List Value} {e:TypeId} {ck:CK} {w:Value} (h:HX c Sz C O (.slice (some ⟨b,o,sp⟩) n cc)) (hb:b<Sz.n) (hC:¬C b) (ho:Sz.obj b=some (.cells vs e ck)) (hv:vs[o+k]? =some w):HX c Sz C (.sub O k) w
 | cut {O:Tag} {b o n cc d k q:Nat} {sp:Option Nat} (h:HX c Sz C O (.slice (some ⟨b,o,sp⟩) n cc)):HX c Sz C (.cut O d k q) (.slice (some ⟨b,o+d,none⟩) k q)
inductive dX (c:Cx) (Sz:St) (C:Nat->Prop):V->Value->Prop
 | int {k:IntKind} {z:Int}:dX c Sz C (.int k z) (.int k z)
 | bool {b:Bool}:dX c Sz C (.bool b) (.bool b)
 | str {l:List UInt8}:dX c Sz C (.str l) (.string ⟨⟨l⟩⟩)
 | list {O:Tag} {cs:List Dt} {n:Nat} {w:Value} (ht:HX c Sz C O w) (hd:RE Sz C (.list cs n) w):dX c Sz C (.list O cs n) w
 | nP {O:Tag} {cs:List Dt} {b o n cc k:Nat} {sp:Option Nat} (ht:HX c Sz C O (.slice (some ⟨b,o,sp⟩) n cc)) (hd:RE Sz C (.list cs n) (.slice (some ⟨b,o,sp⟩) n cc)):dX c Sz C (.nP O cs k) (.pointer (some ⟨b,o+k,none⟩))
 | nil:dX c Sz C .nil (.slice none 0 0)
 | acc {i n:Nat} {w:Value} (h:c.Gz i n=some w):dX c Sz C (.acc i n) w
 | tW {i n o k cc b:Nat} (h:c.Gz i n=some (.slice (some ⟨b,0,some 0⟩) n n)):dX c Sz C (.tW i n o k cc) (.slice (some ⟨b,o,some 0⟩) k cc)
 | aAw {i n b:Nat} (h:c.Gz i n=some (.slice (some ⟨b,0,some 0⟩) n n)):dX c Sz C (.emp i n) (.slice (some ⟨b,0,some 1⟩) 0 0)
 | lX {i n o b:Nat} (h:c.Gz i n=some (.slice (some ⟨b,0,some 0⟩) n n)):dX c Sz C (.lX i n o) (.pointer (some ⟨b,o,none⟩))
 | own {i o n m b:Nat} (h:c.Zz i=some b):dX c Sz C (.own i o n m) (.slice (some ⟨b,o,none⟩) n m)
 | ptr {i o b:Nat} (h:c.Zz i=some b):dX c Sz C (.ptr i o) (.pointer (some ⟨b,o,none⟩))
 | PS:dX c Sz C .PS (.pointer none)
 | XX:dX c Sz C .XX .nilIface
 | LF {i b:Nat} (h:c.Zz i=some b):dX c Sz C (.LF i) (.map (some b))
 | XY:dX c Sz C .XY (.map none)
 | VZ:dX c Sz C .VZ .nilFunc
 | yield {l b:Nat} (h:c.Zz l=some b):dX c Sz C (.yield l) (.func (.yield b) ⟨[]⟩ ⟨[]⟩)
 | func {f:FuncId} {a d:List V} {a' d':List Value} (la:a.length=a'.length) (ld:d.length=d'.length) (ha:∀(k:Nat) (v:V) (w:Value),a[k]? =some v->a'[k]? =some w->dX c Sz C v w) (hd:∀(k:Nat) (v:V) (w:Value),d[k]? =some v->d'[k]? =some w->dX c Sz C v w):dX c Sz C (.func f a d) (.func (.func f) ⟨a'⟩ ⟨d'⟩)
 | meth {s:String} {v:V} {w:Value} (h:dX c Sz C v w):dX c Sz C (.meth s v) (.func (.method s) ⟨[w]⟩ ⟨[]⟩)
 | iface {t:TypeId} {v:V} {w:Value} (h:dX c Sz C v w):dX c Sz C (.iface t v) (.iface t w)
 | agg {a:List V} {a':List Value} (la:a.length=a'.length) (ha:∀(k:Nat) (v:V) (w:Value),a[k]? =some v->a'[k]? =some w->dX c Sz C v w):dX c Sz C (.agg a) (.agg ⟨a'⟩)
 | tuple {a:List V} {a':List Value} (la:a.length=a'.length) (ha:∀(k:Nat) (v:V) (w:Value),a[k]? =some v->a'[k]? =some w->dX c Sz C v w):dX c Sz C (.tuple a) (.tuple ⟨a'⟩)
structure iT (c:Cx) (Sz:St) (C:Nat->Prop) (a:List V) (a':List Value):Prop where
 len:a.length=a'.length
 rd:∀(k:Nat) (v:V) (w:Value),a[k]? =some v->a'[k]? =some w->dX c Sz C v w
section
variable{Sz S':St}{C C':Nat->Prop}{c d:Cx}
theorem RE.mono' (f:Fc C Sz S' C'){x:Dt}{v:Value} (h:RE Sz C x v):RE S' C' x v:=by
 induction h with
 | int=>exact .int
 | bool=>exact .bool
 | str=>exact .str
 | nil=>exact .nil
 | emp=>exact .emp
 | row hsp hb hC ho hl hn _ ih=>
  refine .row hsp (Nat.lt_of_lt_of_le hb f.n) (fun h=>?_) (f.same _ hb hC _ _ _ ho) hl hn ih;rcases f.sub _ h with h | h
  ·exact hC h
  ·omega
theorem HX.mono' (l:c.le0 d) (f:Fc C Sz S' C'){O:Tag}{v:Value} (h:HX c Sz C O v):HX d S' C' O v:=by
 induction h with
 | root h=>exact .root (l.Yz _ _ h)
 | cut _ ih=>exact .cut ih
 | sub _ hb hC ho hv ih=>
  refine .sub ih (Nat.lt_of_lt_of_le hb f.n) (fun h=>?_) (f.same _ hb hC _ _ _ ho) hv;rcases f.sub _ h with h | h
  ·exact hC h
  ·omega
theorem dX.mono' (l:c.le0 d) (f:Fc C Sz S' C'){x:V}{v:Value} (h:dX c Sz C x v):dX d S' C' x v:=by
 induction h with
 | int=>exact .int
 | bool=>exact .bool
 | str=>exact .str
 | list ht hd=>exact .list (ht.mono' l f) (hd.mono' f)
 | nP ht hd=>exact .nP (ht.mono' l f) (hd.mono' f)
 | nil=>exact .nil
 | acc h=>exact .acc (l.Gz _ _ _ h)
 | lX h=>exact .lX (l.Gz _ _ _ h)
 | tW h=>exact .tW (l.Gz _ _ _ h)
 | aAw h=>exact .aAw (l.Gz _ _ _ h)
 | own h=>exact .own (l.Zz _ _ h)
 | ptr h=>exact .ptr (l.Zz _ _ h)
 | PS=>exact .PS
 | XX=>exact .XX
 | LF h=>exact .LF (l.Zz _ _ h)
 | XY=>exact .XY
 | VZ=>exact .VZ
 | yield h=>exact .yield (l.Zz _ _ h)
 | func la ld _ _ i1 i2=>exact .func la ld i1 i2
 | meth _ ih=>exact .meth ih
 | iface _ ih=>exact .iface ih
 | agg la _ ih=>exact .agg la ih
 | tuple la _ ih=>exact .tuple la ih
theorem RE.mono (f:vG C Sz S' C'){x:Dt}{v:Value} (h:RE Sz C x v):RE S' C' x v:=h.mono' (.of f)
theorem dX.mono (l:c.le d) (f:vG C Sz S' C'){x:V}{v:Value} (h:dX c Sz C x v):dX d S' C' x v:=h.mono' l.to0 (.of f)
theorem iT.mono' (l:c.le0 d) (f:Fc C Sz S' C'){x:List V}{v:List Value} (h:iT c Sz C x v):iT d S' C' x v:=⟨h.len,fun k a b p q=>(h.rd k a b p q).mono' l f⟩
theorem iT.mono (l:c.le d) (f:vG C Sz S' C'){x:List V}{v:List Value} (h:iT c Sz C x v):iT d S' C' x v:=⟨h.len,fun k a b p q=>(h.rd k a b p q).mono l f⟩
theorem HX.fn{O:Tag}{v:Value} (h:HX c Sz C O v):∀{w:Value},HX c Sz C O w->v=w:=by
 induction h with
 | root h=>
  intro w k;cases k with | root k=>rw [h]at k;injection k
 | cut _ ih=>
  intro w k;cases k with
  | cut h2=>
   have:=ih h2;injection this with e1 e2 e3;injection e1 with e1;injection e1 with e4 e5 e6;subst e4 e5;rfl
 | sub _ hb hC ho hv ih=>
  intro w k;cases k with
  | sub h2 hb2 hC2 ho2 hv2=>
   have:=ih h2;injection this with e1 e2 e3;injection e1 with e1;injection e1 with e4 e5 e6;subst e4 e5;rw [ho]at ho2;injection ho2 with ho2;injection ho2 with ho2;subst ho2;rw [hv]at hv2;injection hv2
theorem IR{a:List V}{x y:List Value} (hx:a.length=x.length) (hy:a.length=y.length) (h:∀(k:Nat) (v:V) (w:Value),a[k]? =some v->x[k]? =some w->∀{u:Value},dX c Sz C v u->w=u) (k:∀(k:Nat) (v:V) (w:Value),a[k]? =some v->y[k]? =some w->dX c Sz C v w):x=y:=by
 refine List.ext_getElem (by omega) fun i a1 a2=>?_;exact h i _ _ (List.getElem?_eq_getElem (by omega)) (List.getElem?_eq_getElem a1) (k i _ _ (List.getElem?_eq_getElem (by omega)) (List.getElem?_eq_getElem a2))
theorem dX.fn{x:V}{v:Value} (h:dX c Sz C x v):∀{w:Value},dX c Sz C x w->v=w:=by
 induction h with
 | int=>intro w k;cases k;rfl
 | bool=>intro w k;cases k;rfl
 | str=>intro w k;cases k;rfl
 | list ht _=>intro w k;cases k with | list ht2 _=>exact ht.fn ht2
 | nP ht _=>
  intro w k;cases k with
  | nP ht2 _=>
   have:=ht.fn ht2;injection this with e1 e2 e3;injection e1 with e1;injection e1 with e4 e5 e6;subst e4 e5;rfl
 | nil=>intro w k;cases k;rfl
 | acc h=>intro w k;cases k with | acc k=>rw [h]at k;injection k
 | tW h=>
  intro w k;cases k with
  | tW k=>
   rw [h]at k;injection k with k;injection k with e1 e2 e3;injection e1 with e1;injection e1 with e4 e5 e6;subst e4;rfl
 | aAw h=>
  intro w k;cases k with
  | aAw k=>
   rw [h]at k;injection k with k;injection k with e1 e2 e3;injection e1 with e1;injection e1 with e4 e5 e6;subst e4;rfl
 | lX h=>
  intro w k;cases k with
  | lX k=>
   rw [h]at k;injection k with k;injection k with e1 e2 e3;injection e1 with e1;injection e1 with e4 e5 e6;subst e4;rfl
 | own h=>intro w k;cases k with | own k=>rw [h]at k;injection k with k;subst k;rfl
 | ptr h=>intro w k;cases k with | ptr k=>rw [h]at k;injection k with k;subst k;rfl
 | PS=>intro w k;cases k;rfl
 | XX=>intro w k;cases k;rfl
 | XY=>intro w k;cases k;rfl
 | LF h=>intro w k;cases k with | LF k=>rw [h]at k;injection k with k;subst k;rfl
 | VZ=>intro w k;cases k;rfl
 | yield h=>intro w k;cases k with | yield k=>rw [h]at k;injection k with k;subst k;rfl
 | func la ld _ _ i1 i2=>
  intro w k;cases k with
  | func la2 ld2 k1 k2=>rw [IR la la2 (fun k v w p q u=>i1 k v w p q) k1,IR ld ld2 (fun k v w p q u=>i2 k v w p q) k2]
 | meth _ ih=>intro w k;cases k with | meth k=>rw [ih k]
 | iface _ ih=>intro w k;cases k with | iface k=>rw [ih k]
 | agg la _ ih=>intro w k;cases k with | agg la2 k=>rw [IR la la2 (fun k v w p q u=>ih k v w p q) k]
 | tuple la _ ih=>intro w k;cases k with | tuple la2 k=>rw [IR la la2 (fun k v w p q u=>ih k v w p q) k]
theorem iT.nil:iT c Sz C [] []:=⟨rfl,fun k v w a=>by simp at a⟩
theorem iT.cons{v:V}{w:Value}{l:List V}{m:List Value} (h:dX c Sz C v w) (k:iT c Sz C l m):iT c Sz C (v::l) (w::m):=by
 refine⟨by simp [k.len],fun j x y a b=>?_⟩;cases j with
 | zero=>simp at a b;subst a b;exact h
 | succ j=>simp at a b;exact k.rd j x y a b
theorem iT.uM{m:List Value} (h:iT c Sz C [] m):m=[]:=List.eq_nil_of_length_eq_zero (by simpa using h.len.symm)
theorem iT.cons_inv{v:V}{l:List V}{m:List Value} (h:iT c Sz C (v::l) m):∃w m',m=w::m'/\dX c Sz C v w/\iT c Sz C l m':=by
 cases m with
 | nil=>have:=h.len;simp at this
 | cons w m=>exact⟨w,m,rfl,h.rd 0 v w rfl rfl,by simpa using h.len,fun k x y a b=>h.rd (k+1) x y (by simpa using a) (by simpa using b)⟩
theorem iT.app{l l2:List V}{m m2:List Value} (h:iT c Sz C l m) (k:iT c Sz C l2 m2):iT c Sz C (l++l2) (m++m2):=by
 refine⟨by simp [h.len,k.len],fun j x y a b=>?_⟩;have hl:=h.len;by_cases hj:j<l.length
 ·rw [List.getElem?_append_left hj]at a
  rw [List.getElem?_append_left (by omega)]at b;exact h.rd j x y a b
 ·rw [List.getElem?_append_right (by omega)]at a b
  exact k.rd _ x y a (by rw [hl];exact b)
theorem iT.take{l:List V}{m:List Value} (h:iT c Sz C l m) (n:Nat):iT c Sz C (l.take n) (m.take n):=by
 refine⟨by simp [h.len],fun j x y a b=>?_⟩;rw [List.getElem?_take]at a b;split at a
 ·rename_i hj;rw [if_pos hj]at b;exact h.rd j x y a b
 ·cases a
theorem iT.drop{l:List V}{m:List Value} (h:iT c Sz C l m) (n:Nat):iT c Sz C (l.drop n) (m.drop n):=by
 refine⟨by simp [h.len],fun j x y a b=>?_⟩;rw [List.getElem?_drop]at a b;exact h.rd _ x y a b
theorem iT.splice{l n:List V}{m n':List Value} (h:iT c Sz C l m) (k:iT c Sz C n n') (o:Nat):iT c Sz C (Am.splice o n l) (Am.splice o n' m):=by
 unfold Am.splice;rw [<-k.len];exact((h.take o).app k).app (h.drop _)
theorem iT.get{l:List V}{m:List Value} (h:iT c Sz C l m){k:Nat}{v:V} (hv:l[k]? =some v):∃w,m[k]? =some w/\dX c Sz C v w:=by
 have hk:k<m.length:=by rw [<-h.len];exact(List.getElem?_eq_some_iff.1 hv).1
 exact⟨m[k],List.getElem?_eq_getElem hk,h.rd k v _ hv (List.getElem?_eq_getElem hk)⟩
theorem iT.flatten{l:List V}{m:List Value} (h:iT c Sz C l m) (n:Nat):iT c Sz C (List.replicate n l).flatten (List.replicate n m).flatten:=by
 induction n with
 | zero=>exact .nil
 | succ n ih=>simp only [List.replicate_succ,List.flatten_cons];exact h.app ih
theorem Ip{v:Value}{x:V} (h:ofV v=some x):aY v=true:=by
 unfold ofV at h;split at h<;>first | rfl | cases h
theorem aAx{v:Value}{x:V} (h:ofV v=some x):dX c Sz C x v:=by
 unfold ofV at h;split at h<;>first | (injection h with h;subst h;first | exact .int | exact .bool | exact .str | exact .PS | exact .nil | exact .XX | exact .VZ | exact .XY) | cases h
theorem IS:∀{z:List Value} {l:List V},AK z=some l->iT c Sz C l z:=by
 intro z;induction z with
 | nil=>intro l h;simp [AK]at h;subst h;exact .nil
 | cons v z ih=>
  intro l h;unfold AK at h;split at h
  ·rename_i x hx
   split at h
   ·rename_i xs hxs
    injection h with h;subst h;exact .cons (aAx hx) (ih hxs)
   ·cases h
  ·cases h
end
theorem aE2{c:Cx}{Sz:St}{C:Nat->Prop}{O:Tag}{d:Dt}{w:Value} (h:RE Sz C d w) (ht:HX c Sz C O w):dX c Sz C (T O d) w:=by
 cases h with
 | int=>exact .int
 | bool=>exact .bool
 | str=>exact .str
 | nil=>exact .list ht .nil
 | emp=>exact .list ht .emp
 | row a b e f g i j=>exact .list ht (.row a b e f g i j)
def EK (es:List MapEntry) (ck:Nat):Prop:=(es.map (·.born)).Pairwise (· < ·)/\∀e∈es,e.born<ck
theorem EK.app{es:List MapEntry}{ck:Nat} (b:EK es ck){e:MapEntry} (he:e.born=ck):EK (es++[e]) (ck+1):=by
 refine⟨?_,fun x hx=>?_⟩
 ·rw [List.map_append,List.pairwise_append]
  refine⟨b.1,by simp,fun x hx y hy=>?_⟩;obtain⟨z,hz,rfl⟩:=List.mem_map.1 hx;simp at hy;subst hy;rw [he];exact b.2 z hz
 ·rcases List.mem_append.1 hx with hx | hx
  ·have:=b.2 x hx;omega
  ·simp at hx;subst hx;omega
theorem EK.set{es:List MapEntry}{ck:Nat} (b:EK es ck){j:Nat}{e e2:MapEntry} (hj:es[j]? =some e) (he:e2.born=e.born):EK (es.set j e2) ck:=by
 have hm:(es.set j e2).map (·.born)=es.map (·.born):=by
  apply List.ext_getElem?;intro k;rw [List.getElem?_map,List.getElem?_map,List.getElem?_set];split
  ·rename_i h;subst h
   have hlt:=(List.getElem?_eq_some_iff.1 hj).1;rw [if_pos hlt,hj];simp [he]
  ·rfl
 refine⟨by rw [hm];exact b.1,fun x hx=>?_⟩;obtain⟨k,hk⟩:=List.getElem?_of_mem hx;have h1:((es.set j e2).map (·.born))[k]? =some x.born:=by rw [List.getElem?_map,hk];rfl
 rw [hm,List.getElem?_map]at h1;cases hq:es[k]? with
 | none=>rw [hq]at h1;cases h1
 | some y=>
  rw [hq]at h1;simp at h1;rw [<-h1];exact b.2 y (List.mem_of_getElem? hq)
def ObR (c:Cx) (Sz:St) (C:Nat->Prop) (o:Ob) (a:fD):Prop:=match o with
 | .row vs t=>∃ws,a= .cells ws t .exact/\iT c Sz C vs ws
 | .dF _ _ _=>False
 | .map es=>∃es' clock,a= .map es' clock/\EK es' clock/\es.length=es'.length/\∀(k:Nat) (x:V×V) (y:MapEntry),es[k]? =some x->es'[k]? =some y->dX c Sz C x.1 y.key/\dX c Sz C x.2 y.val
 | .loop ls vs n ps as bo st pe=>∃T,a= .loop T ps as bo st pe/\n=T.n/\vs.length=ls.length/\∀(j i:Nat) (v:V),ls[j]? =some i->vs[j]? =some v->∃w,T.t.get i=some w/\dX c Sz C v w
theorem ObR.mono'{c d:Cx}{Sz S':St}{C C':Nat->Prop} (l:c.le0 d) (f:Fc C Sz S' C'){o:Ob}{a:fD} (h:ObR c Sz C o a):ObR d S' C' o a:=by
 cases o with
 | row vs t=>obtain⟨ws,e,r⟩:=h;exact⟨ws,e,r.mono' l f⟩
 | dF=>exact h
 | map es=>
  obtain⟨es',k,e,hb,hl,r⟩:=h;exact⟨es',k,e,hb,hl,fun i x y p q=>⟨(r i x y p q).1.mono' l f,(r i x y p q).2.mono' l f⟩⟩
 | loop ls vs n ps as bo st pe=>
  obtain⟨T,e,hn,q,r⟩:=h;exact⟨T,e,hn,q,fun j i v p p2=>let⟨w,a,b⟩:=r j i v p p2;⟨w,a,b.mono' l f⟩⟩
theorem ObR.mono{c d:Cx}{Sz S':St}{C C':Nat->Prop} (l:c.le d) (f:vG C Sz S' C'){o:Ob}{a:fD} (h:ObR c Sz C o a):ObR d S' C' o a:=h.mono' l.to0 (.of f)
def oV (c:Cx) (h:Hp) (i b:Nat):Prop:=(∃o,h i=some o/\Ij o=false/\c.Zz i=some b)\/∃vs t n m,h i=some (.dF vs t n)/\c.Gz i m=some (.slice (some ⟨b,0,some 0⟩) m m)
section
variable (P:Program) (B:Nat->Prop) (Sb:St)
def cJ (c:Cx) (h:Hp):Nat->Prop:=fun b=>B b\/∃i,oV c h i b
structure VS (c:Cx) (h:Hp) (Sz:St):Prop where
 base:DW Sb Sz
 bB:∀b,B b->b<Sb.n
 ob:∀i o,h i=some o->Ij o=false->∃b a,c.Zz i=some b/\Sb.n<=b/\b<Sz.n/\Sz.obj b=some a/\ObR c Sz (cJ B c h) o a
 dF:∀i vs t n,h i=some (.dF vs t n)->∃b ws olds sz,c.Gz i n=some (.slice (some ⟨b,0,some 0⟩) n n)/\Sb.n<=b/\b<Sz.n/\Sz.obj b=some (.cells ws t (.grown olds))/\iT c Sz (cJ B c h) vs ws/\bL P t=some sz/\vs.length=n*sz/\∀m,n<m->c.Gz i m=none
 inj:∀i j b,oV c h i b->oV c h j b->i=j
 Gs:∀i n w,c.Gz i n=some w->∃b,w= .slice (some ⟨b,0,some 0⟩) n n
 room:∃N,∀i,N<=i->h i=none/\c.Zz i=none/\∀n,c.Gz i n=none
 KI:∃M,∀k,M<=k->c.Yz k=none
 Gb:∀i vs t n m b,h i=some (.dF vs t n)->c.Gz i m=some (.slice (some ⟨b,0,some 0⟩) m m)->Sb.n<=b/\b<Sz.n
 old:∀i vs t n b ws e olds,h i=some (.dF vs t n)->c.Gz i n=some (.slice (some ⟨b,0,some 0⟩) n n)->Sz.obj b=some (.cells ws e (.grown olds))->∀x∈olds,∃m,c.Gz i m=some (.slice (some ⟨x,0,some 0⟩) m m)
end
section
variable{P:Program}{B:Nat->Prop}{Sb:St}{c d:Cx}{h h':Hp}{Sz S':St}
theorem VS.row (s:VS P B Sb c h Sz) (i:Nat) (vs:List V) (t:TypeId) (e:h i=some (.row vs t)):∃b ws,c.Zz i=some b/\Sb.n<=b/\b<Sz.n/\Sz.obj b=some (.cells ws t .exact)/\iT c Sz (cJ B c h) vs ws:=by
 obtain⟨b,a,a1,a2,a3,a4,ws,rfl,a5⟩:=s.ob i _ e rfl;exact⟨b,ws,a1,a2,a3,a4,a5⟩
theorem VS.bd (s:VS P B Sb c h Sz){i b:Nat} (l:oV c h i b):Sb.n<=b/\b<Sz.n:=by
 rcases l with ⟨o,e1,eg,e2⟩ | ⟨vs,t,n,m,e1,e2⟩
 ·obtain⟨b',ws,a1,a2,a3,_⟩:=s.ob i o e1 eg
  rw [e2]at a1;injection a1 with a1;subst a1;exact⟨a2,a3⟩
 ·exact s.Gb i vs t n m b e1 e2
theorem VS.fresh (s:VS P B Sb c h Sz):∃i,h i=none/\c.Zz i=none/\∀n,c.Gz i n=none:=by
 obtain⟨N,hN⟩:=s.room;exact⟨N,hN N (Nat.le_refl _)⟩
theorem VS.Ts (s:VS P B Sb c h Sz){b:Nat} (l:cJ B c h b):b<Sz.n:=by
 rcases l with l | ⟨i,l⟩
 ·exact Nat.lt_of_lt_of_le (s.bB b l) s.base.n
 ·exact(s.bd l).2
def Cx.putZ (c:Cx) (i b:Nat):Cx:=⟨fun j=>if j=i then some b else c.Zz j,c.Gz,c.Yz,c.n0⟩
def Cx.putG (c:Cx) (i n:Nat) (w:Value):Cx:=⟨c.Zz,fun j m=>if j=i/\m=n then some w else c.Gz j m,c.Yz,c.n0⟩
theorem Cx.putZ_le{i b:Nat} (hi:c.Zz i=none):c.le (c.putZ i b):=by
 refine⟨fun j x e=>?_,fun _ _ _ e=>e,fun _ _ e=>e,rfl⟩;show(if j=i then some b else c.Zz j)=some x;rw [if_neg (fun e2=>by subst e2;rw [hi]at e;cases e)];exact e
theorem Cx.putG_le{i n:Nat}{w:Value} (hi:c.Gz i n=none):c.le (c.putG i n w):=by
 refine⟨fun _ _ e=>e,fun j m x e=>?_,fun _ _ e=>e,rfl⟩;show(if j=i/\m=n then some w else c.Gz j m)=some x;rw [if_neg (fun e2=>by obtain⟨rfl,rfl⟩:=e2;rw [hi]at e;cases e)];exact e
theorem upd_same{i:Nat}{o:Ob}:upd h i o i=some o:=if_pos rfl
theorem aB{i j:Nat}{o:Ob} (e:j≠i):upd h i o j=h j:=if_neg e
theorem VS.aAy (s:VS P B Sb c h Sz){i:Nat} (_h0:h i=none) (h1:c.Zz i=none) (_h2:∀n,c.Gz i n=none){o:Ob}{ao:fD} (hg:Ij o=false) (ho:∀d S' C',c.le d->vG (cJ B c h) Sz S' C'->ObR d S' C' o ao):
 VS P B Sb (c.putZ i Sz.n) (upd h i o) (Sz.new ao)/\c.le (c.putZ i Sz.n)/\vG (cJ B c h) Sz (Sz.new ao) (cJ B (c.putZ i Sz.n) (upd h i o))/\(c.putZ i Sz.n).Zz i=some Sz.n:=by
 have le:=Cx.putZ_le (c:=c) (i:=i) (b:=Sz.n) h1
 have LN:∀j b,oV (c.putZ i Sz.n) (upd h i o) j b->(j=i/\b=Sz.n)\/(j≠i/\oV c h j b):=by
  intro j b l;by_cases e:j=i
  ·subst e
   rcases l with ⟨o',_,_,e2⟩ | ⟨vs',t',n,m,e1,e2⟩
   ·have:(if j=j then some Sz.n else c.Zz j)=some b:=e2
    rw [if_pos rfl]at this;injection this with this;exact .inl ⟨rfl,this.symm⟩
   ·rw [upd_same]at e1;injection e1 with e1;subst e1;cases hg
  ·refine .inr ⟨e,?_⟩
   rcases l with ⟨o',e1,eg,e2⟩ | ⟨vs',t',n,m,e1,e2⟩
   ·rw [aB e]at e1
    have e2:(if j=i then some Sz.n else c.Zz j)=some b:=e2;rw [if_neg e]at e2;exact .inl ⟨o',e1,eg,e2⟩
   ·rw [aB e]at e1
    exact .inr ⟨vs',t',n,m,e1,e2⟩
 have fr:vG (cJ B c h) Sz (Sz.new ao) (cJ B (c.putZ i Sz.n) (upd h i o)):=by
  refine⟨Nat.le_succ _,fun j hj _=>eJ (Nat.ne_of_lt hj),fun b l=>?_⟩;rcases l with l | ⟨j,l⟩
  ·exact .inl (.inl l)
  ·rcases LN j b l with ⟨_,e⟩ | ⟨_,l⟩
   ·exact .inr (Nat.le_of_eq e.symm)
   ·exact .inl (.inr ⟨j,l⟩)
 refine⟨⟨s.base.trans (.new Sz _),s.bB,?_,?_,?_,s.Gs,?_,s.KI,?_,?_⟩,le,fr,if_pos rfl⟩
 ·intro j o' e eg
  by_cases e2:j=i
  ·subst e2
   rw [upd_same]at e;injection e with e;subst e;exact⟨Sz.n,ao,if_pos rfl,s.base.n,Nat.lt_succ_self _,oD,ho _ _ _ le fr⟩
  ·rw [aB e2]at e
   obtain⟨b,a',a1,a2,a3,a4,a5⟩:=s.ob j o' e eg;exact⟨b,a',le.Zz _ _ a1,a2,Nat.lt_succ_of_lt a3,by rw [eJ (by omega)];exact a4,a5.mono le fr⟩
 ·intro j vs' t' n e
  have e2:j≠i:=fun e2=>by subst e2;rw [upd_same]at e;injection e with e;subst e;cases hg
  rw [aB e2]at e;obtain⟨b,ws',olds,sz,a1,a2,a3,a4,a5,a6⟩:=s.dF j vs' t' n e;exact⟨b,ws',olds,sz,a1,a2,Nat.lt_succ_of_lt a3,by rw [eJ (by omega)];exact a4,a5.mono le fr,a6⟩
 ·intro j k b l1 l2
  rcases LN j b l1 with ⟨e1,e2⟩ | ⟨e1,l1⟩
  ·rcases LN k b l2 with ⟨e3,e4⟩ | ⟨e3,l2⟩
   ·rw [e1,e3]
   ·have:=(s.bd l2).2;omega
  ·rcases LN k b l2 with ⟨e3,e4⟩ | ⟨e3,l2⟩
   ·have:=(s.bd l1).2;omega
   ·exact s.inj j k b l1 l2
 ·obtain⟨N,hN⟩:=s.room
  refine⟨max N (i+1),fun j hj=>?_⟩;obtain⟨a1,a2,a3⟩:=hN j (by omega);exact⟨by rw [aB (by omega)];exact a1,by show(if j=i then _ else c.Zz j)=none;rw [if_neg (by omega)];exact a2,a3⟩
 ·intro j vs' t' n m b e e3
  have e2:j≠i:=fun e2=>by subst e2;rw [upd_same]at e;injection e with e;subst e;cases hg
  rw [aB e2]at e;obtain⟨q1,q2⟩:=s.Gb j vs' t' n m b e e3;exact⟨q1,Nat.lt_succ_of_lt q2⟩
 ·intro j vs' t' n b ws' e' olds e e3 e4
  have e2:j≠i:=fun e2=>by subst e2;rw [upd_same]at e;injection e with e;subst e;cases hg
  rw [aB e2]at e;rw [eJ (by have:=(s.Gb j vs' t' n n b e e3).2;omega)]at e4;exact s.old j vs' t' n b ws' e' olds e e3 e4
theorem VS.newRow (s:VS P B Sb c h Sz){i:Nat} (h0:h i=none) (h1:c.Zz i=none) (h2:∀n,c.Gz i n=none){vs:List V}{ws:List Value} (t:TypeId) (hv:iT c Sz (cJ B c h) vs ws):
 VS P B Sb (c.putZ i Sz.n) (upd h i (.row vs t)) (Sz.new (.cells ws t .exact))/\c.le (c.putZ i Sz.n)/\vG (cJ B c h) Sz (Sz.new (.cells ws t .exact)) (cJ B (c.putZ i Sz.n) (upd h i (.row vs t)))/\(c.putZ i Sz.n).Zz i=some Sz.n:=
 s.aAy h0 h1 h2 (o:= .row vs t) rfl fun _ _ _ l f=>⟨ws,rfl,hv.mono l f⟩
theorem VS.Iq (s:VS P B Sb c h Sz){i b:Nat}{o0 o:Ob} (h0:h i=some o0) (g0:Ij o0=false) (h1:c.Zz i=some b){ao:fD} (hg:Ij o=false) (ho:∀S' C',vG (cJ B c h) Sz S' C'->ObR c S' C' o ao):
 VS P B Sb c (upd h i o) (Sz.set b ao)/\vG (cJ B c h) Sz (Sz.set b ao) (cJ B c (upd h i o)):=by
 have hb:oV c h i b:= .inl ⟨o0,h0,g0,h1⟩;obtain⟨g1,g2⟩:=s.bd hb
 have LN:∀j x,oV c (upd h i o) j x->oV c h j x:=by
  intro j x l;by_cases e:j=i
  ·subst e
   rcases l with ⟨o',e1,eg,e2⟩ | ⟨vs2,t2,n,m,e1,e2⟩
   ·exact .inl ⟨o0,h0,g0,e2⟩
   ·rw [upd_same]at e1;injection e1 with e1;subst e1;cases hg
  ·rcases l with ⟨o',e1,eg,e2⟩ | ⟨vs2,t2,n,m,e1,e2⟩
   ·rw [aB e]at e1;exact .inl ⟨o',e1,eg,e2⟩
   ·rw [aB e]at e1;exact .inr ⟨vs2,t2,n,m,e1,e2⟩
 have fr:vG (cJ B c h) Sz (Sz.set b ao) (cJ B c (upd h i o)):=by
  refine⟨Nat.le_refl _,fun j _ hc=>gL fun e=>hc (.inr ⟨i,e▸hb⟩),fun x l=>?_⟩;rcases l with l | ⟨j,l⟩
  ·exact .inl (.inl l)
  ·exact .inl (.inr ⟨j,LN j x l⟩)
 refine⟨⟨⟨s.base.n,fun j hj=>?_⟩,s.bB,?_,?_,fun j k x l1 l2=>s.inj j k x (LN j x l1) (LN k x l2),s.Gs,?_,s.KI,?_,?_⟩,fr⟩
 ·rw [gL (by omega)];exact s.base.same j hj
 ·intro j o' e eg
  by_cases e2:j=i
  ·subst e2
   rw [upd_same]at e;injection e with e;subst e;exact⟨b,ao,h1,g1,g2,Cb,ho _ _ fr⟩
  ·rw [aB e2]at e
   obtain⟨x,a',a1,a2,a3,a4,a5⟩:=s.ob j o' e eg;have:x≠b:=fun e3=>e2 (s.inj j i b (.inl ⟨o',e,eg,e3▸a1⟩) hb);exact⟨x,a',a1,a2,a3,by rw [gL this];exact a4,a5.mono (.refl c) fr⟩
 ·intro j vs2 t2 n e
  have e2:j≠i:=fun e2=>by subst e2;rw [upd_same]at e;injection e with e;subst e;cases hg
  rw [aB e2]at e;obtain⟨x,ws2,olds,sz,a1,a2,a3,a4,a5,a6⟩:=s.dF j vs2 t2 n e;have:x≠b:=fun e3=>e2 (s.inj j i b (.inr ⟨vs2,t2,n,n,e,e3▸a1⟩) hb);exact⟨x,ws2,olds,sz,a1,a2,a3,by rw [gL this];exact a4,a5.mono (.refl c) fr,a6⟩
 ·obtain⟨N,hN⟩:=s.room
  refine⟨N,fun j hj=>?_⟩;obtain⟨a1,a2,a3⟩:=hN j hj;have:j≠i:=fun e=>by subst e;rw [h0]at a1;cases a1
  exact⟨by rw [aB this];exact a1,a2,a3⟩
 ·intro j vs2 t2 n m x e e3
  have e2:j≠i:=fun e2=>by subst e2;rw [upd_same]at e;injection e with e;subst e;cases hg
  rw [aB e2]at e;exact s.Gb j vs2 t2 n m x e e3
 ·intro j vs2 t2 n x ws' e' olds e e3 e4
  have e2:j≠i:=fun e2=>by subst e2;rw [upd_same]at e;injection e with e;subst e;cases hg
  rw [aB e2]at e;have:x≠b:=fun e5=>e2 (s.inj j i b (.inr ⟨vs2,t2,n,n,e,e5▸e3⟩) hb);rw [gL this]at e4;exact s.old j vs2 t2 n x ws' e' olds e e3 e4
theorem VS.setRow (s:VS P B Sb c h Sz){i b:Nat}{vs vs':List V}{t:TypeId} (h0:h i=some (.row vs t)) (h1:c.Zz i=some b){ws':List Value} (hv:iT c Sz (cJ B c h) vs' ws'):
 VS P B Sb c (upd h i (.row vs' t)) (Sz.set b (.cells ws' t .exact))/\vG (cJ B c h) Sz (Sz.set b (.cells ws' t .exact)) (cJ B c (upd h i (.row vs' t))):=
 s.Iq h0 rfl h1 (o:= .row vs' t) rfl fun _ _ f=>⟨ws',rfl,hv.mono (.refl c) f⟩
theorem VS.drop (s:VS P B Sb c h Sz) (l:bE h' h):VS P B Sb c h' Sz/\vG (cJ B c h) Sz Sz (cJ B c h'):=by
 have LN:∀j x,oV c h' j x->oV c h j x:=by
  intro j x k;rcases k with ⟨o,e1,eg,e2⟩ | ⟨vs2,t2,n,m,e1,e2⟩
  ·exact .inl ⟨o,l _ _ e1,eg,e2⟩
  ·exact .inr ⟨vs2,t2,n,m,l _ _ e1,e2⟩
 have fr:vG (cJ B c h) Sz Sz (cJ B c h'):=by
  refine⟨Nat.le_refl _,fun _ _ _=>rfl,fun x k=>?_⟩;rcases k with k | ⟨j,k⟩
  ·exact .inl (.inl k)
  ·exact .inl (.inr ⟨j,LN j x k⟩)
 refine⟨⟨s.base,s.bB,fun i o e eg=>?_,fun i vs t n e=>?_,fun j k x l1 l2=>s.inj j k x (LN j x l1) (LN k x l2),s.Gs,?_,s.KI,fun i vs t n m b e e3=>s.Gb i vs t n m b (l _ _ e) e3,fun i vs t n b ws e' olds e e3 e4=>s.old i vs t n b ws e' olds (l _ _ e) e3 e4⟩,fr⟩
 ·obtain⟨b,ws,a1,a2,a3,a4,a5⟩:=s.ob i o (l _ _ e) eg
  exact⟨b,ws,a1,a2,a3,a4,a5.mono (.refl c) fr⟩
 ·obtain⟨b,ws,olds,sz,a1,a2,a3,a4,a5,a6⟩:=s.dF i vs t n (l _ _ e)
  exact⟨b,ws,olds,sz,a1,a2,a3,a4,a5.mono (.refl c) fr,a6⟩
 ·obtain⟨N,hN⟩:=s.room
  refine⟨N,fun j hj=>?_⟩;obtain⟨a1,a2,a3⟩:=hN j hj;refine⟨?_,a2,a3⟩;cases e:h' j with
  | none=>rfl
  | some o=>rw [l _ _ e]at a1;cases a1
theorem VS.Ox (s:VS P B Sb c h Sz) (l:bE h' h){v:V}{x:Dt} (k:QV h' h v x):∀{w:Value},dX c Sz (cJ B c h) v w->RE Sz (cJ B c h') x w:=by
 have fr:=(s.drop l).2
 have dead:∀{i b:Nat},oV c h i b->h' i=none->¬cJ B c h' b:=by
  intro i b l1 hn l2;rcases l2 with l2 | ⟨j,l2⟩
  ·have:=s.bB b l2;have:=(s.bd l1).1;omega
  ·have l3:oV c h j b:=by
    rcases l2 with ⟨o,e1,eg,e2⟩ | ⟨vs2,t2,n,m,e1,e2⟩
    ·exact .inl ⟨o,l _ _ e1,eg,e2⟩
    ·exact .inr ⟨vs2,t2,n,m,l _ _ e1,e2⟩
   have e:=s.inj i j b l1 l3;subst e;rcases l2 with ⟨o,e1,eg,e2⟩ | ⟨vs2,t2,n,m,e1,e2⟩<;>(rw [hn]at e1;cases e1)
 induction k with
 | int=>intro w q;cases q;exact .int
 | bool=>intro w q;cases q;exact .bool
 | str=>intro w q;cases q;exact .str
 | list=>intro w q;cases q with | list ht hd=>exact hd.mono fr
 | nil=>intro w q;cases q;exact .nil
 | @acc i n vs t cs e hn hl hr ih=>
  intro w q;cases q with
  | acc q=>
   obtain⟨b,ws,olds,sz,a1,a2,a3,a4,a5,a6⟩:=s.dF i vs t n e;rw [a1]at q;injection q with q;subst q;refine .row rfl a3 (dead (.inr ⟨vs,t,n,n,e,a1⟩) hn) a4 (by have:=a5.len;omega) (Nat.le_refl _) fun j x v b1 b2=>?_;rw [Nat.zero_add]at b2;have hj:j<vs.length:=by have:=(List.getElem?_eq_some_iff.1 b1).1;omega
   exact ih j vs[j] x (List.getElem?_eq_getElem hj) b1 (a5.rd j _ v (List.getElem?_eq_getElem hj) b2)
 | @tW i n o k cc vs t cs e hn hc hl hr ih=>
  intro w q;cases q with
  | tW q=>
   obtain⟨b,ws,olds,sz,a1,a2,a3,a4,a5,a6⟩:=s.dF i vs t n e;rw [a1]at q;injection q with q;injection q with q;injection q with q;injection q with q;subst q;refine .row rfl a3 (dead (.inr ⟨vs,t,n,n,e,a1⟩) hn) a4 (by have:=a5.len;omega) hc fun j x v b1 b2=>?_;have hj:o+j<vs.length:=by have:=(List.getElem?_eq_some_iff.1 b1).1;omega
   exact ih j vs[o+j] x (List.getElem?_eq_getElem hj) b1 (a5.rd (o+j) _ v (List.getElem?_eq_getElem hj) b2)
 | @own i o n cc vs t cs e hn hc hl hr ih=>
  intro w q;cases q with
  | own q=>
   obtain⟨b,ws,a1,a2,a3,a4,a5⟩:=s.row i vs t e;rw [a1]at q;injection q with q;subst q;refine .row rfl a3 (dead (.inl ⟨_,e,rfl,a1⟩) hn) a4 (by have:=a5.len;omega) hc fun j x v b1 b2=>?_;have hj:o+j<vs.length:=by have:=(List.getElem?_eq_some_iff.1 b1).1;omega
   exact ih j vs[o+j] x (List.getElem?_eq_getElem hj) b1 (a5.rd (o+j) _ v (List.getElem?_eq_getElem hj) b2)
theorem VS.names (s:VS P B Sb c h Sz) (ws:List Value):∃(d:Cx) (O:Nat->Tag),c.le d/\VS P B Sb d h Sz/\cJ B d h=cJ B c h/\∀(k:Nat) (w:Value),ws[k]? =some w->HX d Sz (cJ B d h) (O k) w:=by
 obtain⟨M,hM⟩:=s.KI
 let d:Cx:=⟨c.Zz,c.Gz,fun k=>if k<M then c.Yz k else ws[k-M]?,c.n0⟩
 have le:c.le d:=by
  refine⟨fun _ _ e=>e,fun _ _ _ e=>e,fun k v e=>?_,rfl⟩;show(if k<M then c.Yz k else ws[k-M]?)=some v;by_cases hk:k<M
  ·rw [if_pos hk];exact e
  ·rw [hM k (by omega)]at e;cases e
 have fr:vG (cJ B c h) Sz Sz (cJ B d h):=⟨Nat.le_refl _,fun _ _ _=>rfl,fun _ k=> .inl k⟩;refine⟨d,fun k=> .root (M+k),le,⟨s.base,s.bB,fun i o e eg=>?_,fun i vs t n e=>?_,s.inj,s.Gs,s.room,⟨M+ws.length,fun k hk=>?_⟩,s.Gb,s.old⟩,rfl,fun k w e=> .root ?_⟩
 ·obtain⟨b,ws,a1,a2,a3,a4,a5⟩:=s.ob i o e eg
  exact⟨b,ws,a1,a2,a3,a4,a5.mono le fr⟩
 ·obtain⟨b,ws,olds,sz,a1,a2,a3,a4,a5,a6⟩:=s.dF i vs t n e
  exact⟨b,ws,olds,sz,a1,a2,a3,a4,a5.mono le fr,a6⟩
 ·show(if k<M then c.Yz k else ws[k-M]?)=none
  rw [if_neg (by omega),List.getElem?_eq_none (by omega)]
 ·show(if M+k<M then c.Yz (M+k)else ws[M+k-M]?)=some w
  rw [if_neg (by omega),Nat.add_sub_cancel_left];exact e
theorem VS.aAz (s:VS P B Sb c h Sz){i:Nat} (h0:h i=none) (h1:c.Zz i=none) (h2:∀n,c.Gz i n=none){vs:List V}{ws:List Value}{t:TypeId}{sz n:Nat} (hs:bL P t=some sz) (hn:vs.length=n*sz) (hv:iT c Sz (cJ B c h) vs ws):
 let w:Value:= .slice (some ⟨Sz.n,0,some 0⟩) n n
 VS P B Sb (c.putG i n w) (upd h i (.dF vs t n)) (Sz.new (.cells ws t (.grown [])))/\c.le (c.putG i n w)/\vG (cJ B c h) Sz (Sz.new (.cells ws t (.grown []))) (cJ B (c.putG i n w) (upd h i (.dF vs t n)))/\(c.putG i n w).Gz i n=some w:=by
 intro w;have le:=Cx.putG_le (c:=c) (i:=i) (n:=n) (w:=w) (h2 n)
 have LN:∀j b,oV (c.putG i n w) (upd h i (.dF vs t n)) j b->(j=i/\b=Sz.n)\/(j≠i/\oV c h j b):=by
  intro j b l;by_cases e:j=i
  ·subst e
   rcases l with ⟨o',e1,eg,e2⟩ | ⟨vs',t',n',m,e1,e2⟩
   ·rw [upd_same]at e1;injection e1 with e1;subst e1;cases eg
   ·have e2:(if j=j/\m=n then some w else c.Gz j m)=_:=e2
    by_cases hm:m=n
    ·rw [if_pos ⟨rfl,hm⟩]at e2
     injection e2 with e2;injection e2 with e2;injection e2 with e2;injection e2 with e2;exact .inl ⟨rfl,e2.symm⟩
    ·rw [if_neg (fun x=>hm x.2),h2]at e2;cases e2
  ·refine .inr ⟨e,?_⟩
   rcases l with ⟨o',e1,eg,e2⟩ | ⟨vs',t',n',m,e1,e2⟩
   ·rw [aB e]at e1
    exact .inl ⟨o',e1,eg,e2⟩
   ·rw [aB e]at e1
    have e2:(if j=i/\m=n then some w else c.Gz j m)=_:=e2;rw [if_neg (fun x=>e x.1)]at e2;exact .inr ⟨vs',t',n',m,e1,e2⟩
 have fr:vG (cJ B c h) Sz (Sz.new (.cells ws t (.grown []))) (cJ B (c.putG i n w) (upd h i (.dF vs t n))):=by
  refine⟨Nat.le_succ _,fun j hj _=>eJ (Nat.ne_of_lt hj),fun b l=>?_⟩;rcases l with l | ⟨j,l⟩
  ·exact .inl (.inl l)
  ·rcases LN j b l with ⟨_,e⟩ | ⟨_,l⟩
   ·exact .inr (Nat.le_of_eq e.symm)
   ·exact .inl (.inr ⟨j,l⟩)
 refine⟨⟨s.base.trans (.new Sz _),s.bB,?_,?_,?_,?_,?_,s.KI,?_,?_⟩,le,fr,if_pos ⟨rfl,rfl⟩⟩
 ·intro j o' e eg
  have e2:j≠i:=fun e2=>by subst e2;rw [upd_same]at e;injection e with e;subst e;cases eg
  rw [aB e2]at e;obtain⟨b,ws',a1,a2,a3,a4,a5⟩:=s.ob j o' e eg;exact⟨b,ws',a1,a2,Nat.lt_succ_of_lt a3,by rw [eJ (by omega)];exact a4,a5.mono le fr⟩
 ·intro j vs' t' m e
  by_cases e2:j=i
  ·subst e2
   rw [upd_same]at e;injection e with e;injection e with e3 e4 e5;subst e3 e4 e5;refine⟨Sz.n,ws,[],sz,if_pos ⟨rfl,rfl⟩,s.base.n,Nat.lt_succ_self _,oD,hv.mono le fr,hs,hn,fun m hm=>?_⟩;show(if j=j/\m=n then some w else c.Gz j m)=none;rw [if_neg (fun x=>by omega)];exact h2 m
  ·rw [aB e2]at e
   obtain⟨b,ws',olds,sz',a1,a2,a3,a4,a5,a6,a7,a8⟩:=s.dF j vs' t' m e;refine⟨b,ws',olds,sz',le.Gz _ _ _ a1,a2,Nat.lt_succ_of_lt a3,by rw [eJ (by omega)];exact a4,a5.mono le fr,a6,a7,fun q hq=>?_⟩;show(if j=i/\q=n then some w else c.Gz j q)=none;rw [if_neg (fun x=>e2 x.1)];exact a8 q hq
 ·intro j k b l1 l2
  rcases LN j b l1 with ⟨e1,e2⟩ | ⟨e1,l1⟩
  ·rcases LN k b l2 with ⟨e3,e4⟩ | ⟨e3,l2⟩
   ·rw [e1,e3]
   ·have:=(s.bd l2).2;omega
  ·rcases LN k b l2 with ⟨e3,e4⟩ | ⟨e3,l2⟩
   ·have:=(s.bd l1).2;omega
   ·exact s.inj j k b l1 l2
 ·intro j m u e
  have e:(if j=i/\m=n then some w else c.Gz j m)=some u:=e;by_cases e2:j=i/\m=n
  ·rw [if_pos e2]at e;injection e with e;exact⟨Sz.n,by rw [<-e,e2.2]⟩
  ·rw [if_neg e2]at e;exact s.Gs j m u e
 ·obtain⟨N,hN⟩:=s.room
  refine⟨max N (i+1),fun j hj=>?_⟩;obtain⟨a1,a2,a3⟩:=hN j (by omega);exact⟨by rw [aB (by omega)];exact a1,a2,fun m=>by show(if j=i/\m=n then some w else c.Gz j m)=none;rw [if_neg (fun x=>by omega)];exact a3 m⟩
 ·intro j vs' t' n' m b e e3
  have e3:(if j=i/\m=n then some w else c.Gz j m)=_:=e3;by_cases e2:j=i/\m=n
  ·rw [if_pos e2]at e3
   injection e3 with e3;injection e3 with e3;injection e3 with e3;injection e3 with e3;rw [<-e3];exact⟨s.base.n,Nat.lt_succ_self _⟩
  ·rw [if_neg e2]at e3
   by_cases e4:j=i
   ·have e5:=e4▸h2 m;rw [e5]at e3;cases e3
   ·rw [aB e4]at e
    obtain⟨q1,q2⟩:=s.Gb j vs' t' n' m b e e3;exact⟨q1,Nat.lt_succ_of_lt q2⟩
 ·intro j vs' t' n' b ws' e' olds e e3 e5 x hx
  have e3:(if j=i/\n'=n then some w else c.Gz j n')=_:=e3;by_cases e4:j=i
  ·subst e4
   by_cases e6:n'=n
   ·rw [if_pos ⟨rfl,e6⟩]at e3
    injection e3 with e3;injection e3 with e3;injection e3 with e3;injection e3 with e3;rw [<-e3,oD]at e5;injection e5 with e5;injection e5 with _ _ e5;injection e5 with e5;rw [<-e5]at hx;cases hx
   ·rw [if_neg (fun x=>e6 x.2),h2]at e3;cases e3
  ·rw [if_neg (fun x=>e4 x.1)]at e3
   rw [aB e4]at e;rw [eJ (by have:=(s.Gb j vs' t' n' n' b e e3).2;omega)]at e5;obtain⟨m,hm⟩:=s.old j vs' t' n' b ws' e' olds e e3 e5 x hx;exact⟨m,le.Gz _ _ _ hm⟩
theorem VS.aCD (s:VS P B Sb c h Sz){i n m b:Nat}{vs nv:List V}{t:TypeId}{sz:Nat}{ws nw:List Value}{olds:List Nat} (h0:h i=some (.dF vs t n)) (hb:c.Gz i n=some (.slice (some ⟨b,0,some 0⟩) n n)) (ho:Sz.obj b=some (.cells ws t (.grown olds))) (hs:bL P t=some sz)
 (hn:nv.length=m*sz) (hm:0<m) (hvs:vs.length=n*sz) (hvw:iT c Sz (cJ B c h) vs ws) (hv:iT c Sz (cJ B c h) nv nw):
 let w:Value:= .slice (some ⟨Sz.n,0,some 0⟩) (n+m) (n+m)
 let S':=(Sz.set b (.cells ws t .stale)).new (.cells (ws++nw) t (.grown (b::olds)))
 VS P B Sb (c.putG i (n+m) w) (upd h i (.dF (vs++nv) t (n+m))) S'/\c.le (c.putG i (n+m) w)/\vG (cJ B c h) Sz S' (cJ B (c.putG i (n+m) w) (upd h i (.dF (vs++nv) t (n+m))))/\(c.putG i (n+m) w).Gz i (n+m)=some w:=by
 intro w S';obtain⟨b',_,_,_,q1,_,_,_,_,_,_,q8⟩:=s.dF i vs t n h0;have hlb:oV c h i b:= .inr ⟨vs,t,n,n,h0,hb⟩;obtain⟨g1,g2⟩:=s.bd hlb;have le:=Cx.putG_le (c:=c) (i:=i) (n:=n+m) (w:=w) (q8 _ (by omega));have hSn:(Sz.set b (.cells ws t .stale)).n=Sz.n:=rfl
 have LN:∀j x,oV (c.putG i (n+m) w) (upd h i (.dF (vs++nv) t (n+m))) j x->(j=i/\x=Sz.n)\/oV c h j x:=by
  intro j x l;by_cases e:j=i
  ·subst e
   rcases l with ⟨o',e1,eg,e2⟩ | ⟨vs',t',n',k,e1,e2⟩
   ·rw [upd_same]at e1;injection e1 with e1;subst e1;cases eg
   ·have e2:(if j=j/\k=n+m then some w else c.Gz j k)=_:=e2
    by_cases hk:k=n+m
    ·rw [if_pos ⟨rfl,hk⟩]at e2
     injection e2 with e2;injection e2 with e2;injection e2 with e2;injection e2 with e2;exact .inl ⟨rfl,e2.symm⟩
    ·rw [if_neg (fun x=>hk x.2)]at e2
     exact .inr (.inr ⟨vs,t,n,k,h0,e2⟩)
  ·refine .inr ?_
   rcases l with ⟨o',e1,eg,e2⟩ | ⟨vs',t',n',k,e1,e2⟩
   ·rw [aB e]at e1
    exact .inl ⟨o',e1,eg,e2⟩
   ·rw [aB e]at e1
    have e2:(if j=i/\k=n+m then some w else c.Gz j k)=_:=e2;rw [if_neg (fun x=>e x.1)]at e2;exact .inr ⟨vs',t',n',k,e1,e2⟩
 have fr:vG (cJ B c h) Sz S' (cJ B (c.putG i (n+m) w) (upd h i (.dF (vs++nv) t (n+m)))):=by
  refine⟨Nat.le_succ _,fun j hj hc=>?_,fun x l=>?_⟩
  ·show((Sz.set b _).new _).obj j=_
   rw [eJ (by rw [hSn];omega),gL (show j≠b from fun e=>hc (.inr ⟨i,e▸hlb⟩))]
  ·rcases l with l | ⟨j,l⟩
   ·exact .inl (.inl l)
   ·rcases LN j x l with ⟨_,e⟩ | l
    ·exact .inr (Nat.le_of_eq e.symm)
    ·exact .inl (.inr ⟨j,l⟩)
 have Hz:∀j x,j≠i->oV c h j x->S'.obj x=Sz.obj x:=fun j x e l=>by
  have:x≠b:=fun e3=>e (s.inj j i b (e3▸l) hlb);show((Sz.set b _).new _).obj x=_;rw [eJ (by rw [hSn];have:=(s.bd l).2;omega),gL this]
 refine⟨⟨⟨Nat.le_succ_of_le s.base.n,fun j hj=>?_⟩,s.bB,?_,?_,?_,?_,?_,s.KI,?_,?_⟩,le,fr,if_pos ⟨rfl,rfl⟩⟩
 ·have:=s.base.n
  show((Sz.set b _).new _).obj j=_;rw [eJ (by rw [hSn];omega),gL (by omega)];exact s.base.same j hj
 ·intro j o' e eg
  have e2:j≠i:=fun e2=>by subst e2;rw [upd_same]at e;injection e with e;subst e;cases eg
  rw [aB e2]at e;obtain⟨x,ws',a1,a2,a3,a4,a5⟩:=s.ob j o' e eg;exact⟨x,ws',a1,a2,Nat.lt_succ_of_lt a3,by rw [Hz j x e2 (.inl ⟨o',e,eg,a1⟩)];exact a4,a5.mono le fr⟩
 ·intro j vs' t' k e
  by_cases e2:j=i
  ·subst e2
   rw [upd_same]at e;injection e with e;injection e with e3 e4 e5;subst e3 e4 e5;refine⟨Sz.n,ws++nw,b::olds,sz,if_pos ⟨rfl,rfl⟩,s.base.n,Nat.lt_succ_self _,?_,(hvw.app hv).mono le fr,hs,by rw [List.length_append,hvs,hn,Nat.add_mul],fun q hq=>?_⟩
   ·show((Sz.set b _).new _).obj (Sz.set b (.cells ws t .stale)).n=_
    exact oD
   ·show(if j=j/\q=n+m then some w else c.Gz j q)=none
    rw [if_neg (fun x=>by omega)];exact q8 q (by omega)
  ·rw [aB e2]at e
   obtain⟨x,ws',olds',sz',a1,a2,a3,a4,a5,a6,a7,a8⟩:=s.dF j vs' t' k e;refine⟨x,ws',olds',sz',le.Gz _ _ _ a1,a2,Nat.lt_succ_of_lt a3,by rw [Hz j x e2 (.inr ⟨vs',t',k,k,e,a1⟩)];exact a4,a5.mono le fr,a6,a7,fun q hq=>?_⟩;show(if j=i/\q=n+m then some w else c.Gz j q)=none;rw [if_neg (fun x=>e2 x.1)];exact a8 q hq
 ·intro j k x l1 l2
  rcases LN j x l1 with ⟨e1,e2⟩ | l1
  ·rcases LN k x l2 with ⟨e3,e4⟩ | l2
   ·rw [e1,e3]
   ·have:=(s.bd l2).2;omega
  ·rcases LN k x l2 with ⟨e3,e4⟩ | l2
   ·have:=(s.bd l1).2;omega
   ·exact s.inj j k x l1 l2
 ·intro j k u e
  have e:(if j=i/\k=n+m then some w else c.Gz j k)=some u:=e;by_cases e2:j=i/\k=n+m
  ·rw [if_pos e2]at e;injection e with e;exact⟨Sz.n,by rw [<-e,e2.2]⟩
  ·rw [if_neg e2]at e;exact s.Gs j k u e
 ·obtain⟨N,hN⟩:=s.room
  refine⟨max N (i+1),fun j hj=>?_⟩;obtain⟨a1,a2,a3⟩:=hN j (by omega);exact⟨by rw [aB (by omega)];exact a1,a2,fun q=>by show(if j=i/\q=n+m then some w else c.Gz j q)=none;rw [if_neg (fun x=>by omega)];exact a3 q⟩
 ·intro j vs' t' n' k x e e3
  rcases LN j x (.inr ⟨vs',t',n',k,e,e3⟩)with ⟨_,e4⟩ | l
  ·rw [e4];exact⟨s.base.n,Nat.lt_succ_self _⟩
  ·obtain⟨q1,q2⟩:=s.bd l
   exact⟨q1,Nat.lt_succ_of_lt q2⟩
 ·intro j vs' t' n' x ws' e' olds' e e3 e5 y hy
  have e3:(if j=i/\n'=n+m then some w else c.Gz j n')=_:=e3;by_cases e4:j=i
  ·subst e4
   rw [upd_same]at e;injection e with e;injection e with _ _ e6;rw [if_pos ⟨rfl,e6.symm⟩]at e3;injection e3 with e3;injection e3 with e3;injection e3 with e3;injection e3 with e3
   have e7:S'.obj Sz.n=some (.cells (ws++nw) t (.grown (b::olds))):=by
    show((Sz.set b _).new _).obj (Sz.set b (.cells ws t .stale)).n=_;exact oD
   rw [<-e3,e7]at e5;injection e5 with e5;injection e5 with _ _ e5;injection e5 with e5;rw [<-e5]at hy;rcases List.mem_cons.1 hy with rfl | hy
   ·exact⟨n,le.Gz _ _ _ hb⟩
   ·obtain⟨q,hq⟩:=s.old j vs t n b ws t olds h0 hb ho y hy
    exact⟨q,le.Gz _ _ _ hq⟩
  ·rw [if_neg (fun x=>e4 x.1)]at e3
   rw [aB e4]at e;rw [Hz j x e4 (.inr ⟨vs',t',n',n',e,e3⟩)]at e5;obtain⟨q,hq⟩:=s.old j vs' t' n' x ws' e' olds' e e3 e5 y hy;exact⟨q,le.Gz _ _ _ hq⟩
theorem VS.aAA (s:VS P B Sb c h Sz){i n b:Nat}{vs vs':List V}{t:TypeId}{ws ws':List Value}{olds ol kl:List Nat} (hol:∀x∈ol,x∈olds) (hkl:∀x∈kl,x∈olds) (h0:h i=some (.dF vs t n)) (hb:c.Gz i n=some (.slice (some ⟨b,0,some 0⟩) n n)) (ho:Sz.obj b=some (.cells ws t (.grown olds))) (hl:vs'.length=vs.length) (hv:iT c Sz (cJ B c h) vs' ws'){S':St}
 (hn:S'.n=Sz.n) (hs:∀j,S'.obj j=if j=b then some (.cells ws' t (.grown ol))else if j∈kl then some .dead else Sz.obj j):
 VS P B Sb c (upd h i (.dF vs' t n)) S'/\vG (cJ B c h) Sz S' (cJ B c (upd h i (.dF vs' t n))):=by
 have hlb:oV c h i b:= .inr ⟨vs,t,n,n,h0,hb⟩
 have hold:∀x∈olds,oV c h i x:=fun x hx=>by
  obtain⟨m,hm⟩:=s.old i vs t n b ws t olds h0 hb ho x hx;exact .inr ⟨vs,t,n,m,h0,hm⟩
 have LN:∀j x,oV c (upd h i (.dF vs' t n)) j x->oV c h j x:=by
  intro j x l;by_cases e:j=i
  ·subst e
   rcases l with ⟨o',e1,eg,e2⟩ | ⟨vs2,t2,n',m,e1,e2⟩
   ·rw [upd_same]at e1;injection e1 with e1;subst e1;cases eg
   ·exact .inr ⟨vs,t,n,m,h0,e2⟩
  ·rcases l with ⟨o',e1,eg,e2⟩ | ⟨vs2,t2,n',m,e1,e2⟩
   ·rw [aB e]at e1;exact .inl ⟨o',e1,eg,e2⟩
   ·rw [aB e]at e1;exact .inr ⟨vs2,t2,n',m,e1,e2⟩
 have same:∀x,¬oV c h i x->S'.obj x=Sz.obj x:=fun x hx=>by
  rw [hs,if_neg (fun e:x=b=>hx (e▸hlb)),if_neg (fun e=>hx (hold x (hkl x e)))]
 have Hz:∀j x,j≠i->oV c h j x->S'.obj x=Sz.obj x:=fun j x e l=>same x fun l2=>e (s.inj j i x l l2)
 have fr:vG (cJ B c h) Sz S' (cJ B c (upd h i (.dF vs' t n))):=by
  refine⟨Nat.le_of_eq hn.symm,fun j _ hc=>same j fun l=>hc (.inr ⟨i,l⟩),fun x l=>?_⟩;rcases l with l | ⟨j,l⟩
  ·exact .inl (.inl l)
  ·exact .inl (.inr ⟨j,LN j x l⟩)
 refine⟨⟨⟨by rw [hn];exact s.base.n,fun j hj=>?_⟩,s.bB,?_,?_,fun j k x l1 l2=>s.inj j k x (LN j x l1) (LN k x l2),s.Gs,?_,s.KI,?_,?_⟩,fr⟩
 ·rw [same j fun l=>by have:=(s.bd l).1;omega];exact s.base.same j hj
 ·intro j o' e eg
  have e2:j≠i:=fun e2=>by subst e2;rw [upd_same]at e;injection e with e;subst e;cases eg
  rw [aB e2]at e;obtain⟨x,a',a1,a2,a3,a4,a5⟩:=s.ob j o' e eg;exact⟨x,a',a1,a2,by rw [hn];exact a3,by rw [Hz j x e2 (.inl ⟨o',e,eg,a1⟩)];exact a4,a5.mono (.refl c) fr⟩
 ·intro j vs2 t2 k e
  by_cases e2:j=i
  ·subst e2
   rw [upd_same]at e;injection e with e;injection e with e3 e4 e5;subst e3 e4 e5;obtain⟨x,ws2,olds',sz',a1,a2,a3,a4,a5,a6,a7,a8⟩:=s.dF j vs t n h0;rw [hb]at a1;injection a1 with a1;injection a1 with a1;injection a1 with a1;injection a1 with a1;subst a1;exact⟨b,ws',ol,sz',hb,a2,by rw [hn];exact a3,by rw [hs,if_pos rfl],hv.mono (.refl c) fr,a6,by rw [hl];exact a7,a8⟩
  ·rw [aB e2]at e
   obtain⟨x,ws2,olds',sz',a1,a2,a3,a4,a5,a6⟩:=s.dF j vs2 t2 k e;exact⟨x,ws2,olds',sz',a1,a2,by rw [hn];exact a3,by rw [Hz j x e2 (.inr ⟨vs2,t2,k,k,e,a1⟩)];exact a4,a5.mono (.refl c) fr,a6⟩
 ·obtain⟨N,hN⟩:=s.room
  refine⟨N,fun j hj=>?_⟩;obtain⟨a1,a2,a3⟩:=hN j hj;have:j≠i:=fun e=>by subst e;rw [h0]at a1;cases a1
  exact⟨by rw [aB this];exact a1,a2,a3⟩
 ·intro j vs2 t2 k m x e e3
  rw [hn];exact s.bd (LN j x (.inr ⟨vs2,t2,k,m,e,e3⟩))
 ·intro j vs2 t2 k x ws2 e' olds' e e3 e5 y hy
  by_cases e2:j=i
  ·subst e2
   rw [upd_same]at e;injection e with e;injection e with _ _ e6;subst e6;rw [hb]at e3;injection e3 with e3;injection e3 with e3;injection e3 with e3;injection e3 with e3;subst e3;rw [hs,if_pos rfl]at e5;injection e5 with e5;injection e5 with _ _ e5;injection e5 with e5;rw [<-e5]at hy;exact s.old j vs t n b ws t olds h0 hb ho y (hol y hy)
  ·rw [aB e2]at e
   rw [Hz j x e2 (.inr ⟨vs2,t2,k,k,e,e3⟩)]at e5;exact s.old j vs2 t2 k x ws2 e' olds' e e3 e5 y hy
end
section
variable{α:Type}
theorem Ir (t:Tr α):∀(n:Nat) (k:α->Prop),Ti t n k->∃x,t.get n=some x/\k x:=by
 induction t with
 | leaf=>intro n k h;cases h
 | node v l r ihl ihr=>
  intro n k h;cases n with
  | zero=>
   cases v with
   | none=>cases h
   | some x=>exact⟨x,rfl,h⟩
  | succ p=>
   have h:kK (Nat.mod p 2) (Ti l (Nat.div p 2) k) (fun _=>Ti r (Nat.div p 2) k):=h;have hm:p%2=0\/p%2=1:=by omega
   rcases hm with hm | hm
   ·have:Nat.mod p 2=0:=hm
    rw [this]at h;obtain⟨x,e1,e2⟩:=ihl _ _ (show Ti l (Nat.div p 2) k from h);refine⟨x,?_,e2⟩;have e3:(p+1) / 2=Nat.div p 2:=by show _=p / 2;omega
    simp only [Tr.get,Nat.add_eq_zero_iff,Nat.one_ne_zero,and_false,if_false,show(p+1)%2=1 by omega,if_true,e3];exact e1
   ·have:Nat.mod p 2=0+1:=hm
    rw [this]at h;obtain⟨x,e1,e2⟩:=ihr _ _ (show Ti r (Nat.div p 2) k from h);refine⟨x,?_,e2⟩;have e3:(p+1) / 2-1=Nat.div p 2:=by show _=p / 2;omega
    simp only [Tr.get,Nat.add_eq_zero_iff,Nat.one_ne_zero,and_false,if_false,show ¬(p+1)%2=1 by omega,e3];exact e1
theorem aAB (t:Tr α){k:Prop}:∀(n:Nat),Tk t n k->t.get n=none/\k:=by
 induction t with
 | leaf=>intro n h;exact⟨rfl,h⟩
 | node v l r ihl ihr=>
  intro n h;cases n with
  | zero=>
   cases v with
   | none=>exact⟨rfl,h⟩
   | some x=>cases h
  | succ p=>
   have h:kK (Nat.mod p 2) (Tk l (Nat.div p 2) k) (fun _=>Tk r (Nat.div p 2) k):=h;have hm:p%2=0\/p%2=1:=by omega
   rcases hm with hm | hm
   ·have:Nat.mod p 2=0:=hm
    rw [this]at h;obtain⟨e1,e2⟩:=ihl _ (show Tk l (Nat.div p 2) k from h);refine⟨?_,e2⟩;have e3:(p+1) / 2=Nat.div p 2:=by show _=p / 2;omega
    simp only [Tr.get,Nat.add_eq_zero_iff,Nat.one_ne_zero,and_false,if_false,show(p+1)%2=1 by omega,if_true,e3];exact e1
   ·have:Nat.mod p 2=0+1:=hm
    rw [this]at h;obtain⟨e1,e2⟩:=ihr _ (show Tk r (Nat.div p 2) k from h);refine⟨?_,e2⟩;have e3:(p+1) / 2-1=Nat.div p 2:=by show _=p / 2;omega
    simp only [Tr.get,Nat.add_eq_zero_iff,Nat.one_ne_zero,and_false,if_false,show ¬(p+1)%2=1 by omega,e3];exact e1
theorem aCE (t:Tr α):∀(n:Nat) (k:Tr α->Prop),aAq t n k=k (t.del n):=by
 induction t with
 | leaf=>intro n k;rfl
 | node v l r il ir=>
  intro n k;cases n with
  | zero=>rfl
  | succ p=>
   show kK (p%2) (aAq l (p / 2) fun c=>k (.node v c r)) (fun _=>aAq r (p / 2) fun c=>k (.node v l c))=_;rw [il,ir];have hsucc:p+1≠0:=by omega
   simp only [Tr.del,if_neg hsucc];rcases Nat.mod_two_eq_zero_or_one p with h | h
   ·rw [h,if_pos (by omega),show(p+1) / 2=p / 2 by omega];rfl
   ·rw [h,if_neg (by omega),show(p+1) / 2-1=p / 2 by omega];rfl
theorem aCF (x:α):∀(f:Nat) (t:Tr α) (n:Nat) (k:Tr α->Prop),Tj x f t n k=k (Tr.yC x f t n):=by
 intro f;induction f with
 | zero=>intro t n k;rfl
 | succ f ih=>
  intro t n k;cases t with
  | leaf=>
   cases n with
   | zero=>rfl
   | succ p=>
    show kK (Nat.mod p 2) (Tj x f .leaf (Nat.div p 2) fun c=>k (.node none c .leaf)) (fun _=>Tj x f .leaf (Nat.div p 2) fun c=>k (.node none .leaf c))=_;rw [ih,ih];have hm:p%2=0\/p%2=1:=by omega
    rcases hm with hm | hm
    ·have:Nat.mod p 2=0:=hm
     rw [this];have e3:(p+1) / 2=Nat.div p 2:=by show _=p / 2;omega
     simp only [Tr.yC,Nat.add_eq_zero_iff,Nat.one_ne_zero,and_false,if_false,show(p+1)%2=1 by omega,if_true,e3];rfl
    ·have:Nat.mod p 2=0+1:=hm
     rw [this];have e3:(p+1) / 2-1=Nat.div p 2:=by show _=p / 2;omega
     simp only [Tr.yC,Nat.add_eq_zero_iff,Nat.one_ne_zero,and_false,if_false,show ¬(p+1)%2=1 by omega,e3];rfl
  | node v l r=>
   cases n with
   | zero=>rfl
   | succ p=>
    show kK (Nat.mod p 2) (Tj x f l (Nat.div p 2) fun c=>k (.node v c r)) (fun _=>Tj x f r (Nat.div p 2) fun c=>k (.node v l c))=_;rw [ih,ih];have hm:p%2=0\/p%2=1:=by omega
    rcases hm with hm | hm
    ·have:Nat.mod p 2=0:=hm
     rw [this];have e3:(p+1) / 2=Nat.div p 2:=by show _=p / 2;omega
     simp only [Tr.yC,Nat.add_eq_zero_iff,Nat.one_ne_zero,and_false,if_false,show(p+1)%2=1 by omega,if_true,e3];rfl
    ·have:Nat.mod p 2=0+1:=hm
     rw [this];have e3:(p+1) / 2-1=Nat.div p 2:=by show _=p / 2;omega
     simp only [Tr.yC,Nat.add_eq_zero_iff,Nat.one_ne_zero,and_false,if_false,show ¬(p+1)%2=1 by omega,e3];rfl
theorem DB{l:List α}{i:Nat}{k:α->Prop} (h:NA l i k):∃a,l[i]? =some a/\k a:=by
 unfold NA at h;split at h
 ·rename_i a e;exact⟨a,e,h⟩
 ·cases h
end
structure SH (c:Cx) (Sz:St) (C:Nat->Prop) (l:List Nat):Prop where
 n0:c.n0<=Sz.n
 nd:l.Nodup
 ok:∀d∈l,c.n0<=d/\d<Sz.n/\¬C d/\Sz.obj d=some .defers
theorem SH.mono{c d:Cx}{Sz S':St}{C C':Nat->Prop}{m:List Nat} (k:SH c Sz C m) (l:c.le d) (f:vG C Sz S' C'):SH d S' C' m:=by
 refine⟨by rw [l.n0];exact Nat.le_trans k.n0 f.n,k.nd,fun x hx=>?_⟩;obtain⟨h1,h2,h3,h4⟩:=k.ok x hx;refine⟨by rw [l.n0];exact h1,Nat.lt_of_lt_of_le h2 f.n,fun h=>?_,by rw [f.same x h2 h3];exact h4⟩;rcases f.sub _ h with h | h
 ·exact h3 h
 ·omega
structure AR (c:Cx) (Sz:St) (C:Nat->Prop) (A:VA) (A':aO):Prop where
 n:A.tmps.n=A'.tmps.n
 g:A.g=A'.g
 marks:SH c Sz C A'.marks
 got:∀i v,A.tmps.t.get i=some v->∃w,A'.tmps.t.get i=some w/\dX c Sz C v w
 abs:∀i,A.tmps.t.get i=none->A'.tmps.t.get i=none
section
variable{P:Program}{B:Nat->Prop}{Sb:St}{c c' d:Cx}{h h':Hp}{Sz S':St}{C C':Nat->Prop}
theorem AR.mono{A:VA}{A':aO} (a:AR c Sz C A A') (l:c.le d) (f:vG C Sz S' C'):AR d S' C' A A':=
 ⟨a.n,a.g,a.marks.mono l f,fun i v e=>let⟨w,p,q⟩:=a.got i v e;⟨w,p,q.mono l f⟩,a.abs⟩
theorem AR.put{A:VA}{A':aO} (a:AR c Sz C A A'){i:Nat}{v:V}{w:Value} (hv:dX c Sz C v w):AR c Sz C ⟨⟨A.tmps.t.put i v,A.tmps.n⟩,A.g⟩ ⟨A'.tmps.put i w,A'.marks,A'.g⟩:=by
 refine⟨a.n,a.g,a.marks,fun j x e=>?_,fun j e=>?_⟩
 ·have e:(A.tmps.t.put i v).get j=some x:=e
  rw [get_put]at e;show ∃w',(A'.tmps.t.put i w).get j=some w'/\_;rw [get_put];by_cases hj:j=i
  ·rw [if_pos hj]at e ⊢;injection e with e;subst e;exact⟨w,rfl,hv⟩
  ·rw [if_neg hj]at e ⊢;exact a.got j x e
 ·have e:(A.tmps.t.put i v).get j=none:=e
  rw [get_put]at e;show(A'.tmps.t.put i w).get j=none;rw [get_put];by_cases hj:j=i
  ·rw [if_pos hj]at e;cases e
  ·rw [if_neg hj]at e ⊢;exact a.abs j e
theorem vF{A:VA}{A':aO} (a:AR c Sz C A A'){i:Nat}{k:V->Prop}{k':Value->Bool} (h:YB A.tmps i k) (hk:∀v w,dX c Sz C v w->k v->k' w=true):IA A'.tmps i k'=true:=by
 obtain⟨v,e,hv⟩:=Ir _ _ _ h;obtain⟨w,e2,r⟩:=a.got i v e;unfold IA;rw [mO,e2];exact hk v w r hv
theorem IT{v:V}{T:Ds}{i:Nat}{k:Ds->Prop} (h:KH v T i k):i<T.n/\k ⟨T.t.put i v,T.n⟩:=by
 obtain⟨t,n⟩:=T;unfold KH at h;simp only at h;split at h
 ·rename_i hb
  rw [aCF]at h;exact⟨Nat.le_of_ble_eq_true hb,h⟩
 ·cases h
theorem OE{v:Value}{T:Tm}{i:Nat} (hi:i<T.n) (k:Tm->Bool):nQ v T i k=k (T.put i v):=by
 unfold nQ;rw [show Nat.blt i T.n=true from Nat.ble_eq_true_of_le hi,DQ];rfl
theorem Ag{A:VA}{A':aO} (a:AR c Sz C A A'){d:Tmp}{v:V}{w:Value} (hv:dX c Sz C v w){k:VA->Prop}{k':aO->Bool} (h:WE A d v k) (hk:∀B B',AR c Sz C B B'->k B->k' B'=true):iE A' (some d) w k'=true:=by
 obtain⟨T,g⟩:=A;obtain⟨h1,h2⟩:=IT (show KH v T d (fun T=>k ⟨T,g⟩)from h);show nQ w A'.tmps d (fun ts=>k' ⟨ts,A'.marks,A'.g⟩)=true;rw [OE (by rw [<-a.n];exact h1)];exact hk _ _ (a.put hv) h2
theorem aAC{v:Value}{x:V} (e:ofC v=some x):fX v=true/\dX c Sz C x v:=by
 unfold ofC at e;split at e
 ·rename_i cs
  split at e
  ·rename_i l hl
   injection e with e;subst e;have hvs:iT c Sz C l cs:=IS hl;refine⟨?_,.agg hvs.len hvs.rd⟩;show cs.all aY=true
   have:∀(cs:List Value) (l:List V),AK cs=some l->cs.all aY=true:=by
    intro cs;induction cs with
    | nil=>intro _ _;rfl
    | cons a cs ih=>
     intro l h;unfold AK at h;split at h
     ·rename_i x hx
      split at h
      ·rename_i xs hxs
       simp only [List.all_cons,Ip hx,ih xs hxs,Bool.and_self]
      ·cases h
     ·cases h
   exact this cs l hl
  ·cases e
 ·have hf:=Ip e
  refine⟨?_,aAx e⟩;cases v<;>first | exact hf | (simp [aY]at hf)
theorem bG{A:VA}{A':aO} (a:AR c Sz C A A'){x:Operand}{k:V->Prop}{k':Value->Bool} (h:(tX x).f A k) (hk:∀v w,dX c Sz C v w->k v->k' w=true):oN A' x k'=true:=by
 cases x with
 | tmp t=>exact vF a h hk
 | const v=>
  unfold tX at h;cases e:ofC v with
  | none=>simp only [e]at h
  | some d=>
   simp only [e]at h;obtain⟨hf,r⟩:=aAC (c:=c) (Sz:=Sz) (C:=C) e;unfold oN;simp only [hf];exact hk d v r h
 | global g=>cases h
 | func f=>exact hk _ _ (.func (a':=[]) (d':=[]) rfl rfl (fun k v w e=>by simp at e) (fun k v w e=>by simp at e)) h
theorem OF{A:VA}{A':aO} (a:AR c Sz C A A'):∀{xs:List Operand} {k:List V->Prop} {k':List Value->Bool},(Tn xs).f A k->(∀vs ws,iT c Sz C vs ws->k vs->k' ws=true)->FV A' xs k'=true:=by
 intro xs;induction xs with
 | nil=>intro k k' h hk;exact hk [] [] .nil h
 | cons x xs ih=>
  intro k k' h hk;have h:(tX x).f A (fun v=>(Tn xs).f A fun vs=>k (v::vs)):=h;refine bG a h fun v w r h=>?_;exact ih h fun vs ws rs h=>hk (v::vs) (w::ws) (.cons r rs) h
theorem VS.one (s:VS P B Sb c h Sz){v:V}{w:Value} (r:dX c Sz C v w) (ho:jK v=true):oneCell w=true:=by
 cases r<;>first
  | rfl
  | (simp [jK]at ho;done)
  | (rename_i e;obtain⟨b,rfl⟩:=s.Gs _ _ _ e;rfl)
  | (rename_i ht hd;cases hd<;>rfl)
theorem VS.ones (s:VS P B Sb c h Sz){vs:List V}{ws:List Value} (r:iT c Sz C vs ws) (ho:vs.all jK=true):ws.all oneCell=true:=by
 rw [List.all_eq_true]at ho ⊢;intro w hw;obtain⟨k,hk⟩:=List.getElem?_of_mem hw;have hl:=r.len;have hkl:=(List.getElem?_eq_some_iff.1 hk).1;exact s.one (r.rd k vs[k] w (List.getElem?_eq_getElem (by omega)) hk) (ho _ (List.getElem_mem (by omega)))
theorem aAD (O:Tag):∀(l:List Dt) (o k:Nat),(Tl O o l)[k]? =(l[k]?).map fun d=>T (.sub O (o+k)) d:=by
 intro l;induction l with
 | nil=>intro o k;simp [Tl]
 | cons d l ih=>
  intro o k;cases k with
  | zero=>simp [Tl]
  | succ k=>
   simp only [Tl,List.getElem?_cons_succ,ih];rw [show o+1+k=o+(k+1)by omega]
theorem Mm (O:Tag):∀(l:List Dt) (o:Nat),(Tl O o l).length=l.length:=by
 intro l;induction l with
 | nil=>intro o;rfl
 | cons d l ih=>intro o;simp [Tl,ih]
theorem PW{O:Tag}{cs:List Dt}{b o n cc:Nat}{sp:Option Nat} (ht:HX c Sz C O (.slice (some ⟨b,o,sp⟩) n cc)) (hd:RE Sz C (.list cs n) (.slice (some ⟨b,o,sp⟩) n cc)){k m:Nat} (hk:k+m<=cs.length) (hm:0<m):
 ∃ws e ck,Sz.obj b=some (.cells ws e ck)/\o+k+m<=ws.length/\iT c Sz C (Tl O k ((cs.drop k).take m)) ((ws.drop (o+k)).take m):=by
 cases hd with
 | emp=>simp at hk;omega
 | row hsp hb hC ho hl hn hr=>
  rename_i ws e ck;refine⟨ws,e,ck,ho,by omega,by rw [Mm];simp;omega,fun j v w e1 e2=>?_⟩;rw [aAD,List.getElem?_take]at e1;rw [List.getElem?_take]at e2;by_cases hj:j<m
  ·rw [if_pos hj,List.getElem?_drop]at e1 e2
   cases ed:cs[k+j]? with
   | none=>rw [ed]at e1;cases e1
   | some x=>
    rw [ed]at e1;injection e1 with e1;subst e1;have hw:ws[o+(k+j)]? =some w:=by rw [<-Nat.add_assoc];exact e2
    exact aE2 (hr (k+j) x w ed hw) (.sub ht hb hC ho hw)
  ·rw [if_neg hj]at e2;cases e2
theorem Qg (s:VS P B Sb c h Sz){a:V}{w:Value} (r:dX c Sz (cJ B c h) a w){Kv:KV}{K:VK} (k:∀v w,dX c Sz (cJ B c h) v w->Kv v h->K w Sz=true) (hv:aS a h Kv):rLd w Sz K=true:=by
 unfold aS at hv;split at hv
 ·rename_i i o
  cases r with
  | ptr hZ=>
   split at hv
   ·rename_i vs t e
    obtain⟨v,ev,hv⟩:=DB hv;obtain⟨b,ws,a1,a2,a3,a4,a5⟩:=s.row i vs t e;rw [hZ]at a1;injection a1 with a1;subst a1;obtain⟨u,eu,ru⟩:=a5.get ev;rw [Wf a4 eu];exact k v u ru hv
   ·cases hv
 ·rename_i O cs o
  cases r with
  | @nP _ _ b o0 n cc _ sp ht hd=>
   obtain⟨x,ex,hv⟩:=DB hv;have hlt:=(List.getElem?_eq_some_iff.1 ex).1;obtain⟨ws,e,ck,g1,g2,g3⟩:=PW ht hd (k:=o) (m:=1) (by omega) (by omega);have hw:ws[o0+o]? =some (ws[o0+o]'(by omega)):=List.getElem?_eq_getElem _;rw [Wf g1 hw];refine k _ _ (g3.rd 0 _ _ ?_ ?_) hv
   ·rw [aAD,List.getElem?_take,if_pos (by omega),List.getElem?_drop,Nat.add_zero,ex];rfl
   ·rw [List.getElem?_take,if_pos (by omega),List.getElem?_drop,Nat.add_zero];exact hw
 ·rename_i i n o
  cases r with
  | lX hGz=>
   split at hv
   ·rename_i vs t m e
    obtain⟨rfl,hv⟩:=hv;obtain⟨v,ev,hv⟩:=DB hv;obtain⟨b,ws,olds,sz,a1,a2,a3,a4,a5,a6⟩:=s.dF i vs t m e;rw [hGz]at a1;injection a1 with a1;injection a1 with a1;injection a1 with a1;injection a1 with a1;subst a1;obtain⟨u,eu,ru⟩:=a5.get ev;rw [Wf a4 eu];exact k v u ru hv
   ·cases hv
 ·cases hv
theorem Is (s:VS P B Sb c h Sz){n:Nat} (hn:0<n){a:V}{w:Value} (r:dX c Sz (cJ B c h) a w){Kv:KV}{K:VK} (k:∀v w,dX c Sz (cJ B c h) v w->Kv v h->K w Sz=true) (hv:bF n a h Kv):Vr n w Sz K=true:=by
 unfold bF at hv;split at hv
 ·rename_i i o
  cases r with
  | ptr hZ=>
   split at hv
   ·rename_i vs t e
    obtain⟨hl,hv⟩:=hv;obtain⟨b,ws,a1,a2,a3,a4,a5⟩:=s.row i vs t e;rw [hZ]at a1;injection a1 with a1;subst a1;have:=a5.len;rw [Kr a4 (by omega)];exact k _ _ (.agg ((a5.drop o).take n).len ((a5.drop o).take n).rd) hv
   ·cases hv
 ·rename_i O cs o
  cases r with
  | @nP _ _ b o0 m cc _ sp ht hd=>
   obtain⟨hl,hv⟩:=hv;obtain⟨ws,e,ck,g1,g2,g3⟩:=PW ht hd hl hn;rw [Kr g1 g2];exact k _ _ (.agg g3.len g3.rd) hv
 ·rename_i i m o
  cases r with
  | lX hGz=>
   split at hv
   ·rename_i vs t m' e
    obtain⟨rfl,hl,hv⟩:=hv;obtain⟨b,ws,olds,sz,a1,a2,a3,a4,a5,a6⟩:=s.dF i vs t m' e;rw [hGz]at a1;injection a1 with a1;injection a1 with a1;injection a1 with a1;injection a1 with a1;subst a1;have:=a5.len;rw [Kr a4 (by omega)];exact k _ _ (.agg ((a5.drop o).take n).len ((a5.drop o).take n).rd) hv
   ·cases hv
 ·cases hv
theorem EL (s:VS P B Sb c h Sz){x:V}{w:Value} (r:dX c Sz C x w){k:List V->Prop} (hv:oY x k):∃vs ws,iT c Sz C vs ws/\k vs/\ws.all oneCell=true/\∀K:List Value->Bool,kM w K=K ws:=by
 unfold oY at hv;split at hv
 ·rename_i cs
  obtain⟨ho,hv⟩:=hv;cases r with
  | agg la ha=>
   rename_i a';have hr:iT c Sz C cs a':=⟨la,ha⟩;have:=s.ones hr ho;refine⟨cs,a',hr,hv,this,fun K=>?_⟩;show(match allB oneCell a' with | true=>K a' | false=>false)=_;rw [jT,this]
 ·cases hv
 ·rename_i h1 h2
  have ho:jK x=true:=by cases x<;>first | rfl | exact absurd rfl (h1 _) | exact absurd rfl (h2 _)
  have:=s.one r ho;exact⟨[x],[w],.cons r .nil,hv,by simp [this],fun K=>Gq this K⟩
theorem LI (s:VS P B Sb c h Sz){i o b:Nat}{vs cs:List V}{ws:List Value}{t:TypeId} (e:h i=some (.row vs t)) (hZ:c.Zz i=some b) (g:iT c Sz (cJ B c h) cs ws) (hl:o+cs.length<=vs.length){Kv:Hp->Prop}{K:St->Bool} (k:∀h' S',vG (cJ B c h) Sz S' (cJ B c h')->VS P B Sb c h' S'->Kv h'->K S'=true) (hv:Kv (upd h i (.row (splice o cs vs) t))):pU Sz b o ws K=true:=by
 obtain⟨b',us,a1,a2,a3,a4,a5⟩:=s.row i vs t e;rw [hZ]at a1;injection a1 with a1;subst a1;have l1:=a5.len;have l2:=g.len;unfold pU;rw [zJ a4];show mM o ws us (fun vs=>mS Sz b (.cells vs t .exact) K)=true;rw [sI,if_pos (by omega),eQ];obtain⟨s1,s2⟩:=s.setRow e hZ (a5.splice g o);exact k _ _ s2 s1 hv
theorem LJ (s:VS P B Sb c h Sz){i n o b:Nat}{vs cs:List V}{ws:List Value}{t:TypeId} (e:h i=some (.dF vs t n)) (hGz:c.Gz i n=some (.slice (some ⟨b,0,some 0⟩) n n)) (g:iT c Sz (cJ B c h) cs ws) (hl:o+cs.length<=vs.length){Kv:Hp->Prop}{K:St->Bool} (k:∀h' S',vG (cJ B c h) Sz S' (cJ B c h')->VS P B Sb c h' S'->Kv h'->K S'=true) (hv:Kv (upd h i (.dF (splice o cs vs) t n))):pU Sz b o ws K=true:=by
 obtain⟨b',us,olds,sz,a1,a2,a3,a4,a5,a6⟩:=s.dF i vs t n e;rw [hGz]at a1;injection a1 with a1;injection a1 with a1;injection a1 with a1;injection a1 with a1;subst a1;have l1:=a5.len;have l2:=g.len;have hsl:(splice o cs vs).length=vs.length:=by unfold splice;simp;omega
 unfold pU;rw [zJ a4]
 show(AQ o us fun l=>match asIs ws l with
  | true=>K Sz
  | false=>mM o ws us fun vs=>YC olds Sz.h fun h=>IX (.cells vs t (.grown [])) (Nat.succ b) h b fun h=>K ⟨h,Sz.n⟩)=true
 rw [uE,if_pos (by omega)];cases hs:asIs ws (us.drop o)with
 | true=>
  obtain⟨_,q⟩:=YP hs
  have hus:splice o ws us=us:=by
   apply List.ext_getElem?;intro j;rw [oA _ _ _ (by omega)];split
   ·rename_i hj
    have:=q (j-o) _ (List.getElem?_eq_getElem (by omega));rw [List.getElem?_drop,show o+(j-o)=j by omega]at this;rw [this,List.getElem?_eq_getElem (by omega)]
   ·rfl
  obtain⟨s1,s2⟩:=s.aAA (vs':=splice o cs vs) (ws':=us) (olds:=olds) (ol:=olds) (kl:=[]) (fun _ h=>h) (fun _ h=>by cases h) e hGz a4 hsl (by have:=a5.splice g o;rwa [hus]at this) (S':=Sz) rfl (fun j=>by
   by_cases hj:j=b
   ·rw [if_pos hj,hj,a4]
   ·rw [if_neg hj,if_neg (by simp)])
  exact k _ _ s2 s1 hv
 | false=>
  show(mM o ws us fun vs=>YC olds Sz.h fun h=>IX (.cells vs t (.grown [])) (Nat.succ b) h b fun h=>K ⟨h,Sz.n⟩)=true;rw [sI,if_pos (by omega),Ew,DQ]
  obtain⟨s1,s2⟩:=s.aAA (vs':=splice o cs vs) (ws':=splice o ws us) (olds:=olds) (ol:=[]) (kl:=olds) (fun _ h=>by cases h) (fun _ h=>h) e hGz a4 hsl (a5.splice g o) (S':=⟨Tr.yC (fD.cells (splice o ws us) t (CK.grown [])) b.succ (olds.foldl (fun h i=>h.put i fD.dead) Sz.h) b,Sz.n⟩) rfl (fun j=>by
   show Tr.get (Tr.yC _ (b+1) _ b) j=_;rw [TQ _ _ _ _ _ (Nat.lt_succ_self b),Ex];rfl)
  exact k _ _ s2 s1 hv
theorem aCG (s:VS P B Sb c h Sz){n:Nat}{a x:V}{w y:Value} (r:dX c Sz (cJ B c h) a w) (q:dX c Sz (cJ B c h) x y){Kv:Hp->Prop}{K:St->Bool} (k:∀h' S',vG (cJ B c h) Sz S' (cJ B c h')->VS P B Sb c h' S'->Kv h'->K S'=true) (hv:rH n a x h Kv):rSt n w y Sz K=true:=by
 unfold rH at hv;split at hv
 ·rename_i i o
  cases r with
  | @ptr _ _ b hZ=>
   split at hv
   ·rename_i vs t e
    obtain⟨cs,ws,g1,⟨g2,g3,g4⟩,g5,g6⟩:=EL s q hv;have l2:=g1.len;show kM y (fun cs=>yT cs fun m=>match Nat.beq m n with | true=>pU Sz b o cs K | false=>false)=true;rw [g6,jS,show Nat.beq ws.length n=true by rw [<-l2,g2];exact Nat.beq_refl n];exact LI s e hZ g1 (by omega) k g4
   ·cases hv
 ·rename_i i q' o
  cases r with
  | @lX _ _ _ b hGz=>
   split at hv
   ·rename_i vs t m e
    obtain⟨rfl,hv⟩:=hv;obtain⟨cs,ws,g1,⟨g2,g3,g4⟩,g5,g6⟩:=EL s q hv;have l2:=g1.len;show kM y (fun cs=>yT cs fun m=>match Nat.beq m n with | true=>pU Sz b o cs K | false=>false)=true;rw [g6,jS,show Nat.beq ws.length n=true by rw [<-l2,g2];exact Nat.beq_refl n];exact LJ s e hGz g1 (by omega) k g4
   ·cases hv
 ·cases hv
end
section
variable{P:Program}{B:Nat->Prop}{Sb:St}{c c' d:Cx}{h h':Hp}{Sz S':St}{C C':Nat->Prop}
def KR (P:Program) (B:Nat->Prop) (Sb:St) (c:Cx) (h:Hp) (Sz:St) (Kv:KV) (K:VK):Prop:=
 ∀c' h' S' v w,c.le c'->vG (cJ B c h) Sz S' (cJ B c' h')->VS P B Sb c' h' S'->dX c' S' (cJ B c' h') v w->Kv v h'->K w S'=true
theorem KR.here{Kv:KV}{K:VK} (k:KR P B Sb c h Sz Kv K) (s:VS P B Sb c h Sz){v:V}{w:Value} (r:dX c Sz (cJ B c h) v w) (hk:Kv v h):K w Sz=true:=k c h Sz v w (.refl c) (.refl _ Sz) s r hk
theorem OG (s:VS P B Sb c h Sz){vs:List V}{ws:List Value}{t:TypeId} (hv:iT c Sz (cJ B c h) vs ws){Kn:Nat->Hp->Prop} (hn:vNew vs t h Kn):
 ∃c' h' i,c.le c'/\vG (cJ B c h) Sz (Sz.new (.cells ws t .exact)) (cJ B c' h')/\VS P B Sb c' h' (Sz.new (.cells ws t .exact))/\c'.Zz i=some Sz.n/\Kn i h':=by
 obtain⟨i,e1,e2,e3⟩:=s.fresh;obtain⟨a1,a2,a3,a4⟩:=s.newRow e1 e2 e3 t hv;exact⟨_,_,i,a2,a3,a1,a4,hn i e1⟩
theorem Mn (s:VS P B Sb c h Sz){z:List Value}{t:TypeId}{Kv:KV}{K:VK} (k:KR P B Sb c h Sz Kv K) (hv:eU z t h Kv):PD z t Sz K=true:=by
 unfold eU mY at hv;split at hv
 ·rename_i l e
  obtain⟨c',h',i,a1,a2,a3,a4,a5⟩:=OG s (IS e) hv;rw [Wh];exact k c' h' _ _ _ a1 a2 a3 (.ptr a4) a5
 ·cases hv
theorem aAE (s:VS P B Sb c h Sz){t:TypeId}{x:V}{w:Value} (r:dX c Sz (cJ B c h) x w){Kv:KV}{K:VK} (k:KR P B Sb c h Sz Kv K) (hv:jO t x h Kv):El t w Sz K=true:=by
 obtain⟨cs,ws,g1,g2,g3,g4⟩:=EL s r hv;obtain⟨c',h',i,a1,a2,a3,a4,a5⟩:=OG s g1 g2;unfold El;rw [g4,fO];exact k c' h' _ _ _ a1 a2 a3 (.ptr a4) a5
def PsR (c:Cx) (Sz:St) (C:Nat->Prop):List (Nat×Nat×V)->List (Nat×Nat×Value)->Prop
 | [],[]=>True
 | (o,n,v)::l,(o',n',w)::m=>o=o'/\n=n'/\dX c Sz C v w/\PsR c Sz C l m
 | _,_=>False
theorem Ai (s:VS P B Sb c h Sz):∀{ps:List (Nat×Nat×V)} {ps':List (Nat×Nat×Value)} {cs:List V} {cs':List Value} {k:List V->Prop} {k':List Value->Bool},PsR c Sz C ps ps'->iT c Sz C cs cs'->jE ps cs k->(∀cs cs',iT c Sz C cs cs'->k cs->k' cs'=true)->HA ps' cs' k'=true:=by
 intro ps;induction ps with
 | nil=>
  intro ps' cs cs' k k' hp hc hv hk
  match ps',hp with
  | [],_=>exact hk cs cs' hc hv
 | cons p ps ih=>
  intro ps' cs cs' k k' hp hc hv hk;obtain⟨o,n,v⟩:=p
  match ps',hp with
  | (o',n',w)::ps',hp=>
   obtain⟨rfl,rfl,r,hp⟩:=hp;obtain⟨vs,ws,g1,⟨g2,g3,g4⟩,g5,g6⟩:=EL s r hv;have l1:=g1.len;have l2:=hc.len;show kM w (fun new=>yT new fun m=>match Nat.beq m n with | true=>mM o new cs' (fun cs=>HA ps' cs k') | false=>false)=true;rw [g6,jS,show Nat.beq ws.length n=true by rw [<-l1,g2];exact Nat.beq_refl n];show mM o ws cs' (fun cs=>HA ps' cs k')=true;rw [sI,if_pos (by omega)];exact ih hp (hc.splice g1 o) g4 hk
theorem LK{A:VA}{A':aO} (a:AR c Sz C A A'){place:Nat->Option (Nat×Nat)}:∀{ps:List (Nat×Operand)} {k:List (Nat×Nat×V)->Prop} {k':List (Nat×Nat×Value)->Bool},(PU place ps).f A k->(∀l l',PsR c Sz C l l'->k l->k' l'=true)->(zH place ps).f A' k'=true:=by
 intro ps;induction ps with
 | nil=>intro k k' hv hk;exact hk [] [] trivial hv
 | cons p ps ih=>
  intro k k' hv hk
  have e1:PU place (p::ps)=match place p.1 with
   | some (off,size)=>⟨fun A k=>(tX p.2).f A fun v=>(PU place ps).f A fun l=>k ((off,size,v)::l)⟩
   | none=>⟨fun _ _=>False⟩:=rfl
  have e2:zH place (p::ps)=match place p.1 with
   | some (off,size)=>⟨fun A k=>(sC p.2).f A fun v=>(zH place ps).f A fun l=>k ((off,size,v)::l)⟩
   | none=>⟨fun _ _=>false⟩:=rfl
  rw [e1]at hv;rw [e2];cases hp:place p.1 with
  | none=>rw [hp]at hv;cases hv
  | some q=>
   obtain⟨off,size⟩:=q;rw [hp]at hv;simp only at hv ⊢;rw [gI];refine bG a hv fun v w r hv=>?_;exact ih hv fun l l' hl h=>hk ((off,size,v)::l) ((off,size,w)::l') ⟨rfl,rfl,r,hl⟩ h
theorem WF (s:VS P B Sb c h Sz){z:List Value}{ps:List (Nat×Nat×V)}{ps':List (Nat×Nat×Value)} (hp:PsR c Sz C ps ps'){Kv:V->Prop}{K:Value->Bool} (k:∀v w,dX c Sz C v w->Kv v->K w=true) (hv:gQ z ps Kv):Ko z ps' K=true:=by
 unfold gQ mY at hv;split at hv
 ·rename_i l e
  exact Ai s hp (IS e) hv fun cs cs' r h=>k _ _ (.agg r.len r.rd) h
 ·cases hv
theorem Iu (s:VS P B Sb c h Sz){el n:Nat}{z:List Value}{ps:List (Nat×Nat×V)}{ps':List (Nat×Nat×Value)} (hp:PsR c Sz (cJ B c h) ps ps'){Kv:KV}{K:VK} (k:KR P B Sb c h Sz Kv K) (hv:aP el n z ps h Kv):Bz el n z ps' Sz K=true:=by
 unfold aP mY at hv;split at hv
 ·rename_i l e
  unfold Bz;rw [wK];refine Ai s hp ((IS e).flatten n) hv fun cs cs' r hv=>?_;obtain⟨c',h',i,a1,a2,a3,a4,a5⟩:=OG s r hv;rw [fO];exact k c' h' _ _ _ a1 a2 a3 (.own a4) a5
 ·cases hv
theorem aAF{off:Nat}{x:V}{w:Value} (r:dX c Sz C x w){Kv:V->Prop}{K:Value->Bool} (k:∀v w,dX c Sz C v w->Kv v->K w=true) (hv:bI off x Kv):Vs off w K=true:=by
 unfold bI at hv;split at hv
 ·cases r with | ptr e=>rw [Kq];exact k _ _ (.ptr e) hv
 ·cases r with | nP ht hd=>rw [Kq,Nat.add_assoc];exact k _ _ (.nP ht hd) hv
 ·cases r with | lX e=>rw [Kq];exact k _ _ (.lX e) hv
 ·cases hv
theorem Mo{off:Nat}{x:V}{w:Value} (r:dX c Sz C x w){Kv:V->Prop}{K:Value->Bool} (k:∀v w,dX c Sz C v w->Kv v->K w=true) (hv:Me off x Kv):UP off w K=true:=by
 unfold Me at hv;split at hv
 ·cases r with
  | agg la ha=>
   obtain⟨v,e,hv⟩:=DB hv;obtain⟨u,eu,ru⟩:=iT.get ⟨la,ha⟩ e;rw [Wg eu];exact k v u ru hv
 ·cases hv
theorem Iv{off n:Nat}{x:V}{w:Value} (r:dX c Sz C x w){Kv:V->Prop}{K:Value->Bool} (k:∀v w,dX c Sz C v w->Kv v->K w=true) (hv:Dp off n x Kv):MR off n w K=true:=by
 unfold Dp at hv;split at hv
 ·cases r with
  | agg la ha=>
   obtain⟨hl,hv⟩:=hv;have hr:iT c Sz C _ _:=⟨la,ha⟩;rw [Rt (by omega)];exact k _ _ (.agg ((hr.drop off).take n).len ((hr.drop off).take n).rd) hv
 ·cases hv
theorem aAG (s:VS P B Sb c h Sz){size:Nat}{x ix:V}{w iw:Value} (r:dX c Sz C x w) (ri:dX c Sz C ix iw){Kv:V->Prop}{K:Value->Bool} (k:∀v w,dX c Sz C v w->Kv v->K w=true) (hv:bY size x ix Kv):aBo size w iw K=true:=by
 unfold bY at hv;split at hv
 ·rename_i j i
  cases ri;split at hv
  ·obtain⟨hi,hv⟩:=hv
   cases r with
   | list ht hd=>
    cases hd with
    | nil=>omega
    | emp=>omega
    | @row b0 o0 _ cc sp us e0 ck0 _ hsp hb hC ho hl hn hr=>
     have hlt:Nat.blt i _=true:=Nat.ble_eq_true_of_le hi;have:=k _ _ (.nP ht (.row hsp hb hC ho hl hn hr)) hv
     match sp,hsp with
     | none,_=>show(match Nat.blt i _ with | true=>_ | false=>false)=true;rw [hlt,aT];exact this
     | some 0,_=>show(match Nat.blt i _ with | true=>_ | false=>false)=true;rw [hlt,aT];exact this
  ·obtain⟨hi,hv⟩:=hv
   cases r with
   | own e=>
    have hlt:Nat.blt i _=true:=Nat.ble_eq_true_of_le hi;show(match Nat.blt i _ with | true=>_ | false=>false)=true;rw [hlt,aT];exact k _ _ (.ptr e) hv
  ·obtain⟨hi,hv⟩:=hv
   cases r with
   | acc e=>
    obtain⟨b,rfl⟩:=s.Gs _ _ _ e;have hlt:Nat.blt i _=true:=Nat.ble_eq_true_of_le hi;show(match Nat.blt i _ with | true=>_ | false=>false)=true;rw [hlt,aT,Nat.zero_add];exact k _ _ (.lX e) hv
  ·obtain⟨hi,hv⟩:=hv
   cases r with
   | tW e=>
    have hlt:Nat.blt i _=true:=Nat.ble_eq_true_of_le hi;show(match Nat.blt i _ with | true=>_ | false=>false)=true;rw [hlt,aT];exact k _ _ (.lX e) hv
  ·cases hv
 ·cases hv
theorem Mp{x ix:V}{w iw:Value} (r:dX c Sz C x w) (ri:dX c Sz C ix iw){Kv:V->Prop}{K:Value->Bool} (k:∀v w,dX c Sz C v w->Kv v->K w=true) (hv:VD x ix Kv):Bu w iw K=true:=by
 unfold VD at hv;split at hv
 ·cases ri
  split at hv
  ·rename_i l
   cases r;obtain⟨b,e,hv⟩:=DB hv;show IY l _ (fun b:UInt8=>bA b.toNat fun n=>K (.int .u8 (.ofNat n)))=true;rw [Ca e,aT];exact k _ _ .int hv
  ·cases hv
 ·cases hv
theorem aAH{i:Nat}{x:V}{w:Value} (r:dX c Sz C x w){Kv:V->Prop}{K:Value->Bool} (k:∀v w,dX c Sz C v w->Kv v->K w=true) (hv:tK i x Kv):Vz i w K=true:=by
 unfold tK at hv;split at hv
 ·cases r with
  | tuple la ha=>
   obtain⟨v,e,hv⟩:=DB hv;obtain⟨u,eu,ru⟩:=iT.get ⟨la,ha⟩ e;rw [aDV,Ca eu];exact k v u ru hv
 ·cases hv
theorem aAI{kd:IntKind}{x:V}{w:Value} (r:dX c Sz C x w){Kv:V->Prop}{K:Value->Bool} (k:∀v w,dX c Sz C v w->Kv v->K w=true) (hv:AL kd x Kv):Vy kd w K=true:=by
 unfold AL at hv;split at hv
 ·cases r;rw [aDW];exact k _ _ .int hv
 ·cases hv
theorem Tt (s:VS P B Sb c h Sz){x:V}{w:Value} (r:dX c Sz C x w){Kv:V->Prop}{K:Value->Bool} (k:∀v w,dX c Sz C v w->Kv v->K w=true) (hv:aV x Kv):Oc w K=true:=by
 unfold aV at hv;split at hv
 ·cases r with
  | list ht hd=>cases hd<;>exact k _ _ .int hv
 ·cases r;exact k _ _ .int hv
 ·cases r with
  | acc e=>obtain⟨b,rfl⟩:=s.Gs _ _ _ e;exact k _ _ .int hv
 ·cases r;exact k _ _ .int hv
 ·cases r;exact k _ _ .int hv
 ·cases r;exact k _ _ .int hv
 ·cases hv
theorem Tu{x:V}{w:Value} (r:dX c Sz C x w){Kv:V->Prop}{K:Value->Bool} (k:∀v w,dX c Sz C v w->Kv v->K w=true) (hv:aAk x Kv):Gm w K=true:=by
 unfold aAk at hv;split at hv
 ·cases r;rw [aBt];exact k _ _ .int hv
 ·cases hv
theorem Src.Mr{i o n cc size:Nat}{sp:Option Nat} (hsp:WR sp=true){vs:List Value}{e:TypeId}{ck:CK} (ho:Sz.obj i=some (.cells vs e ck)) (hn:o+n*size<=vs.length) (h1:∀v∈(vs.drop o).take (n*size),oneCell v=true):Src Sz size (.slice (some ⟨i,o,sp⟩) n cc) n ((vs.drop o).take (n*size)):=by
 refine⟨fun k=>rfl,fun k hz=>?_,h1⟩;obtain⟨m,rfl⟩:=Nat.exists_eq_succ_of_ne_zero hz
 match sp,hsp with
 | none,_=>show BU Sz i o ((m+1)*size) k=_;rw [IH ho hn]
 | some 0,_=>show BU Sz i o ((m+1)*size) k=_;rw [IH ho hn]
theorem Iw (s:VS P B Sb c h Sz){size:Nat} (hs0:0<size){x:V}{w:Value} (r:dX c Sz (cJ B c h) x w){kv:Nat->List V->Prop} (hv:UX size x h kv):∃n vs ws,kv n vs/\iT c Sz (cJ B c h) vs ws/\vs.length=n*size/\(∀k,ET w k=k n)/\(vs.all jK=true->Src Sz size w n ws):=by
 unfold UX at hv;split at hv
 ·cases r
  exact⟨0,[],[],hv,.nil,by simp,fun k=>rfl,fun _=>⟨fun k=>rfl,fun k hz=>absurd rfl hz,fun v hv=>by cases hv⟩⟩
 ·rename_i O cs n
  obtain⟨hl,hv⟩:=hv;cases r with
  | list ht hd=>
   have hlen:∀k,ET w k=k n:=fun k=>by cases hd<;>rfl
   rcases Nat.eq_zero_or_pos n with hz | hz
   ·subst hz
    refine⟨0,_,[],hv,?_,by simp [Mm],hlen,fun _=>⟨hlen,fun k hz=>absurd rfl hz,fun v hv=>by cases hv⟩⟩;rw [Nat.zero_mul,List.take_zero];exact .nil
   ·cases hd with
    | nil=>omega
    | emp=>omega
    | @row b o _ cc sp vs e ck _ hsp hb hC ho hl2 hn hr=>
     have hpos:0<n*size:=Nat.mul_pos hz hs0;obtain⟨us,e',ck',g1,g2,g3⟩:=PW ht (.row hsp hb hC ho hl2 hn hr) (k:=0) (m:=n*size) (by omega) hpos;rw [ho]at g1;injection g1 with g1;injection g1 with g1;subst g1;rw [List.drop_zero,Nat.add_zero]at g3;refine⟨n,_,_,hv,g3,by rw [Mm,List.length_take];omega,hlen,fun h1=>Src.Mr hsp ho (by omega) fun v hv=>?_⟩;exact List.all_eq_true.1 (s.ones g3 h1) v hv
 ·rename_i i o n cc
  cases r with
  | own hZ=>
   split at hv
   ·rename_i vs t e
    obtain⟨hl,hv⟩:=hv;obtain⟨b,ws,a1,a2,a3,a4,a5⟩:=s.row i vs t e;rw [hZ]at a1;injection a1 with a1;subst a1;have l:=a5.len;have hr:=(a5.drop o).take (n*size);refine⟨n,_,_,hv,hr,by rw [List.length_take,List.length_drop];omega,fun k=>rfl,fun h1=>Src.row a4 (by omega) fun v hv=>List.all_eq_true.1 (s.ones hr h1) v hv⟩
   ·cases hv
 ·rename_i i n
  cases r with
  | acc hGz=>
   split at hv
   ·rename_i vs t m e
    obtain⟨rfl,hl,hv⟩:=hv;obtain⟨b,ws,olds,sz,a1,a2,a3,a4,a5,a6⟩:=s.dF i vs t m e;rw [hGz]at a1;injection a1 with a1;subst a1;have l:=a5.len;refine⟨m,vs,ws,hv,a5,hl,fun k=>rfl,fun h1=>?_⟩;have:=Src.Mr (n:=m) (cc:=m) (size:=size) (o:=0) (sp:=some 0) rfl a4 (by omega) (fun v hv=>List.all_eq_true.1 (s.ones a5 h1) v (by rw [List.drop_zero]at hv;exact List.mem_of_mem_take hv))
    rwa [List.drop_zero,List.take_of_length_le (by omega)]at this
   ·cases hv
 ·rename_i i n o q cc
  cases r with
  | tW hGz=>
   split at hv
   ·rename_i vs t m e
    obtain⟨rfl,hl,hv⟩:=hv;obtain⟨b,ws,olds,sz,a1,a2,a3,a4,a5,a6⟩:=s.dF i vs t m e;rw [hGz]at a1;injection a1 with a1;injection a1 with a1;injection a1 with a1;injection a1 with a1;subst a1;have l:=a5.len;have hr:=(a5.drop o).take (q*size);refine⟨q,_,_,hv,hr,by rw [List.length_take,List.length_drop];omega,fun k=>rfl,fun h1=>Src.Mr (n:=q) (cc:=cc) (size:=size) (o:=o) (sp:=some 0) rfl a4 (by omega) fun v hv=>List.all_eq_true.1 (s.ones hr h1) v hv⟩
   ·cases hv
 ·cases r
  exact⟨0,[],[],hv,.nil,by simp,fun k=>rfl,fun _=>⟨fun k=>rfl,fun k hz=>absurd rfl hz,fun v hv=>by cases hv⟩⟩
 ·rename_i l
  cases r;obtain⟨rfl,hv⟩:=hv;have hx:=Src.text Sz l;refine⟨l.length,_,bytesV l,hv,⟨by simp [bytesV],fun k v w e1 e2=>?_⟩,by simp,hx.len,fun _=>hx⟩;unfold bytesV at e2;rw [List.getElem?_map]at e1 e2;cases e:l[k]? with
  | none=>rw [e]at e1;cases e1
  | some b=>rw [e]at e1 e2;injection e1 with e1;injection e2 with e2;subst e1 e2;exact .int
 ·cases hv
theorem aAJ (s:VS P B Sb c h Sz){el size bytes:Nat} (hs0:0<size) (hsz:bL P el=some size){y x:V}{w u:Value} (r:dX c Sz (cJ B c h) y w) (q:dX c Sz (cJ B c h) x u){Kv:KV}{K:VK} (k:KR P B Sb c h Sz Kv K) (hv:kI el size bytes y x h Kv):Kk P el size bytes w u Sz K=true:=by
 obtain⟨m,vs,ws,hv,hr,hl,hlen,hsrc⟩:=Iw s hs0 q hv;cases m with
 | zero=>
  have hap:∀b n cc,w= .slice b n cc->n<=cc->Kv y h->Kk P el size bytes w u Sz K=true:=fun b n cc e hn hk=>by
   have hw:=k.here s r hk;subst e;show ET u _=true;rw [hlen];show(match Nat.ble n cc with | true=>K (.slice b n cc) Sz | false=>false)=true;rw [show Nat.ble n cc=true from Nat.ble_eq_true_of_le hn];exact hw
  simp only at hv;split at hv
  ·cases r;exact hap _ _ _ rfl (Nat.le_refl _) hv
  ·cases r with
   | acc e=>obtain⟨b,rfl⟩:=s.Gs _ _ _ e;exact hap _ _ _ rfl (Nat.le_refl _) hv
  ·cases r;exact hap _ _ _ rfl hv.1 hv.2
  ·cases r with
   | list ht hd=>
    cases hd with
    | nil=>exact hap _ _ _ rfl (Nat.le_refl _) hv
    | emp=>exact hap _ _ _ rfl (Nat.le_refl _) hv
    | row _ _ _ _ _ hn _=>exact hap _ _ _ rfl hn hv
  ·cases hv
 | succ m=>
  obtain⟨h1,hv⟩:=hv;have hx:=hsrc h1;split at hv
  ·obtain⟨hb,hv⟩:=hv
   cases r;rw [Wi hx (by omega) hb];obtain⟨i,e1,e2,e3⟩:=s.fresh;obtain⟨a1,a2,a3,a4⟩:=s.aAz e1 e2 e3 hsz hl hr;exact k _ _ _ _ _ a2 a3 a1 (.acc a4) (hv i e1)
  ·rename_i i n hv0
   cases ei:h i with
   | none=>simp only [ei]at hv
   | some ob=>
   cases ob with
   | row us t=>simp only [ei]at hv
   | map es=>simp only [ei]at hv
   | loop=>simp only [ei]at hv
   | dF us t n'=>
    simp only [ei]at hv;obtain⟨hn',ht',hul,hb,hv⟩:=hv;subst hn' ht';have e:=ei;obtain⟨b,ws2,olds,sz,a1,a2,a3,a4,a5,a6,a7,a8⟩:=s.dF i us _ _ e;cases r with
    | acc hGz=>
     rw [a1]at hGz;injection hGz with hGz;subst hGz;have l2:=a5.len;rw [Wj hx (by omega) hb a4 (by omega) hsz];obtain⟨b1,b2,b3,b4⟩:=s.aCD e a1 a4 hsz hl (by omega) hul a5 hr;exact k _ _ _ _ _ b2 b3 b1 (.acc b4) hv
  ·rename_i i o n cc hv0
   cases ei:h i with
   | none=>simp only [ei]at hv
   | some ob=>
   cases ob with
   | dF us t n'=>simp only [ei]at hv
   | map es=>simp only [ei]at hv
   | loop=>simp only [ei]at hv
   | row us t=>
    simp only [ei]at hv;obtain⟨hb,hlen0,hin,hout⟩:=hv;obtain⟨b,ws2,a1,a2,a3,a4,a5⟩:=s.row i us t ei;have l2:=a5.len;cases r with
    | own hZ=>
     rw [a1]at hZ;injection hZ with hZ;subst hZ;show ET u _=true;rw [hx.len];show BN Sz size (m+1) u _=true;rw [hx.first _ (by omega)];simp only [aT];rw [show Nat.ble ((n+(m+1))*(bytes+1)) 1099511627776=true from Nat.ble_eq_true_of_le hb];by_cases hc:n+(m+1)<=cc
     ·rw [show Nat.ble (n+(m+1)) cc=true from Nat.ble_eq_true_of_le hc]
      obtain⟨hfit,hv⟩:=hin hc;have hone:allB oneCell ws=true:=by rw [jT];exact s.ones hr h1
      show OQ size ws (some ⟨b,o,none⟩) n cc (n+(m+1)) Sz K=true;unfold OQ;simp only [show WR none=true from rfl,hone];show bA (o+n*size) (fun at_=>pU Sz b at_ ws fun Sz=>K (.slice (some ⟨b,o,none⟩) (n+(m+1)) cc) Sz)=true;rw [aT];show pU Sz b (o+n*size) ws _=true;unfold pU;rw [zJ a4];show mM (o+n*size) ws ws2 (fun vs=>mS Sz b (.cells vs t .exact) fun Sz=>K (.slice (some ⟨b,o,none⟩) (n+(m+1)) cc) Sz)=true;have l3:=hr.len;rw [sI,if_pos (by omega),eQ];obtain⟨s1,s2⟩:=s.setRow ei a1 (a5.splice hr (o+n*size));exact k c _ _ _ _ (.refl c) s2 s1 (.own a1) hv
     ·have:Nat.ble (n+(m+1)) cc=false:=by
       cases hq:Nat.ble (n+(m+1)) cc with
       | false=>rfl
       | true=>exact absurd (Nat.le_of_ble_eq_true hq) hc
      rw [this];have hv:=hout (by omega);show LO P el size ws (some ⟨b,o,none⟩) n (n+(m+1)) Sz K=true;show BU Sz b o (n*size) (fun old=>EU el old ws (n+(m+1)) none Sz K)=true;rw [IH a4 (by omega)];unfold EU;rw [jB];simp only [fO];obtain⟨j,e1,e2,e3⟩:=s.fresh;have hr2:=((a5.drop o).take (n*size)).app hr
      have hn2:((us.drop o).take (n*size)++vs).length=(n+(m+1))*size:=by
       rw [List.length_append,List.length_take,List.length_drop,hl,Nat.add_mul n,Nat.min_eq_left (by omega)]
      obtain⟨b1,b2,b3,b4⟩:=s.aAz e1 e2 e3 hsz hn2 hr2;exact k _ _ _ _ _ b2 b3 b1 (.acc b4) (hv j e1)
  ·cases hv
theorem aAK{x:V}{w:Value} (r:dX c Sz C x w){Kv:V->Prop}{K:Value->Bool} (k:∀v w,dX c Sz C v w->Kv v->K w=true) (hv:FQ P x Kv):aBq P w K=true:=by
 unfold FQ at hv;split at hv
 ·cases r with | ptr e=>exact k _ _ (.ptr e) hv
 ·cases r with | nP ht hd=>exact k _ _ (.nP ht hd) hv
 ·cases r with | lX e=>exact k _ _ (.lX e) hv
 ·cases r with | func a b e f=>exact k _ _ (.func a b e f) hv
 ·cases r with | iface e=>exact k _ _ (.iface e) hv
 ·split at hv
  ·rename_i s v t w'
   split at hv
   ·rename_i g hg
    cases r with
    | meth r=>
     cases r with
     | iface r=>
      show(match yU P t s with | some _=>_ | none=>false)=true;rw [hg];exact k _ _ (.meth (.iface r)) hv
   ·cases hv
  ·cases hv
 ·cases hv
theorem aHU (x y:Int):(x==y)=decide (x=y):=by
 by_cases e:x=y
 ·subst e;simp
 ·rw [decide_eq_false e];simpa using e
inductive NR:NK->Bool->Value->Prop
 | p0 {a:Addr}:NR .ptr false (.pointer (some a))
 | p1:NR .ptr true (.pointer none)
 | s0 {a:Addr} {n m:Nat}:NR .slice false (.slice (some a) n m)
 | s1 {n m:Nat}:NR .slice true (.slice none n m)
 | m0 {b:Nat}:NR .map false (.map (some b))
 | m1:NR .map true (.map none)
 | f0 {f:Fn} {a b:Array Value}:NR .func false (.func f a b)
 | f1:NR .func true .nilFunc
 | i0 {t:TypeId} {v:Value}:NR .iface false (.iface t v)
 | i1:NR .iface true .nilIface
theorem WG (hGz:∀i n w,c.Gz i n=some w->∃b,w= .slice (some ⟨b,0,some 0⟩) n n){a:V}{u:Value} (r:dX c Sz C a u){kk:NK}{x:Bool} (hk:Dq a=some (kk,x)):NR kk x u:=by
 cases r with
 | @list O cs n w ht hd=>
  cases cs with
  | nil=>cases hk
  | cons d cs=>
   injection hk with hk;injection hk with h1 h2;subst h1 h2;cases hd with
   | row=>exact .s0
 | acc e=>obtain⟨b,rfl⟩:=hGz _ _ _ e;injection hk with hk;injection hk with h1 h2;subst h1 h2;exact .s0
 | _=>first
  | (cases hk;done)
  | (injection hk with hk;injection hk with h1 h2;subst h1 h2;constructor)
theorem aGY{t:TypeId}{kk:NK}{x y:Bool}{u w:Value} (hx:NR kk x u) (hy:NR kk y w) (ho:x=true\/y=true) (hi:x=true->y=true->kk≠ .iface) (ht:VB P t=some kk) (k:Bool->Bool):lW P t u w k=k (x&&y):=by
 unfold VB at ht;cases hx<;>cases hy<;>first | (rcases ho with ho | ho<;>cases ho;done) | (exact absurd rfl (hi rfl rfl)) | (unfold lW;split at ht<;>first | (rename_i hu;simp only [hu];rfl) | (cases ht;done))
theorem Ms{op:BinOp}{t:TypeId}{a b:V}{u w:Value} (hGz:∀i n w,c.Gz i n=some w->∃b,w= .slice (some ⟨b,0,some 0⟩) n n) (r:dX c Sz C a u) (q:dX c Sz C b w){Kv:V->Prop}{K:Value->Bool} (k:∀v w,dX c Sz C v w->Kv v->K w=true) (hv:Mf P op t a b Kv):RM P op t u w K=true:=by
 unfold Mf at hv;split at hv
 ·rename_i ka x ha
  split at hv
  ·rename_i kb y hb
   obtain⟨rfl,ht,hxy,hi,hv⟩:=hv;have hx:=WG hGz r ha;have hy:=WG hGz q hb;have e:=aGY hx hy hxy hi ht;cases op<;>first | (cases hv;done) | skip
   ·have:RM P .eql t u w K=lW P t u w fun e=>kL e K:=by cases hx<;>cases hy<;>rfl
    rw [this,e,oP];exact k _ _ .bool hv
   ·have:RM P .neq t u w K=lW P t u w fun e=>kL (!e) K:=by cases hx<;>cases hy<;>rfl
    rw [this,e,oP];exact k _ _ .bool hv
  ·cases hv
 ·cases hv
theorem aAL{op:BinOp}{t:TypeId}{a b:V}{u w:Value} (hGz:∀i n w,c.Gz i n=some w->∃b,w= .slice (some ⟨b,0,some 0⟩) n n) (r:dX c Sz C a u) (q:dX c Sz C b w){Kv:V->Prop}{K:Value->Bool} (k:∀v w,dX c Sz C v w->Kv v->K w=true) (hv:aG P op t a b Kv):Vx P op t u w K=true:=by
 rw [DY];unfold aG at hv;split at hv
 ·rename_i j x
  split at hv
  ·rename_i k' y
   cases r;cases q;cases hs:qV op with
   | true=>
    rw [hs]at hv;obtain⟨hy,hv⟩:=hv;have hlt:Ef y 0=false:=by rw [GH];exact decide_eq_false (by omega)
    cases op<;>first | cases hs | skip
    ·show KL .shl j x y K=true
     unfold KL;rw [hlt];show BM j (x*2 ^ (min y.toNat j.bits)) K=true;unfold BM;rw [jA];exact k _ _ .int hv
    ·show KL .shr j x y K=true
     unfold KL;rw [hlt];show tY (x.fdiv (2 ^ (min y.toNat j.bits))) (fun n=>K (.int j n))=true;rw [jA];exact k _ _ .int hv
   | false=>
    rw [hs]at hv;obtain⟨rfl,hv⟩:=hv
    have hg:RM P op t (.int j x) (.int j y) K=DG op j x y K:=by
     rw [<-DY];exact aDX _ _ _ _ _ _ (by rintro rfl;cases hs) (by rintro rfl;cases hs)
    rw [hg]
    have hint:∀n,Kv (.int j (mU j n))->BM j n K=true:=fun n hv=>by
     unfold BM;rw [jA];exact k _ _ .int hv
    have h0:∀y:Int,y≠0->Jj y 0=false:=fun y hy=>by rw [DK];simpa using hy
    cases op<;>first
     | exact hint _ hv
     | (obtain⟨hy,hv⟩:=hv;show(match Jj y 0 with | true=>false | false=>_)=true;rw [h0 y hy];first | exact hint _ hv | (show tY _ _=true;rw [jA];exact k _ _ .int hv))
     | (show tY (j.wrap _) (fun n=>K (.int j n))=true;rw [jA];exact k _ _ .int hv)
     | (show kL _ K=true;rw [oP];simp only [DK,GH,aHU];first | exact k _ _ .bool hv | (have e1:(!decide (y<x))=decide (x<=y):=(by by_cases h:y<x;rw [decide_eq_true h,decide_eq_false (show ¬x<=y by omega)];rfl;rw [decide_eq_false h,decide_eq_true (show x<=y by omega)];rfl);rw [e1];exact k _ _ .bool hv) | (have e1:(!decide (x<y))=decide (y<=x):=(by by_cases h:x<y;rw [decide_eq_true h,decide_eq_false (show ¬y<=x by omega)];rfl;rw [decide_eq_false h,decide_eq_true (show y<=x by omega)];rfl);rw [e1];exact k _ _ .bool hv))
     | cases hv
     | cases hs
  ·cases hv
 ·rename_i x
  split at hv
  ·rename_i y
   cases r;cases q
   have e8:TE x y=decide (x=y):=by
    rw [DL];by_cases e:x=y
    ·subst e;simp
    ·rw [decide_eq_false e];simpa using e
   cases op<;>first
    | (show kL _ K=true;rw [oP];show K (.bool _)=true;first | (rw [e8];exact k _ _ .bool hv) | (rw [Np];exact k _ _ .bool hv))
    | (exact absurd hv id)
    | (obtain⟨hl,hv⟩:=hv
       show(yT x fun n=>yT y fun m=>match Nat.blt (n+m) 9223372036854775808 with | true=>wP x y fun l=>K (.string ⟨⟨l⟩⟩) | false=>false)=true;rw [jS,jS,show Nat.blt (x.length+y.length) 9223372036854775808=true from Nat.ble_eq_true_of_le hl];exact(jB x y _).trans (k _ _ .str hv))
  ·cases hv
 ·rename_i x
  split at hv
  ·rename_i y
   cases r;cases q;obtain⟨ht,hv⟩:=hv;unfold Qc at ht;split at ht
   ·rename_i hu
    have hb:(x==y)=decide (x=y):=by cases x<;>cases y<;>rfl
    cases op<;>first | cases hv | skip
    all_goals
     show lW P t (.bool x) (.bool y) _=true;unfold lW;simp only [hu,kH,oP,hb];exact k _ _ .bool hv
   ·cases ht
  ·cases hv
 ·exact Ms hGz r q k hv
theorem aCH{op:UnOp}{a:V}{u:Value} (r:dX c Sz C a u){Kv:V->Prop}{K:Value->Bool} (k:∀v w,dX c Sz C v w->Kv v->K w=true) (hv:IP op a Kv):unK op u K=true:=by
 unfold IP at hv;split at hv
 ·split at hv
  ·cases r;rw [aBu];exact k _ _ .bool hv
  ·cases hv
 ·split at hv
  ·cases r
   show BM _ _ K=true;unfold BM;rw [jA];exact k _ _ .int hv
  ·cases hv
 ·split at hv
  ·cases r
   unfold unK;simp only;rw [jA];exact k _ _ .int hv
  ·cases hv
 ·cases hv
theorem Ix{P:Program}{big:Bool}{ts:List TypeId}{a b:V}{w u:Value} (r:dX c Sz C a w) (q:dX c Sz C b u){Kv:V->Prop}{K:VK} (k:∀v w,dX c Sz C v w->Kv v->K w Sz=true) (hv:Dg big a b Kv):lL P (match big with | true=> .max | false=> .min) ts [w,u] Sz K=true:=by
 cases r<;>try (cases hv;done)
 cases q<;>try (cases hv;done)
 rename_i j x j' y;have hw:=k _ _ .int hv;cases big with
 | true=>
  show JH true [.int j' y] j x (fun v=>K v Sz)=true;show dN (Ef x y) (K (.int j y) Sz) (K (.int j x) Sz)=true;rw [GH];simp only [Int.max_def]at hw;by_cases h:x<y
  ·rw [if_pos (by omega)]at hw;simp only [decide_eq_true h];exact hw
  ·by_cases h2:x<=y
   ·rw [if_pos h2]at hw
    have:x=y:=by omega
    subst this;simp only [decide_eq_false h];exact hw
   ·rw [if_neg h2]at hw
    simp only [decide_eq_false h];exact hw
 | false=>
  show JH false [.int j' y] j x (fun v=>K v Sz)=true;show dN (Ef y x) (K (.int j y) Sz) (K (.int j x) Sz)=true;rw [GH];simp only [Int.min_def]at hw;by_cases h:y<x
  ·rw [if_neg (by omega)]at hw;simp only [decide_eq_true h];exact hw
  ·rw [if_pos (by omega)]at hw;simp only [decide_eq_false h];exact hw
inductive OR' (c:Cx) (Sz:St) (C:Nat->Prop):Option V->Option Value->Prop
 | none:OR' c Sz C none none
 | some {v:V} {w:Value} (h:dX c Sz C v w):OR' c Sz C (some v) (some w)
theorem WH{d:Nat}{o:Option V}{o':Option Value} (r:OR' c Sz C o o'){k:Nat->Prop}{K:Nat->Bool} (hk:∀n,k n->K n=true) (hv:PO d o k):Qm d o' K=true:=by
 cases r with
 | none=>exact hk _ hv
 | some r=>
  cases r<;>try (cases hv;done)
  rename_i j z;cases z with
  | ofNat n=>exact hk n hv
  | negSucc n=>cases hv
theorem tI{len cap:Nat}{lo hi mx:Option V}{lo' hi' mx':Option Value} (r1:OR' c Sz C lo lo') (r2:OR' c Sz C hi hi') (r3:OR' c Sz C mx mx'){k:Nat->Nat->Nat->Prop}{K:Nat->Nat->Nat->Bool} (hk:∀l h m,l<=h->h<=m->m<=cap->k l h m->K l h m=true) (hv:zZ len cap lo hi mx k):DH len cap lo' hi' mx' K=true:=by
 refine WH r3 (fun m hv=>WH r2 (fun h hv=>WH r1 (fun l hv=>?_) hv) hv) hv;obtain⟨h1,h2,h3,hv⟩:=hv;simp only [Nat.ble_eq_true_of_le h1,Nat.ble_eq_true_of_le h2,Nat.ble_eq_true_of_le h3];exact hk l h m h1 h2 h3 hv
theorem PX{d:Nat}{o:Option V}{k k':Nat->Prop} (hk:∀n,k n->k' n) (h:PO d o k):PO d o k':=by
 unfold PO at*;split at h
 ·exact hk _ h
 ·exact hk _ h
 ·cases h
theorem aAM{n c:Nat} (hc:n<=c){lo hi:Option V}{v:V}{k:Nat->Nat->Nat->Prop} (h:zZ n n lo hi (some v) k):zZ n c lo hi (some v) fun l h m=>m<=n/\k l h m:=by
 unfold zZ at*
 have h1:PO c (some v) fun m=>PO n hi fun h=>PO 0 lo fun l=>l<=h/\h<=m/\m<=n/\k l h m:=by
  unfold PO at h ⊢;split at h
  ·rename_i e;cases e
  ·exact h
  ·cases h
 exact PX (fun m=>PX fun h=>PX fun l ⟨a,b,d,e⟩=>⟨a,b,by omega,d,e⟩) h1
theorem aAN (s:VS P B Sb c h Sz){t el:TypeId}{size:Nat} (he:isSlice P t=some el) (hs:bL P el=some size){x:V}{w:Value} (r:dX c Sz C x w){lo hi mx:Option V}{lo' hi' mx':Option Value} (r1:OR' c Sz C lo lo') (r2:OR' c Sz C hi hi') (r3:OR' c Sz C mx mx'){k:V->Prop}{K:Value->Bool} (hk:∀v w,dX c Sz C v w->k v->K w=true) (hv:HM el size x lo hi mx h k):nZ P t w lo' hi' mx' Sz K=true:=by
 have dF:∀{i n b o q cc:Nat},c.Gz i n=some (.slice (some ⟨b,0,some 0⟩) n n)->(match h i with
  | some (.dF _ t n')=>n'=n/\t=el/\zZ q cc lo hi none fun l h m=>(l<m->k (.tW i n (o+l*size) (h-l) (m-l)))/\(m=l->k (.emp i n))
  | _=>False)->nZ P t (.slice (some ⟨b,o,some 0⟩) q cc) lo' hi' none Sz K=true:=by
  intro i n b o q cc e hq;split at hq
  ·rename_i vs t' n' ei
   obtain⟨rfl,rfl,hq⟩:=hq;obtain⟨b',us,olds,sz,a1,a2,a3,a4,a5,a6,a7⟩:=s.dF i vs t' n' ei;rw [e]at a1;injection a1 with a1;injection a1 with a1;injection a1 with a1;injection a1 with a1;subst a1;unfold nZ;simp only [he,hs];refine tI r1 r2 .none (fun l h m h1 h2 h3 hz=>?_) hq;obtain⟨hz,hz0⟩:=hz;simp only [aT];cases hw:Nat.beq m l with
   | true=>exact hk _ _ (.aAw e) (hz0 (Nat.eq_of_beq_eq_true hw))
   | false=>
    have h4:=Nat.ne_of_beq_eq_false hw;simp only;rw [zJ a4];simp only [hs];rw [show Nat.beq size size=true from Nat.beq_refl size];exact hk _ _ (.tW e) (hz (by omega))
  ·cases hq
 cases r<;>try (cases hv;done)
 ·rename_i O cs n ht hd
  cases r3 with
  | none=>cases hv
  | some r3'=>
   have hv:zZ n n lo hi (some _) fun l h m=>l<m/\h*size<=cs.length/\k (.list (.cut O (l*size) (h-l) (m-l)) ((cs.drop (l*size)).take ((h-l)*size)) (h-l)):=hv;cases hd with
   | nil=>
    unfold nZ;simp only [he,hs];exact tI r1 r2 (.some r3') (fun l h m h1 h2 h3 hq=>absurd hq.1 (by omega)) hv
   | emp=>
    unfold nZ;simp only [he,hs];exact tI r1 r2 (.some r3') (fun l h m h1 h2 h3 hq=>absurd hq.1 (by omega)) hv
   | @row b o _ cc sp vs e ck _ hsp hb hC ho hl hn hr=>
    unfold nZ;simp only [he,hs];refine tI r1 r2 (.some r3') (fun l h m h1 h2 h3 hq=>?_) (aAM hn hv);obtain⟨hmn,hlm,hcs,hq⟩:=hq;have hle:l*size<=cs.length:=Nat.le_trans (Nat.mul_le_mul_right _ h1) hcs;simp only [aT]
    have hne:Nat.beq m l=false:=by
     cases hw:Nat.beq m l with
     | false=>rfl
     | true=>have:=Nat.eq_of_beq_eq_true hw;omega
    rw [hne]
    have hw:K (.slice (some ⟨b,o+l*size,none⟩) (h-l) (m-l))=true:=by
     refine hk _ _ (.list (.cut ht) (.row rfl hb hC ho ?_ (by omega) fun j d v x1 x2=>?_)) hq
     ·rw [List.length_take,List.length_drop]
      omega
     ·rw [List.getElem?_take]at x1
      split at x1
      ·rw [List.getElem?_drop]at x1
       exact hr (l*size+j) d v x1 (by rw [<-Nat.add_assoc];exact x2)
      ·cases x1
    match sp,hsp with
    | none,_=>exact hw
    | some 0,_=>exact hw
 ·unfold nZ
  simp only [he,hs];refine tI r1 r2 r3 (fun l h m h1 h2 h3 hv=>?_) hv;simp only [aT];have:h-l=0/\m-l=0:=by omega
  rw [this.1,this.2];exact hk _ _ .nil hv
 ·rename_i i n e
  obtain⟨b,rfl⟩:=s.Gs _ _ _ e;cases r3 with
  | none=>exact dF e hv
  | some _=>cases hv
 ·rename_i i n o q cc b e
  cases r3 with
  | none=>exact dF e hv
  | some _=>cases hv
 ·rename_i i o n m b e
  unfold nZ;simp only [he,hs];refine tI r1 r2 r3 (fun l h m h1 h2 h3 hv=>?_) hv;simp only [aT];have hw:K (.slice (some ⟨b,if m=l then o else o+l*size,none⟩) (h-l) (m-l))=true:=hk _ _ (.own e) hv;cases hq:Nat.beq m l with
  | true=>rw [if_pos (Nat.eq_of_beq_eq_true hq)]at hw;exact hw
  | false=>rw [if_neg (Nat.ne_of_beq_eq_false hq)]at hw;exact hw
theorem Mt (s:VS P B Sb c h Sz){t el:TypeId}{zero:List Value}{m:Nat} (he:isSlice P t=some el) (hs:bL P el=some (m+1)) (hz:pJ P el=some zero) (hl:Nat.beq zero.length (m+1)=true) (hf:allB aY zero=true){x:V}{w:Value} (r:dX c Sz (cJ B c h) x w){Kv:Hp->Prop}{K:VK} (k:∀h' S',vG (cJ B c h) Sz S' (cJ B c h')->VS P B Sb c h' S'->Kv h'->K (.tuple #[]) S'=true) (hv:Mh zero x h Kv):lL P .clear [t] [w] Sz K=true:=by
 have fin:∀{b o q cc:Nat} {sp:Option Nat},WR sp=true->pU Sz b o (List.replicate (q+1) zero).flatten (fun Sz=>K (.tuple #[]) Sz)=true->lL P .clear [t] [.slice (some ⟨b,o,sp⟩) (q+1) cc] Sz K=true:=by
  intro b o q cc sp hsp hw
  show(match isSlice P t with
   | some elem=>match bL P elem,pJ P elem with
    | some size,some zero=>match(some (⟨b,o,sp⟩:Addr)),q+1 with
     | none,_=>K (.tuple #[]) Sz
     | some _,0=>K (.tuple #[]) Sz
     | some ⟨i,o,sp⟩,n+1=>match WR sp,Nat.beq zero.length size,allB aY zero,size with
      | true,true,true,_+1=>Ek zero (n+1) fun cs=>pU Sz i o cs fun Sz=>K (.tuple #[]) Sz
      | _,_,_,_=>false
    | _,_=>false
   | none=>false)=true
  simp only [he,hs,hz,hsp,hl,hf];rw [wK];exact hw
 have none0:∀{a:Addr} {cc:Nat},K (.tuple #[]) Sz=true->lL P .clear [t] [.slice (some a) 0 cc] Sz K=true:=by
  intro a cc hw
  show(match isSlice P t with
   | some elem=>match bL P elem,pJ P elem with
    | some size,some zero=>K (.tuple #[]) Sz
    | _,_=>false
   | none=>false)=true
  simp only [he,hs,hz];exact hw
 have zs:∀{q:Nat} {z:List V},AK zero=some z->iT c Sz (cJ B c h) (List.replicate (q+1) z).flatten (List.replicate (q+1) zero).flatten:=fun hz=>(IS hz).flatten _
 have Ea:∀{p:List V->Prop},mY zero p->∃z,AK zero=some z/\p z:=by
  intro p hp;unfold mY at hp;split at hp
  ·rename_i z e;exact⟨z,e,hp⟩
  ·cases hp
 have here:=fun(hv:Kv h)=>k h Sz (.refl _ Sz) s hv;unfold Mh at hv;split at hv
 ·cases r
  show(match isSlice P t with
   | some elem=>match bL P elem,pJ P elem with
    | some size,some zero=>K (.tuple #[]) Sz
    | _,_=>false
   | none=>false)=true
  simp only [he,hs,hz];exact here hv
 ·cases r with
  | own e=>
   split at hv
   ·exact none0 (here hv)
   ·obtain⟨z,hz1,hq⟩:=Ea hv
    split at hq
    ·rename_i vs t' e1
     exact fin rfl (LI s e1 e (zs hz1) hq.1 k hq.2)
    ·cases hq
 ·cases r with
  | acc e=>
   obtain⟨b,rfl⟩:=s.Gs _ _ _ e;split at hv
   ·exact none0 (here hv)
   ·obtain⟨z,hz1,hq⟩:=Ea hv
    split at hq
    ·rename_i vs t' m' e1
     obtain⟨rfl,hq⟩:=hq;exact fin rfl (LJ s e1 e (zs hz1) (by omega) k hq.2)
    ·cases hq
 ·cases r with
  | tW e=>
   split at hv
   ·exact none0 (here hv)
   ·obtain⟨z,hz1,hq⟩:=Ea hv
    split at hq
    ·rename_i vs t' m' e1
     obtain⟨rfl,hq⟩:=hq;exact fin rfl (LJ s e1 e (zs hz1) hq.1 k hq.2)
    ·cases hq
 ·cases hv
theorem Tv (s:VS P B Sb c h Sz){ts:List TypeId}{dT el:TypeId}{m:Nat} (he:isSlice P dT=some el) (hs:bL P el=some (m+1)){y x:V}{w u:Value} (r:dX c Sz (cJ B c h) y w) (q:dX c Sz (cJ B c h) x u){Kv:KV}{K:VK} (k:KR P B Sb c h Sz Kv K) (hv:Hd (m+1) y x h Kv):YE P (dT::ts) w u Sz K=true:=by
 unfold Hd at hv;obtain⟨n,vs,ws,hv,hr,hl,hlen,hsrc⟩:=Iw s (Nat.succ_pos m) q hv;cases y with
 | own i o d cc=>
  cases r with
  | @own _ _ _ _ b hZ=>
  obtain⟨hn,hv⟩:=hv;unfold YE;simp only [he,hs];have hmin:Nat.min n d=n:=Nat.min_eq_left hn;rw [hlen,aT,hmin];cases n with
  | zero=>exact k.here s .int hv
  | succ n=>
   obtain⟨h1,hv⟩:=hv;have hS:=hsrc h1;show BN Sz (m+1) (n+1) u _=true;rw [hS.first _ (by omega)];have ho:allB oneCell ws=true:=by rw [jT];exact List.all_eq_true.2 hS.one
   simp only [show WR none=true from rfl,ho];split at hv
   ·rename_i us t e
    refine LI s e hZ hr hv.1 (fun h' S' f s' hv'=>?_) hv.2;exact k c h' S' _ _ (.refl c) f s' .int hv'
   ·cases hv
 | _=>cases hv
theorem aAO{t el:TypeId}{len size:Nat} (he:P.underlying t=some (.array len el)) (hs:bL P el=some size){x:V}{w:Value} (r:dX c Sz C x w){lo hi mx:Option V}{lo' hi' mx':Option Value} (r1:OR' c Sz C lo lo') (r2:OR' c Sz C hi hi') (r3:OR' c Sz C mx mx'){k:V->Prop}{K:Value->Bool} (hk:∀v w,dX c Sz C v w->k v->K w=true) (hv:aGT len size x lo hi mx k):nZ P t w lo' hi' mx' Sz K=true:=by
 cases r<;>try (cases hv;done)
 rename_i i o b e;unfold nZ;simp only [he,hs];refine tI r1 r2 r3 (fun l h m h1 h2 h3 hv=>?_) hv;simp only [aT];have hw:K (.slice (some ⟨b,if m=l then o else o+l*size,none⟩) (h-l) (m-l))=true:=hk _ _ (.own e) hv;cases hq:Nat.beq m l with
 | true=>rw [if_pos (Nat.eq_of_beq_eq_true hq)]at hw;exact hw
 | false=>rw [if_neg (Nat.ne_of_beq_eq_false hq)]at hw;exact hw
theorem aAP{t:TypeId} (he:P.underlying t=some .string){x:V}{w:Value} (r:dX c Sz C x w){lo hi:Option V}{lo' hi':Option Value} (r1:OR' c Sz C lo lo') (r2:OR' c Sz C hi hi'){k:V->Prop}{K:Value->Bool} (hk:∀v w,dX c Sz C v w->k v->K w=true) (hv:aGS x lo hi k):nZ P t w lo' hi' none Sz K=true:=by
 cases r<;>try (cases hv;done)
 rename_i s;unfold nZ;simp only [he];rw [jS];refine tI r1 r2 .none (fun l h m h1 h2 h3 hv=>?_) hv;rw [wQ,if_pos (by omega),uE,if_pos (by simp;omega)];exact hk _ _ .str hv
theorem aCI (s:VS P B Sb c h Sz){t el:TypeId}{info:TypeInfo}{zero:List Value}{n:Nat} (he:isSlice P t=some el) (hi:P.info? el=some info) (hz:pJ P el=some zero) (hl:Nat.beq zero.length info.size=true) (hn:info.size=n+1) (hf:allB aY zero=true){x y:V}{w u:Value} (r:dX c Sz C x w) (q:dX c Sz C y u){Kv:KV}{K:VK} (k:KR P B Sb c h Sz Kv K) (hv:Gy el info.bytes zero x y h Kv):pW P t w u Sz K=true:=by
 unfold Gy at hv;cases r<;>try (cases hv;done)
 rename_i j z;cases z with
 | negSucc n=>cases hv
 | ofNat l=>
 cases q<;>try (cases hv;done)
 rename_i j' z;cases z with
 | negSucc n=>cases hv
 | ofNat cc=>
  obtain⟨h1,h2,h3,hv⟩:=hv;unfold mY at hv;split at hv
  ·rename_i zs e
   rw [hn]at hl;unfold pW;simp only [he,hi,hz,Nat.ble_eq_true_of_le h1,Nat.ble_eq_true_of_le h2,Nat.ble_eq_true_of_le h3,Nat.ble_eq_true_of_le (show cc<=1099511627776 by omega),hl,hn,hf];rw [wK];obtain⟨c',h',i,a1,a2,a3,a4,a5⟩:=OG s ((IS e).flatten cc) hv;rw [fO];exact k c' h' _ _ _ a1 a2 a3 (.own a4) a5
  ·cases hv
end
end Go.Am
