/- A ballot, as it is meant: rules on plain data. -/
import Derived.Test.YtpcbceaggaddfaaGreatDoorGe
import Derived.Test.YtpcbceaggaddfaaGreatDoorGd

noncomputable section
set_option maxRecDepth 100000
set_option linter.unusedVariables false
namespace Go.Am
structure Mg where
 kd:Nat
 h:Int
 r:Int
 vl:Int
 tx:List UInt8
structure Ba where
 s:Bs
 l:List Vo
abbrev R3:=Ba×List Mg×Bool
namespace Ba
def put (a:Ba) (v:Vo):Ba:=if a.s.takes a.l v then⟨a.s,Pd v a.l⟩else a
def to (a:Ba) (z:Int):Ba:=⟨{a.s with st:=z,Fy:=0},a.l⟩
def iL (a:Ba) (r:Int):Ba:=⟨{a.s with st:=1,Fy:=0,rd:=r,prop:=false,seen:=false},a.l⟩
def say (a:Ba) (k:Nat) (vl:Int) (tx:List UInt8):Ba×List Mg:=(a.put ⟨a.s.me,a.s.rd,k,vl,tx⟩,[⟨k,a.s.h,a.s.rd,vl,tx⟩])
def pr (a:Ba) (r:Int):Option Vo:=a.l.find? fun v=>v.at r (a.s.pro r) 2
def wC (a:Ba) (r:Int) (k:Nat) (tx:List UInt8):Nat:=UW (fun v=>decide (v.rd=r)&&decide (v.kd=k)&&decide (v.tx=tx)) a.s.n.toNat a.l
def all (a:Ba) (r:Int) (k:Nat):Nat:=UW (fun v=>decide (v.rd=r)&&decide (v.kd=k)) a.s.n.toNat a.l
def aKG (a:Ba) (r:Int):Nat:=UW (fun v=>decide (v.rd=r)) a.s.n.toNat a.l
def zE (a:Ba) (r:Int) (k:Nat) (tx:List UInt8):Bool:=decide (a.s.n-a.s.t<=(a.wC r k tx:Int))
def rounds (a:Ba):List Int:=dd (a.l.map (·.rd))
def no (a:Ba):R3:=(a,[],false)
def yes (p:Ba×List Mg):R3:=(p.1,p.2,true)
def wJ (a:Ba) (r:Int):Option (List UInt8):=match a.pr r with
 | some v=>if a.zE r 4 v.tx then some v.tx else none
 | none=>none
def rO (a:Ba):R3:=match a.rounds.findSome? a.wJ with
 | some tx=>(⟨{a.s with dec:=tx},a.l⟩,[],true)
 | none=>a.no
def yB (a:Ba) (r:Int):Bool:=decide (a.s.rd<r)&&decide (a.s.t<(a.aKG r:Int))
def skip (a:Ba):R3:=match a.rounds.reverse.find? a.yB with
 | some r=>(a.iL r,[],true)
 | none=>a.no
def oK (a:Ba) (tx:List UInt8) (free:Bool):Ba×List Mg:=(a.to 2).say 3 0 (if !free&& !decide (a.s.lock=tx)then []else tx)
def fresh (a:Ba) (may:List (List UInt8)):R3:=match a.pr a.s.rd with
 | some v=>if decide (a.s.st=1)&&decide (v.vl= -1)&&may.contains v.tx then yes (a.oK v.tx (decide (a.s.lock=[])))else a.no
 | none=>a.no
def old (a:Ba):R3:=match a.pr a.s.rd with
 | some v=>if decide (a.s.st=1)&& !decide (v.vl= -1)&&a.zE v.vl 3 v.tx then yes (a.oK v.tx (decide (a.s.HZ<=v.vl)))else a.no
 | none=>a.no
def lock (a:Ba):R3:=match a.pr a.s.rd with
 | some v=>if !decide (a.s.st=1)&& !a.s.seen&&a.zE a.s.rd 3 v.tx then
  (if a.s.st=3 then(⟨{a.s with seen:=true,valid:=v.tx,sG:=a.s.rd},a.l⟩,[],true)
   else yes ((⟨{a.s with seen:=true,valid:=v.tx,sG:=a.s.rd,lock:=v.tx,HZ:=a.s.rd,st:=3,Fy:=0},a.l⟩:Ba).say 4 0 v.tx))
  else a.no
 | none=>a.no
def nothing (a:Ba):R3:=if decide (a.s.st=2)&&a.zE a.s.rd 3 []then yes ((a.to 3).say 4 0 [])else a.no
def wants (a:Ba) (want:List UInt8):List UInt8×Int:=if a.s.valid=[]then(want,-1)else(a.s.valid,a.s.sG)
def vH (a:Ba) (want:List UInt8):R3:=
 if decide (a.s.st=1)&& !a.s.prop&&decide (a.s.pro a.s.rd=a.s.me)&& !decide ((a.wants want).1=[])then yes ((⟨{a.s with prop:=true},a.l⟩:Ba).say 2 (a.wants want).2 (a.wants want).1)else a.no
def BA (a:Ba) (want:List UInt8) (may:List (List UInt8)):Nat->R3
 | 0=>a.rO
 | 1=>a.skip
 | 2=>a.fresh may
 | 3=>a.old
 | 4=>a.lock
 | 5=>a.nothing
 | _=>a.vH want
def from_ (a:Ba) (want:List UInt8) (may:List (List UInt8)):Nat->Nat->R3
 | 0,_=>a.no
 | n+1,i=>if(a.BA want may i).2.2 then a.BA want may i else from_ a want may n (i+1)
def Ao (a:Ba):Nat:=if a.s.me=0 then 1 else 7
def run (want:List UInt8) (may:List (List UInt8)):Nat->Ba->List Mg->Ba×List Mg
 | 0,a,out=>(a,out)
 | n+1,a,out=>if a.s.dec=[]then(if(a.from_ want may a.Ao 0).2.2 then run want may n (a.from_ want may a.Ao 0).1 (out++(a.from_ want may a.Ao 0).2.1)else(a,out))else(a,out)
def Bw (a:Ba) (want:List UInt8) (may:List (List UInt8)):Ba×List Mg:=run want may 1000 a []
def late (a:Ba):Ba×List Mg:=
 if a.s.st=1 then(a.to 2).say 3 0 []
 else if a.s.st=2 then(if decide (a.s.n-a.s.t<=(a.all a.s.rd 3:Int))then(a.to 3).say 4 0 []else(a,[]))
 else if decide (a.s.n-a.s.t<=(a.all a.s.rd 4:Int))&&decide (a.s.rd<99)then(a.iL (a.s.rd+1),[])else(a,[])
def aJk (a:Ba):Ba:=⟨{a.s with Fy:=min (a.s.Fy+1) 1099511627776},a.l⟩
def UX (a:Ba) (fr:Int) (k:Nat) (h r vl:Int) (tx:List UInt8):Ba:=if decide (h=a.s.h)&&decide (2<=k)&&decide (k<=4)&&decide (r<100)then a.put ⟨fr,r,k,vl,tx⟩else a
end Ba
structure kD (a:Ba):Prop where
 ok:bOk a.s.h a.s.n a.s.t a.s.me
 rd:0<=a.s.rd/\a.s.rd<=99
 st:1<=a.s.st/\a.s.st<=3
 Fy:0<=a.s.Fy/\a.s.Fy<=1099511627776
 lk:XS a.s.lock a.s.HZ a.s.rd=true
 vl:XS a.s.valid a.s.sG a.s.rd=true
 dec:a.s.dec.length<=2048
 OX:a.l.Pairwise fun u v=>u.lt v=true
 vs:∀v∈a.l,v.may a.s.n=true/\(v.kd=2->v.fr=a.s.pro v.rd)
theorem lt_iff (a b:Vo):a.lt b=true↔(a.rd<b.rd\/(a.rd=b.rd/\(a.fr<b.fr\/(a.fr=b.fr/\a.kd<b.kd)))):=by unfold Vo.lt;simp
theorem Ga (v:Vo) (r f:Int) (k:Nat):v.at r f k=true↔(v.rd=r/\v.fr=f/\v.kd=k):=by unfold Vo.at;simp [and_assoc]
theorem OF (v:Vo) (n:Int):v.may n=true↔(1<=v.fr/\v.fr<=n/\0<=v.rd/\v.rd<100/\v.tx.length<=2048)/\((v.kd=2/\v.tx≠[]/\ -1<=v.vl/\v.vl<v.rd)\/((v.kd=3\/v.kd=4)/\v.vl=0)):=by
 unfold Vo.may;simp only [bT,uI,Xc,VI];by_cases h2:v.kd=2
 ·rw [if_pos h2]
  simp only [bT,decide_eq_true_eq,uI,VI];constructor
  ·rintro⟨⟨⟨⟨⟨q1,q2⟩,q3⟩,q4⟩,q5⟩,⟨⟨q6,q7⟩,q8⟩⟩
   exact⟨⟨by omega,by omega,by omega,by omega,by omega⟩,.inl ⟨h2,q6,q7,q8⟩⟩
  ·rintro⟨⟨q1,q2,q3,q4,q5⟩,⟨_,q6,q7,q8⟩ | ⟨q6,_⟩⟩
   ·exact⟨⟨⟨⟨⟨by omega,by omega⟩,by omega⟩,by omega⟩,by omega⟩,⟨⟨q6,q7⟩,q8⟩⟩
   ·omega
 ·rw [if_neg h2]
  by_cases h3:v.kd=3\/v.kd=4
  ·rw [if_pos h3]
   simp only [decide_eq_true_eq];constructor
   ·rintro⟨⟨⟨⟨⟨q1,q2⟩,q3⟩,q4⟩,q5⟩,q6⟩
    exact⟨⟨by omega,by omega,by omega,by omega,by omega⟩,.inr ⟨h3,q6⟩⟩
   ·rintro⟨⟨q1,q2,q3,q4,q5⟩,⟨q6,_⟩ | ⟨_,q6⟩⟩
    ·exact absurd q6 h2
    ·exact⟨⟨⟨⟨⟨by omega,by omega⟩,by omega⟩,by omega⟩,by omega⟩,q6⟩
  ·rw [if_neg h3]
   simp only [cJ,and_false,false_iff]
   rintro⟨_,⟨q6,_⟩ | ⟨q6,_⟩⟩
   ·exact h2 q6
   ·exact h3 q6
theorem IA (v:Vo) (l:List Vo):(Pd v l).Perm (l++[v]):=by
 induction l with
 | nil=>exact .refl _
 | cons u l ih=>
  unfold Pd;split
  ·exact(List.perm_append_comm (l₁:=[v]) (l₂:=u::l))
  ·exact ih.cons u
theorem Gc (l:List Vo):(sortV l).Perm l:=by
 induction l with
 | nil=>exact .refl _
 | cons v l ih=>
  unfold sortV;exact(IA v _).trans (List.perm_append_comm.trans (ih.cons v))
theorem aKH{u v:Vo} (h:¬(u.rd=v.rd/\u.fr=v.fr/\u.kd=v.kd)):u.lt v=true\/v.lt u=true:=by
 rw [lt_iff,lt_iff];omega
theorem Vj{v:Vo}{l:List Vo} (h:l.Pairwise fun u v=>u.lt v=true) (hf:v.free l=true):(Pd v l).Pairwise fun u v=>u.lt v=true:=by
 have uR:∀u∈l,¬(u.rd=v.rd/\u.fr=v.fr/\u.kd=v.kd):=by
  intro u hu e;unfold Vo.free at hf;rw [Kl,VL]at hf;exact hf u hu ((Ga _ _ _ _).2 e)
 clear hf;induction l with
 | nil=>exact List.pairwise_singleton _ _
 | cons u l ih=>
  rw [rC]at h;unfold Pd;split
  ·rename_i hlt
   rw [rC];refine⟨fun w hw=>?_,rC.2 h⟩;rcases cO.1 hw with rfl | hw
   ·exact hlt
   ·have:=h.1 w hw
    rw [lt_iff]at hlt this ⊢;omega
  ·rename_i hlt
   rw [rC];refine⟨fun w hw=>?_,ih h.2 fun w hw=>uR w (.tail _ hw)⟩;rcases oR.1 ((IA v l).mem_iff.1 hw)with hw | hw
   ·exact h.1 w hw
   ·simp at hw;subst hw
    rcases aKH (uR u (.head _))with q | q
    ·exact q
    ·exact absurd q hlt
theorem aKI:∀{l l':List Vo},l.Pairwise (fun u v=>u.lt v=true)->l'.Pairwise (fun u v=>u.lt v=true)->l.Perm l'->l=l':=by
 intro l;induction l with
 | nil=>intro l' _ _ p;exact(List.nil_perm.1 p).symm
 | cons a l ih=>
  intro l' h h' p;cases l' with
  | nil=>exact absurd p (by intro p;have:=p.length_eq;simp at this)
  | cons b l'=>
   rw [rC]at h h';have irr:∀v:Vo,¬v.lt v=true:=fun v q=>by rw [lt_iff]at q;omega
   have e:a=b:=by
    rcases cO.1 (p.mem_iff.1 (.head l))with q | q
    ·exact q
    ·rcases cO.1 (p.symm.mem_iff.1 (.head l'))with q2 | q2
     ·exact q2.symm
     ·have h1:=h'.1 a q
      have h2:=h.1 b q2;rw [lt_iff]at h1 h2;omega
   subst e;rw [ih h.2 h'.2 p.cons_inv]
theorem aKJ{l:List Vo} (h:l.Pairwise fun u v=>u.lt v=true){u v:Vo} (hu:u∈l) (hv:v∈l) (e:u.rd=v.rd/\u.fr=v.fr/\u.kd=v.kd):u=v:=by
 induction l with
 | nil=>cases hu
 | cons a l ih=>
  rw [rC]at h;rcases cO.1 hu with rfl | hu'
  ·rcases cO.1 hv with rfl | hv
   ·rfl
   ·have:=h.1 v hv;rw [lt_iff]at this;omega
  ·rcases cO.1 hv with e2 | CC
   ·subst e2;have:=h.1 u hu';rw [lt_iff]at this;omega
   ·exact ih h.2 hu' CC
theorem Kb{l l':List Vo} (h:l.Pairwise fun u v=>u.lt v=true) (p:l'.Perm l) (r f:Int) (k:Nat):(l'.find? fun v=>v.at r f k)=l.find? fun v=>v.at r f k:=by
 cases e:l.find? fun v=>v.at r f k with
 | none=>
  rw [VL]at e ⊢;exact fun v hv=>e v (p.mem_iff.1 hv)
 | some u=>
  cases e':l'.find? fun v=>v.at r f k with
  | none=>
   rw [VL]at e';exact absurd (QB (p:=fun v:Vo=>v.at r f k) e) (e' u (p.mem_iff.2 (Cd e)))
  | some u'=>
   congr 1
   have h1:=(Ga _ _ _ _).1 (QB (p:=fun v:Vo=>v.at r f k) e);have h2:=(Ga _ _ _ _).1 (QB (p:=fun v:Vo=>v.at r f k) e');exact aKJ h (p.mem_iff.1 (Cd e')) (Cd e) (by omega)
theorem aFU{l l':List Vo} (p:l'.Perm l) (f:Vo->Bool):l'.any f=l.any f:=by
 rw [pL,KY,KY];exact⟨fun⟨v,h1,h2⟩=>⟨v,p.mem_iff.1 h1,h2⟩,fun⟨v,h1,h2⟩=>⟨v,p.mem_iff.2 h1,h2⟩⟩
theorem Kc{l l':List Vo} (p:l'.Perm l) (f:Vo->Bool) (n:Nat):UW f n l'=UW f n l:=by
 unfold UW
 congr 2
 funext i
 exact aFU p _
theorem Ge{s:Bs}{l l':List Vo} (h:l.Pairwise fun u v=>u.lt v=true) (p:l'.Perm l) (v:Vo):s.takes l' v=s.takes l v:=by
 unfold Bs.takes Vo.free;rw [Kb h p]
theorem aDb{l l':List Vo} (h:l.Pairwise fun u v=>u.lt v=true) (p:l'.Perm l):sortV l'=l:=by
 refine aKI ?_ h ((Gc l').trans p)
 have hk:∀l2:List Vo,(l2.Pairwise fun u v=>¬(u.rd=v.rd/\u.fr=v.fr/\u.kd=v.kd))->(sortV l2).Pairwise fun u v=>u.lt v=true:=by
  intro l2;induction l2 with
  | nil=>intro _;exact .nil
  | cons v l2 ih=>
   intro q;rw [rC]at q;unfold sortV;refine Vj (ih q.2) ?_;unfold Vo.free;rw [Kl,VL];intro u hu e;have e:=(Ga _ _ _ _).1 e;exact q.1 u ((Gc l2).mem_iff.1 hu) (by omega)
 refine hk l' ?_;refine(p.symm.pairwise_iff (R:=fun u v:Vo=>¬(u.rd=v.rd/\u.fr=v.fr/\u.kd=v.kd)) (fun {a b} q=>by omega)).1 (h.imp fun {a b} q=>?_);rw [lt_iff]at q;omega
theorem aAq{l:List Vo}{n:Int} (h:l.Pairwise fun u v=>u.lt v=true) (hn:n<=7) (hv:∀v∈l,v.may n=true):l.length<=2400:=by
 let code:Vo->Nat:=fun v=>(v.rd.toNat*8+v.fr.toNat)*3+(v.kd-2)
 have hb:∀v∈l,code v<2400:=fun v hm=>by
  obtain⟨⟨a1,a2,a3,a4,_⟩,q⟩:=(OF v n).1 (hv v hm);show(v.rd.toNat*8+v.fr.toNat)*3+(v.kd-2)<2400;rcases q with ⟨q,_⟩ | ⟨q,_⟩<;>omega
 have hp:l.Pairwise fun u v=>code u<code v:=by
  refine List.Pairwise.imp_of_mem ?_ h;intro u v hu Lu q;obtain⟨⟨a1,a2,a3,a4,_⟩,q1⟩:=(OF u n).1 (hv u hu);obtain⟨⟨b1,b2,b3,b4,_⟩,q2⟩:=(OF v n).1 (hv v Lu);rw [lt_iff]at q;show(u.rd.toNat*8+u.fr.toNat)*3+(u.kd-2)<(v.rd.toNat*8+v.fr.toNat)*3+(v.kd-2);rcases q1 with ⟨q1,_⟩ | ⟨q1,_⟩<;>rcases q2 with ⟨q2,_⟩ | ⟨q2,_⟩<;>omega
 have go:∀(l:List Vo) (a:Nat),(l.Pairwise fun u v=>code u<code v)->(∀v∈l,a<=code v/\code v<2400)->l.length+a<=2400\/l=[]:=by
  intro l;induction l with
  | nil=>intro a _ _;exact .inr rfl
  | cons v l ih=>
   intro a hp hb;rw [rC]at hp;have hv:=hb v (.head _);rcases ih (code v+1) hp.2 (fun u hu=>⟨hp.1 u hu,(hb u (.tail _ hu)).2⟩)with q | q
   ·left;simp;omega
   ·subst q;left;simp;omega
 rcases go l 0 hp (fun v hv=>⟨mP _,hb v hv⟩)with q | q
 ·omega
 ·subst q;simp
theorem tS (tx:List UInt8) (r now:Int):XS tx r now=true↔(tx.length<=2048/\ -1<=r/\r<=now/\(tx=[]↔r= -1)):=by
 unfold XS;simp only [bT,decide_eq_true_eq,decide_eq_decide,and_assoc]
theorem aDc (s:Bs) (l:List Vo) (v:Vo):s.takes l v=true↔(¬(v.kd=2/\(v.rd<0\/v.fr≠s.pro v.rd))/\v.may s.n=true/\v.free l=true):=by
 unfold Bs.takes;simp only [bT,uI,Bool.and_eq_false_iff,Xc,VI,Bool.not_eq_false',decide_eq_true_eq];constructor
 ·rintro⟨h,h2,h3⟩
  refine⟨fun⟨q1,q2⟩=>?_,h2,h3⟩;rcases h with h | ⟨h4,h5⟩
  ·exact h q1
  ·rcases q2 with q2 | q2
   ·exact h4 q2
   ·exact q2 h5
 ·rintro⟨h,h2,h3⟩
  refine⟨?_,h2,h3⟩;by_cases q:v.kd=2
  ·refine .inr ⟨fun q2=>h ⟨q,.inl q2⟩,?_⟩
   by_cases q3:v.fr=s.pro v.rd
   ·exact q3
   ·exact absurd ⟨q,.inr q3⟩ h
  ·exact .inl q
namespace kD
variable{a:Ba}
theorem put (i:kD a) (v:Vo):kD (a.put v):=by
 unfold Ba.put;by_cases h:a.s.takes a.l v=true
 ·rw [if_pos h]
  obtain⟨h1,h2,h3⟩:=(aDc _ _ _).1 h;refine⟨i.ok,i.rd,i.st,i.Fy,i.lk,i.vl,i.dec,Vj i.OX h3,fun u hu=>?_⟩;rcases oR.1 ((IA v a.l).mem_iff.1 hu)with hu | hu
  ·exact i.vs u hu
  ·simp at hu;subst hu
   refine⟨h2,fun q=>?_⟩;by_cases e:u.fr=a.s.pro u.rd
   ·exact e
   ·exact absurd ⟨q,.inr e⟩ h1
 ·rw [if_neg h];exact i
theorem Vk (a:Ba) (v:Vo):(a.put v).s=a.s:=by
 unfold Ba.put;split<;>rfl
theorem to (i:kD a){z:Int} (h1:1<=z) (h2:z<=3):kD (a.to z):=
 ⟨i.ok,i.rd,⟨h1,h2⟩,⟨Cn _,by show(0:Int)<=1099511627776;decide⟩,i.lk,i.vl,i.dec,i.OX,i.vs⟩
theorem iL (i:kD a){r:Int} (h1:a.s.rd<=r) (h2:r<=99):kD (a.iL r):=by
 refine⟨i.ok,⟨?_,h2⟩,⟨by show(1:Int)<=1;decide,by show(1:Int)<=3;decide⟩,⟨Cn _,by show(0:Int)<=1099511627776;decide⟩,?_,?_,i.dec,i.OX,i.vs⟩
 ·show 0<=r;have:=i.rd;omega
 ·have:=(tS _ _ _).1 i.lk
  exact(tS _ _ _).2 ⟨this.1,this.2.1,Int.le_trans this.2.2.1 h1,this.2.2.2⟩
 ·have:=(tS _ _ _).1 i.vl
  exact(tS _ _ _).2 ⟨this.1,this.2.1,Int.le_trans this.2.2.1 h1,this.2.2.2⟩
theorem say (i:kD a) (k:Nat) (vl:Int) (tx:List UInt8):kD (a.say k vl tx).1:=i.put _
theorem Gf (i:kD a){r:Int}{v:Vo} (h:a.pr r=some v):v∈a.l/\v.rd=r/\v.kd=2/\v.tx≠[]/\v.tx.length<=2048/\v.may a.s.n=true:=by
 unfold Ba.pr at h;have h1:=Cd h;have h2:=(Ga _ _ _ _).1 (QB (p:=fun v:Vo=>v.at r (a.s.pro r) 2) h);have h3:=i.vs v h1;obtain⟨q1,q2⟩:=(OF _ _).1 h3.1;refine⟨h1,h2.1,h2.2.2,?_,q1.2.2.2.2,h3.1⟩;rcases q2 with q2 | q2
 ·exact q2.2.1
 ·omega
theorem rO (i:kD a):kD a.rO.1:=by
 unfold Ba.rO;cases h:a.rounds.findSome? a.wJ with
 | none=>exact i
 | some tx=>
  obtain⟨r,_,hr⟩:=aDJ h;refine⟨i.ok,i.rd,i.st,i.Fy,i.lk,i.vl,?_,i.OX,i.vs⟩;unfold Ba.wJ at hr;split at hr
  ·rename_i v hv
   split at hr
   ·injection hr with hr;subst hr;exact(i.Gf hv).2.2.2.2.1
   ·cases hr
  ·cases hr
theorem aKK (zs:List Int):∀(j:Nat) (z:Int),z∈dq zs j->j<=zs.length->z∈zs:=by
 intro j;induction j with
 | zero=>intro z h;cases h
 | succ j ih=>
  intro z h hj;unfold dq at h;split at h
  ·rcases oR.1 h with h | h
   ·exact ih z h (by omega)
   ·simp at h;subst h
    rw [aS (by omega)];exact sW _
  ·exact ih z h (by omega)
theorem RR (i:kD a){r:Int} (h:r∈a.rounds):0<=r/\r<=99:=by
 have:=aKK _ _ _ h (bN _);obtain⟨v,hv,rfl⟩:=mA.1 this;obtain⟨⟨_,_,q3,q4,_⟩,_⟩:=(OF _ _).1 (i.vs v hv).1;omega
theorem skip (i:kD a):kD a.skip.1:=by
 unfold Ba.skip;cases h:a.rounds.reverse.find? a.yB with
 | none=>exact i
 | some r=>
  have h1:=QB (p:=a.yB) h;have h2:=i.RR (PX.1 (Cd h));unfold Ba.yB at h1;simp only [bT,decide_eq_true_eq]at h1;exact i.iL (by omega) h2.2
theorem oK (i:kD a) (tx:List UInt8) (f:Bool):kD (a.oK tx f).1:=(i.to (by decide) (by decide)).say _ _ _
theorem fresh (i:kD a) (may:List (List UInt8)):kD (a.fresh may).1:=by
 unfold Ba.fresh;split
 ·split
  ·exact i.oK _ _
  ·exact i
 ·exact i
theorem old (i:kD a):kD a.old.1:=by
 unfold Ba.old;split
 ·split
  ·exact i.oK _ _
  ·exact i
 ·exact i
theorem lock (i:kD a):kD a.lock.1:=by
 unfold Ba.lock;split
 ·rename_i v hv
  obtain⟨_,_,_,h1,h2,_⟩:=i.Gf hv;have hp:XS v.tx a.s.rd a.s.rd=true:=(tS _ _ _).2 ⟨h2,by have:=i.rd;omega,Cn _,⟨fun e=>absurd e h1,fun e=>by have:=i.rd;omega⟩⟩;split
  ·split
   ·exact⟨i.ok,i.rd,i.st,i.Fy,i.lk,hp,i.dec,i.OX,i.vs⟩
   ·show kD (Ba.say _ _ _ _).1
    refine kD.say ?_ _ _ _;exact⟨i.ok,i.rd,⟨by show(1:Int)<=3;decide,by show(3:Int)<=3;decide⟩,⟨Cn _,by show(0:Int)<=1099511627776;decide⟩,hp,hp,i.dec,i.OX,i.vs⟩
  ·exact i
 ·exact i
theorem nothing (i:kD a):kD a.nothing.1:=by
 unfold Ba.nothing;split
 ·exact(i.to (by decide) (by decide)).say _ _ _
 ·exact i
theorem vH (i:kD a) (want:List UInt8):kD (a.vH want).1:=by
 unfold Ba.vH;split
 ·show kD (Ba.say _ _ _ _).1
  refine kD.say ?_ _ _ _;exact⟨i.ok,i.rd,i.st,i.Fy,i.lk,i.vl,i.dec,i.OX,i.vs⟩
 ·exact i
theorem BA (i:kD a) (want:List UInt8) (may:List (List UInt8)) (k:Nat):kD (a.BA want may k).1:=by
 unfold Ba.BA;split
 ·exact i.rO
 ·exact i.skip
 ·exact i.fresh may
 ·exact i.old
 ·exact i.lock
 ·exact i.nothing
 ·exact i.vH want
theorem from_ (i:kD a) (want:List UInt8) (may:List (List UInt8)):∀(n k:Nat),kD (a.from_ want may n k).1:=by
 intro n;induction n with
 | zero=>intro k;exact i
 | succ n ih=>
  intro k;unfold Ba.from_;split
  ·exact i.BA want may k
  ·exact ih (k+1)
theorem run (want:List UInt8) (may:List (List UInt8)):∀(n:Nat) {a:Ba} (out:List Mg),kD a->kD (Ba.run want may n a out).1:=by
 intro n;induction n with
 | zero=>intro a out i;exact i
 | succ n ih=>
  intro a out i;unfold Ba.run;split
  ·split
   ·exact ih _ (i.from_ want may _ _)
   ·exact i
  ·exact i
theorem Bw (i:kD a) (want:List UInt8) (may:List (List UInt8)):kD (a.Bw want may).1:=kD.run want may 1000 [] i
theorem late (i:kD a):kD a.late.1:=by
 unfold Ba.late;split
 ·exact(i.to (by decide) (by decide)).say _ _ _
 ·split
  ·split
   ·exact(i.to (by decide) (by decide)).say _ _ _
   ·exact i
  ·split
   ·rename_i h
    simp only [bT,decide_eq_true_eq]at h;exact i.iL (by omega) (by omega)
   ·exact i
theorem aJk (i:kD a):kD a.aJk:=by
 refine⟨i.ok,i.rd,i.st,?_,i.lk,i.vl,i.dec,i.OX,i.vs⟩;show 0<=min (a.s.Fy+1) 1099511627776/\min (a.s.Fy+1) 1099511627776<=1099511627776;have:=i.Fy;omega
theorem UX (i:kD a) (fr:Int) (k:Nat) (h r vl:Int) (tx:List UInt8):kD (a.UX fr k h r vl tx):=by
 unfold Ba.UX;split
 ·exact i.put _
 ·exact i
theorem start{h n t me:Int} (ok:bOk h n t me):kD ⟨.start h n t me,[]⟩:=
 ⟨ok,⟨by show(0:Int)<=0;decide,by show(0:Int)<=99;decide⟩,⟨by show(1:Int)<=1;decide,by show(1:Int)<=3;decide⟩,⟨by show(0:Int)<=0;decide,by show(0:Int)<=1099511627776;decide⟩,(tS _ _ _).2 ⟨by show 0<=2048;decide,by show(-1:Int)<= -1;decide,by show(-1:Int)<=0;decide,⟨fun _=>rfl,fun _=>rfl⟩⟩,(tS _ _ _).2 ⟨by show 0<=2048;decide,by show(-1:Int)<= -1;decide,by show(-1:Int)<=0;decide,⟨fun _=>rfl,fun _=>rfl⟩⟩,by show 0<=2048;decide,.nil,fun v hv=>by cases hv⟩
end kD
def bz (b:Bool):Int:=if b then 1 else 0
def Ba.mu (a:Ba):Int:=10*a.s.rd+2*a.s.st+bz a.s.seen+bz a.s.prop
theorem aHU (b:Bool):0<=bz b/\bz b<=1:=by cases b<;>simp [bz]
theorem Ba.Gg (a:Ba) (k:Nat) (vl:Int) (tx:List UInt8):(a.say k vl tx).1.mu=a.mu:=by
 unfold Ba.mu Ba.say;rw [kD.Vk]
theorem kD.aFV{a:Ba} (i:kD a):0<=a.mu/\a.mu<1000:=by
 have h1:=i.rd;have h2:=i.st;have h3:=aHU a.s.seen;have h4:=aHU a.s.prop;unfold Ba.mu;omega
theorem aHV{a:Ba} (i:kD a) (want:List UInt8) (may:List (List UInt8)) (k:Nat) (h:(a.BA want may k).2.2=true):a.mu<(a.BA want may k).1.mu\/(a.BA want may k).1.s.dec≠[]:=by
 unfold Ba.BA at h ⊢;have h3:=aHU a.s.seen;have h4:=aHU a.s.prop;have h5:=i.st;split at h
 ·unfold Ba.rO at h ⊢
  cases q:a.rounds.findSome? a.wJ with
  | none=>rw [q]at h;cases h
  | some tx=>
   right;obtain⟨r,_,hr⟩:=aDJ q;unfold Ba.wJ at hr;split at hr
   ·rename_i v hv
    split at hr
    ·injection hr with hr;subst hr;exact(i.Gf hv).2.2.2.1
    ·cases hr
   ·cases hr
 ·unfold Ba.skip at h ⊢
  cases q:a.rounds.reverse.find? a.yB with
  | none=>rw [q]at h;cases h
  | some r=>
   left;have h1:=QB (p:=a.yB) q;unfold Ba.yB at h1;simp only [bT,decide_eq_true_eq]at h1;show a.mu<10*r+2*1+bz false+bz false;unfold Ba.mu;have:bz false=0:=rfl;omega
 ·left
  unfold Ba.fresh at h ⊢;split at h
  ·split at h
   ·rename_i h1
    simp only [bT,decide_eq_true_eq]at h1;simp only [h1,decide_true,Bool.and_self,if_true];show a.mu<(a.oK _ _).1.mu;unfold Ba.oK;rw [Ba.Gg];show a.mu<10*a.s.rd+2*2+bz a.s.seen+bz a.s.prop;unfold Ba.mu;omega
   ·cases h
  ·cases h
 ·left
  unfold Ba.old at h ⊢;split at h
  ·split at h
   ·rename_i h1
    have h2:=h1;simp only [bT,decide_eq_true_eq]at h2;simp only [h1,if_true];show a.mu<(a.oK _ _).1.mu;unfold Ba.oK;rw [Ba.Gg];show a.mu<10*a.s.rd+2*2+bz a.s.seen+bz a.s.prop;unfold Ba.mu;omega
   ·cases h
  ·cases h
 ·left
  unfold Ba.lock at h ⊢;split at h
  ·split at h
   ·rename_i h1
    have h2:=h1;simp only [bT,uI,VI]at h2;simp only [h1,if_true];have e1:bz true=1:=rfl;have e2:bz a.s.seen=0:=by rw [h2.1.2];rfl
    split
    ·show a.mu<10*a.s.rd+2*a.s.st+bz true+bz a.s.prop
     unfold Ba.mu;omega
    ·show a.mu<(Ba.say _ _ _ _).1.mu
     rw [Ba.Gg];show a.mu<10*a.s.rd+2*3+bz true+bz a.s.prop;unfold Ba.mu;omega
   ·cases h
  ·cases h
 ·left
  unfold Ba.nothing at h ⊢;split at h
  ·rename_i h1
   have h2:=h1;simp only [bT,decide_eq_true_eq]at h2;simp only [h1,if_true];show a.mu<(Ba.say _ _ _ _).1.mu;rw [Ba.Gg];show a.mu<10*a.s.rd+2*3+bz a.s.seen+bz a.s.prop;unfold Ba.mu;omega
  ·cases h
 ·left
  unfold Ba.vH at h ⊢;split at h
  ·rename_i h1
   have h2:=h1;simp only [bT,uI]at h2;simp only [h1,if_true];show a.mu<(Ba.say _ _ _ _).1.mu;rw [Ba.Gg];have e1:bz true=1:=rfl;have e2:bz a.s.prop=0:=by rw [h2.1.1.2];rfl
   show a.mu<10*a.s.rd+2*a.s.st+bz a.s.seen+bz true;unfold Ba.mu;omega
  ·cases h
structure zJ (S:Hp) (b t m:Nat) (ty:TypeId) (a:Ba):Prop where
 row:S b=some (.row (qN a.s t) ty)
 Pi:∃l0,Tal S t m a.s.n l0/\l0.Perm a.l
 inv:kD a
 bt:b≠t
 bm:b≠m
 tm:t≠m
def Ch (S S':Hp) (b m:Nat):Prop:=∀i,i≠b->i≠m->S' i=S i
theorem Ch.refl{S:Hp}{b m:Nat}:Ch S S b m:=fun _ _ _=>rfl
theorem Ch.trans{S S1 S2:Hp}{b m:Nat} (h:Ch S S1 b m) (k:Ch S1 S2 b m):Ch S S2 b m:=fun i h1 h2=>(k i h1 h2).trans (h i h1 h2)
theorem Ch.aDh{S:Hp}{b m:Nat}{o:Ob}:Ch S (aR S b o) b m:=fun i h1 _=>aF h1
theorem Ch.aO1{S:Hp}{b m:Nat}{o:Ob}:Ch S (aR S m o) b m:=fun i _ h1=>aF h1
def rW (S:Hp) (b t m:Nat) (ty:TypeId) (a:Ba) (K:Hp->Prop):Prop:=∀S',Ch S S' b m->zJ S' b t m ty a->K S'
section
variable{ov:Nr}{M n b t m:Nat}{x:VE}{S S':Hp}{K:KV}{ty:TypeId}{a:Ba}
theorem zJ.le (k:zJ S b t m ty a) (h:gA S S'):zJ S' b t m ty a:=by
 obtain⟨l0,h1,h2⟩:=k.Pi;exact⟨h _ _ k.row,⟨l0,h1.le h,h2⟩,k.inv,k.bt,k.bm,k.tm⟩
theorem zJ.okl (k:zJ S b t m ty a):∃l0,Tal S t m (a.s.n.toNat:Int) l0/\Okl a.s.n.toNat l0/\l0.Perm a.l:=by
 obtain⟨l0,h1,h2⟩:=k.Pi;have hn:=k.inv.ok.1;have e:(a.s.n.toNat:Int)=a.s.n:=by omega
 refine⟨l0,by rw [e];exact h1,⟨by omega,?_,fun v hv=>?_⟩,h2⟩
 ·rw [h2.length_eq]
  have:=aAq k.inv.OX hn.2 fun v hv=>(k.inv.vs v hv).1;omega
 ·have:=(OF _ _).1 (k.inv.vs v (h2.mem_iff.1 hv)).1
  omega
theorem zJ.set (k:zJ S b t m ty a){s:Bs} (hn:s.n=a.s.n) (i:kD ⟨s,a.l⟩):zJ (aR S b (.row (qN s t) ty)) b t m ty ⟨s,a.l⟩:=by
 obtain⟨l0,h1,h2⟩:=k.Pi;refine⟨aD,⟨l0,⟨?_,?_⟩,h2⟩,i,k.bt,k.bm,k.tm⟩
 ·rw [aF (dV k.bt)]
  show S t=some (.row [.int .i64 s.n,.tM m] 160);rw [hn];exact h1.row
 ·rw [aF (dV k.bm)];exact h1.map
theorem aJo (hM:M≠0) (hf:ov eI=none) (Xr:ov bV=none) (Gy:ov fO=none) (hf3:ov eT=none) (hx:Deep PP cM ov M (n+3) x) (k:zJ S b t m ty a){v:Vo} (hr:v.rd<=1000000) (hk:rW S b t m ty (a.put v) fun S'=>K (.bool (a.s.takes a.l v)) S'):x.call eI [.ptr b 0,.agg v.vv] S K:=by
 obtain⟨l0,h1,h2⟩:=k.Pi;have YR:=k.inv.ok;refine aKM hM hf Xr Gy hf3 hx k.row h1 (by have:=YR.2.1;omega) (by have:=YR.1;omega) hr (fun e=>?_) (fun e=>?_)
 ·rw [Ge k.inv.OX h2]at e
  have:=hk S .refl (by unfold Ba.put;rw [e];exact k)
  rwa [e]at this
 ·rw [Ge k.inv.OX h2]at e
  have:=hk (aR S m (.map ((l0++[v]).map eV))) .aO1 ?_
  ·rwa [e]at this
  ·have i:=k.inv.put v
   unfold Ba.put at i ⊢;rw [e]at i ⊢;refine⟨by rw [aF k.bm];exact k.row,⟨l0++[v],⟨by rw [aF k.tm];exact h1.row,aD⟩,?_⟩,i,k.bt,k.bm,k.tm⟩;exact((List.Perm.append_right [v] h2)).trans (IA v a.l).symm
end
def Mg.dt (g:Mg):List Dt:=[.int .u8 (.ofNat g.kd),.int .i64 0,.int .i64 0,.int .i64 g.h,.int .i64 g.r,.int .i64 g.vl,.int .i64 0,.int .i64 0,.int .i64 0,.str g.tx,.list [] 0]
def Mg.vv (g:Mg):List V:=[.int .u8 (.ofNat g.kd),.int .i64 0,.int .i64 0,.int .i64 g.h,.int .i64 g.r,.int .i64 g.vl,.int .i64 0,.int .i64 0,.int .i64 0,.str g.tx,.nil]
def Ie (l:List Mg):List Dt:=l.flatMap Mg.dt
theorem aH2 (l:List Mg):(Ie l).length=l.length*11:=by
 induction l with
 | nil=>rfl
 | cons v l ih=>simp [Ie,Mg.dt]at ih ⊢;omega
section
variable{ov:Nr}{M n b t m:Nat}{x:VE}{S S':Hp}{K:KV}{ty:TypeId}{a:Ba}
theorem aKV{g:Mg}{S S':Hp} (q:Nat) (v:V) (d:Dt) (e1:g.vv[q]? =some v) (e2:g.dt[q]? =some d):Py S' S v d:=by
 match q with
 | 0 | 1 | 2 | 3 | 4 | 5 | 6 | 7 | 8=>injection e1 with e1;injection e2 with e2;subst e1 e2;exact .int
 | 9=>injection e1 with e1;injection e2 with e2;subst e1 e2;exact .str
 | 10=>injection e1 with e1;injection e2 with e2;subst e1 e2;exact .nil
 | q+11=>simp [Mg.vv]at e1
theorem aBO (g:Mg):Ie [g]=g.dt:=by simp [Ie]
theorem aH3{g:Mg}{S S':Hp}{K:KV}{j:Nat} (h:S j=some (.row g.vv 37)) (hn:S' j=none) (hl:gA S' S) (hk:∀O,K (.list O (Ie [g]) 1) S'):bD (.own j 0 1 1) S K:=by
 refine MX (S':=S') (cs:=Ie [g]) hl (.own h hn (bN _) (by rw [aBO];simp [Mg.dt,Mg.vv]) fun q v d e1 e2=>?_) hk;rw [fK]at e1;rw [aBO]at e2;exact aKV q v d e1 e2
theorem aF1 (hM:M≠0) (hf0:ov dG=none) (hf:ov eI=none) (Xr:ov bV=none) (Gy:ov fO=none) (hf3:ov eT=none) (hx:Deep PP cM ov M (n+4) x) (k:zJ S b t m ty a){kd:Nat}{vl:Int}{tx:List UInt8}
 (hk:rW S b t m ty (a.say kd vl tx).1 fun S'=>∀j,S' j=none->bD (.own j 0 1 1) (aR S' j (.row (Mg.vv ⟨kd,a.s.h,a.s.rd,vl,tx⟩) 37)) K):x.call dG [.ptr b 0,.int .u8 (.ofNat kd),.int .i64 vl,.str tx] S K:=by
 refine hx.call hf0 fun y hy=>?_;rw [OW];unfold BZ;have l3:∀{K:KV},aH (.ptr b 3) S K=K (.int .i64 a.s.me) S:=eL k.row;have l4:∀{K:KV},aH (.ptr b 4) S K=K (.int .i64 a.s.rd) S:=eL k.row;simp only [bG,gF,fK,l3,l4];refine zH rfl (cL rfl (by simp) (cL rfl (by simp) (cL rfl (by simp) (cL rfl (by simp) (cL rfl (by simp) (zG ?_))))));refine aJo (v:=⟨a.s.me,a.s.rd,kd,vl,tx⟩) hM hf Xr Gy hf3 hy k (show a.s.rd<=1000000 by have:=k.inv.rd;omega) fun S1 c1 k1=>?_;have es:(a.put ⟨a.s.me,a.s.rd,kd,vl,tx⟩).s=a.s:=kD.Vk _ _;have r1:=k1.row;rw [es]at r1;have l0':∀{K:KV},aH (.ptr b 0) S1 K=K (.int .i64 a.s.h) S1:=eL r1;have l3':∀{K:KV},aH (.ptr b 3) S1 K=K (.int .i64 a.s.me) S1:=eL r1;have l4':∀{K:KV},aH (.ptr b 4) S1 K=K (.int .i64 a.s.rd) S1:=eL r1;simp only [l0',l3',l4',vG];refine zH rfl (cL rfl (by simp) (cL rfl (by simp) (cL rfl (by simp) (cL rfl (by simp) (cL rfl (by simp) (zG ?_))))));have hb:∀{K:KV},(∀j,S1 j=none->K (.own j 0 1 1) (aR S1 j (.row (Mg.vv ⟨kd,a.s.h,a.s.rd,vl,tx⟩) 37)))->cQ 37 1 [(.int .u8 (.ofNat 0)),(.int .i64 (.ofNat 0)),(.int .i64 (.ofNat 0)),(.int .i64 (.ofNat 0)),(.int .i64 (.ofNat 0)),(.int .i64 (.ofNat 0)),(.int .i64 (.ofNat 0)),(.int .i64 (.ofNat 0)),(.int .i64 (.ofNat 0)),(.string ⟨⟨[]⟩⟩),(.slice none 0 0)] [(0,11,.agg (Mg.vv ⟨kd,a.s.h,a.s.rd,vl,tx⟩))] S1 K:=fun h=>FR rfl rfl rfl rfl h;refine⟨hb fun j hj=>trivial,hb fun j hj=>?_⟩;exact hk S1 c1 k1 j hj
theorem aNd (hM:M≠0) (hf0:ov dG=none) (hf:ov eI=none) (Xr:ov bV=none) (Gy:ov fO=none) (hf3:ov eT=none) (hx:Deep PP cM ov M (n+4) x) (k:zJ S b t m ty a){kd:Nat}{vl:Int}{tx:List UInt8}
 (hk:rW S b t m ty (a.say kd vl tx).1 fun S'=>∀O,K (.list O (Ie (a.say kd vl tx).2) 1) S'):x.call dG [.ptr b 0,.int .u8 (.ofNat kd),.int .i64 vl,.str tx] S K:=
 aF1 hM hf0 hf Xr Gy hf3 hx k fun S1 c1 k1 j hj=>aH3 aD hj (.aT hj) fun O=>hk S1 c1 k1 O
end
theorem aF2:gT jQ=none:=rfl
theorem Kd:gT aU=none:=rfl
theorem aJp:gT eI=none:=rfl
theorem aNe:gT dG=none:=rfl
theorem JM:gT bV=none:=rfl
theorem aJq:gT fO=none:=rfl
theorem aJr:gT eT=none:=rfl
theorem aAw:gT dQ=none:=rfl
theorem aAx:gT kP=none:=rfl
theorem aF3:gT fV=none:=rfl
theorem aF4:gT kN=none:=rfl
theorem aH4:gT gB=none:=rfl
theorem aAy:gT fH=none:=rfl
theorem aNf:gT dX=none:=rfl
theorem aH5:gT iV=none:=rfl
theorem aKW{n i q o:Nat}{vs:List V}{t:TypeId}{S:Hp}{K:KV} (h:S i=some (.jK vs t q)) (hl:o+n<=vs.length) (hk:K (.agg ((vs.drop o).take n)) S):iP n (.nZ i q o) S K:=by
 unfold iP;simp only [h];exact⟨trivial,by rw [qG hl];exact hk⟩
theorem aKX (l:List Vo) (i:Nat) (v:Vo) (h:l[i]? =some v):((voV l).drop (i*5)).take 5=v.vv:=by
 rw [aJl l (.root 0),<-List.map_drop,<-List.map_take,aKL l i v h];rfl
theorem Vm{el:TypeId}{k:IntKind}{z0 z:Int}{S:Hp}{K:KV} (hk:∀j,S j=none->K (.own j 0 1 1) (aR S j (.row [.int k z] el))):cQ el 1 [.int k z0] [(0,1,.int k z)] S K:=by
 unfold cQ;show uT [(0,1,.int k z)] [.int k z0] _;exact⟨rfl,by simp,hk⟩
theorem aDi (l:List Vo) (i:Nat) (h:i<l.length):ints ((l.map (·.rd)).take (i+1))=ints ((l.map (·.rd)).take i)++[.int .i64 l[i].rd]:=by
 rw [GE,lA,aS h];simp [ints]
section
variable{M n b t m:Nat}{x:VE}{S:Hp}{K:KV}{ty:TypeId}{a:Ba}
theorem aDj{l:List Vo}{j N:Nat} (hx:Deep PP cM gT M (n+1) x) (hN:l.length=N) (h0:1<=N) (hM:N<M) (hb:N<=100000) (hj:S j=none) (hk:∀O,K (.list O (pV (dd (l.map (·.rd)))) (dd (l.map (·.rd))).length) S):
 ∀(q i:Nat) (t3:V) (S1 S2:Hp),N<=i+q->i<=N->Made 3 1 (aR S j (.jK (voV l) 94 N)) t3 S1 (ints ((l.map (·.rd)).take i)) i->gA S1 S2->kR x (q+1) t3 (.acc j N) (.int .i64 (.ofNat N)) (.int .i64 (.ofNat i)) S2 K:=by
 intro q;have Vn:gA S (aR S j (.jK (voV l) 94 N)):= .aT hj
 have fin:∀{i:Nat} {t3:V} {S1:Hp},N<=i->i<=N->Made 3 1 (aR S j (.jK (voV l) 94 N)) t3 S1 (ints ((l.map (·.rd)).take i)) i->(x.call aU [t3] S1 fun v9 S=>bD v9 S K):=by
  intro i t3 S1 h1 h2 a;have:i=N:=by omega
  subst this;rw [uG (by rw [DD];omega)]at a;have aF5:=Vn.trans a.le;rcases a.is with ⟨h3,_,_⟩ | ⟨k,rfl,h4,rfl⟩
  ·omega
  ·refine aDf (S':=S) Kd hx (by rw [DD,hN]) hM (by omega) (Vn.none h4) aF5 h0 aD fun O=>aJ (hk O)
 induction q with
 | zero=>
  intro i t3 S1 S2 hq hi a hs;rw [nL];unfold jY;refine MT S1 hs ?_;rw [cI,bR,if_neg (by simp;omega)];exact fin hq hi a
 | succ q ih=>
  intro i t3 S1 S2 hq hi a hs;rw [nL];unfold jY;refine MT S1 hs ?_;rw [cI,bR];by_cases hlt:i<N
  ·have hj1:S1 j=some (.jK (voV l) 94 N):=a.le _ _ aD
   rw [if_pos (by simp;omega),uU hlt];refine aKW hj1 (by rw [aBK];omega) ?_;rw [aKX l i l[i] (aS (by omega))];refine kV (l:=KP.vv) rfl fun k hk0=>?_;refine nG aD (by rfl) (by rfl) (by rfl) ?_;rw [fG,gF];refine jU aD rfl ?_;refine Vm fun k2 tC=>?_;obtain⟨_,hk3⟩:=xG tC;refine a.app (bytes:=8) (m:=1) (new:=[.int .i64 l[i].rd]) ((gA.aT hk0).trans (.aT tC)) (fun p hp=>a.le.none (xG (xG hp).2).2) (fun r hr=>HM aD rfl hr) (by omega) rfl rfl (by omega) ?_;intro t4 S4 S3 b hle;rw [kU,MU (by omega)];rw [<-aDi l i (by omega)]at b;exact ih (i+1) t4 S3 S4 (by omega) (by omega) b hle
  ·rw [if_neg (by simp;omega)]
   exact fin (by omega) hi a
theorem Vp (hx:Deep PP cM gT M (n+2) x) (hM:100000<M) (k:zJ S b t m ty a) (hk:∀O,K (.list O (pV a.rounds) a.rounds.length) S):x.call jQ [.ptr t 0] S K:=by
 refine hx.call aF2 fun y hy=>?_;rw [NJ];unfold AY;obtain⟨l0,h1,h2,h3⟩:=k.okl;have hs:=aDb k.inv.OX h3;have hlen:a.l.length<=2400:=aAq k.inv.OX k.inv.ok.1.2 fun v hv=>(k.inv.vs v hv).1;have hm:y.most=M:=hy.most;obtain⟨p,hp⟩:=eY (show y.most≠0 by omega);refine hy.GL (f:=nA) (g:=Ph) rfl ⟨t,m,a.s.n.toNat,l0,rfl,h1,h2,by rw [hs];exact k.inv.OX,fun e=>?_,fun e j hj=>?_⟩
 ·rw [hs]at e
  simp only [NY,hp];rw [nL];unfold jY;refine aQ ?_;rw [cI,bR,if_neg (by simp)];refine hy.call Kd fun z hz=>?_;rw [mF];unfold iT;rw [NY,cI,bR,if_pos (by simp)];have e2:a.rounds=[]:=by unfold Ba.rounds;rw [e];rfl
  rw [e2]at hk;exact MX (cs:=[]) (n:=0) (.refl S) .nil fun O=>aJ (hk O)
 ·rw [hs]
  simp only [yY,hp];rw [hs]at e
  have h0:1<=a.l.length:=by
   cases q:a.l with
   | nil=>exact absurd q e
   | cons=>simp
  exact aDj hy rfl h0 (by omega) (by omega) hj hk p 0 .nil _ _ (by omega) (by omega) .nil (.refl _)
theorem JN (hx:Deep PP cM gT M (n+2) x) (k:zJ S b t m ty a){r:Int} (hr:0<=r/\r<=1000000) (hk:K (.tuple [.agg ((a.pr r).getD KP).vv,.bool (a.pr r).isSome]) S):x.call dQ [.ptr b 0,.int .i64 r] S K:=by
 refine hx.call aAw fun y hy=>?_;rw [GN];unfold uY;refine kV (l:=KP.vv) rfl fun i hi=>?_;have iM:gA S (aR S i (.row KP.vv 94)):= .aT hi;have k1:=k.le iM;have By:∀{K:KV},aH (.ptr b 15) (aR S i (.row KP.vv 94)) K=K (.ptr t 0) (aR S i (.row KP.vv 94)):=eL k1.row;simp only [bG,gF,fK,By];have YR:=k.inv.ok;refine RS JM hy k1.row (by have:=YR.2.1;omega) hr (by have:=YR.1;omega) ?_;simp only [By,Nu];obtain⟨l0,h1,h2⟩:=k1.Pi;refine aKY aAx hy h1 ?_;rw [Kb k.inv.OX h2];simp only [MV,MW];refine nG aD (by rfl) (by rfl) (by rfl) ?_;rw [fG];refine jD aD rfl ?_;exact dZ (.aT hi) hk
theorem UZ (hx:Deep PP cM gT M (n+2) x) (k:zJ S b t m ty a){r:Int}{kd:Nat}{tx:List UInt8} (hk:K (.bool (a.zE r kd tx)) S):x.call fV [.ptr b 0,.int .i64 r,.int .u8 (.ofNat kd),.str tx] S K:=by
 refine hx.call aF3 fun y hy=>?_;rw [JI];unfold xW;have By:∀{K:KV},aH (.ptr b 15) S K=K (.ptr t 0) S:=eL k.row;simp only [bG,gF,fK,By];obtain⟨l0,h1,h2,h3⟩:=k.okl;refine hy.GL (f:=nB) (g:=Pg) rfl ⟨t,m,a.s.n.toNat,l0,r,kd,tx,rfl,h1,h2,?_⟩;rw [Kc h3];refine aFW aF4 hy k.row (by have:=k.inv.ok;have:=this.1;have:=k.inv.ok.2.2.1;omega) ?_;exact aJ hk
end
def Ke (l:List (List UInt8)):List Dt:=l.map Dt.str
section
variable{M n b t m:Nat}{x:VE}{S:Hp}{K:KV}{ty:TypeId}{a:Ba}
theorem aF6{l:List (List UInt8)}{tx:List UInt8}{O:Tag} (hl:l.length<=1000000) (hk:∀i:Int,decide (0<=i)=l.contains tx->K (.int .i64 i) S):∀(q i:Nat),l.length<=i+q->i<=l.length->(∀j,j<i->l[j]? ≠some tx)->eW x (q+1) (.list O (Ke l) l.length) (.str tx) (.int .i64 (.ofNat l.length)) (.int .i64 (.ofNat i)) S K:=by
 have fin:∀i,l.length<=i->(∀j,j<i->l[j]? ≠some tx)->bD (.int .i64 (.negSucc 0)) S K:=by
  intro i h1 h2;refine aJ (hk _ ?_);rw [pL,Kq];simp only [decide_eq_true_eq];constructor
  ·intro h;exact absurd h (by decide)
  ·intro h
   obtain⟨j,hj⟩:=IF h;have:=(cZ.1 hj).1;exact absurd hj (h2 j (by omega))
 intro q;induction q with
 | zero=>
  intro i h1 h2 h3;rw [lR];unfold gO;refine aQ ?_;rw [cI,bR,if_neg (by simp;omega)];exact fin i h1 h3
 | succ q ih=>
  intro i h1 h2 h3;rw [lR];unfold gO;refine aQ ?_;rw [cI,bR];by_cases hlt:i<l.length
  ·rw [if_pos (by simp;omega),RD hlt,ZE,sA,lJ (a:= .str l[i]) (by unfold Ke;rw [lA,aS hlt];rfl)]
   show aE PP .eql 9 (.str tx) (.str l[i]) _;rw [CY,bR];by_cases e:tx=l[i]
   ·rw [if_pos (by simp [e])]
    refine aJ (hk _ ?_);rw [pL,Kq];simp only [decide_eq_true_eq];exact⟨fun _=>by rw [e];exact sW hlt,fun _=>Int.natCast_nonneg _⟩
   ·rw [if_neg (by simp [e]),kU,MU (by omega)]
    refine ih (i+1) (by omega) (by omega) fun j hj=>?_;by_cases Ln:j=i
    ·subst Ln;rw [aS hlt];intro q;injection q with q;exact e q.symm
    ·exact h3 j (by omega)
  ·rw [if_neg (by simp;omega)]
   exact fin i (by omega) h3
theorem aAz (hx:Deep PP cM gT M (n+2) x){l:List (List UInt8)}{tx:List UInt8}{O:Tag} (hl:l.length<=1000000) (hM:l.length<M) (hk:K (.bool (l.contains tx)) S):x.call fH [.list O (Ke l) l.length,.str tx] S K:=by
 refine hx.call aAy fun y hy=>?_;rw [uM];unfold nC;refine hy.call aH4 fun z hz=>?_;rw [wL];unfold oP;have hm:z.most=M:=hz.most;obtain⟨p,hp⟩:=eY (show z.most≠0 by omega);rw [UA,hp];refine aF6 hl (fun i e=>?_) p 0 (by omega) (by omega) (fun j hj=>by omega);rw [nS];refine aJ ?_;have:decide (Int.ofNat 0<=i)=l.contains tx:=e;rw [this];exact hk
theorem to2 (hx:Deep PP cM gT M (n+1) x) (k:zJ S b t m ty a){z:Int} (h1:1<=z) (h2:z<=3) (hk:rW S b t m ty (a.to z) fun S'=>K (.tuple []) S'):x.call dX [.ptr b 0,.int .i64 z] S K:=
 aNa aNf hx k.row (hk _ .aDh (k.set rfl (k.inv.to h1 h2)))
theorem aKZ (hx:Deep PP cM gT M (n+2) x) (k:zJ S b t m ty a){r:Int} (h1:a.s.rd<=r) (h2:r<=99) (hk:rW S b t m ty (a.iL r) fun S'=>K (.tuple []) S'):x.call iV [.ptr b 0,.int .i64 r] S K:=
 aHX aH5 aNf hx k.row (hk _ .aDh (k.set rfl (k.inv.iL h1 h2)))
theorem aH6 (hM:M≠0) (hx:Deep PP cM gT M (n+4) x) (k:zJ S b t m ty a){kd:Nat}{vl:Int}{tx:List UInt8}
 (hk:rW S b t m ty (a.say kd vl tx).1 fun S'=>∀O,K (.list O (Ie (a.say kd vl tx).2) 1) S'):x.call dG [.ptr b 0,.int .u8 (.ofNat kd),.int .i64 vl,.str tx] S K:=aNd hM aNe aJp JM aJq aJr hx k hk
end
theorem aF7:gT fU=none:=rfl
theorem aDk:gT fM=none:=rfl
theorem aH7:gT iU=none:=rfl
theorem aNg:gT kW=none:=rfl
theorem aK0:gT jR=none:=rfl
theorem aDl:gT gR=none:=rfl
theorem aDm:gT eD=none:=rfl
section
variable{M n b t m:Nat}{x:VE}{S:Hp}{K:KV}{ty:TypeId}{a:Ba}
theorem zX{s:Bs} (h:S b=some (.row (qN s t) ty)):(∀{K:KV},aH (.ptr b 0) S K=K (.int .i64 s.h) S)/\(∀{K:KV},aH (.ptr b 1) S K=K (.int .i64 s.n) S)/\(∀{K:KV},aH (.ptr b 2) S K=K (.int .i64 s.t) S)/\(∀{K:KV},aH (.ptr b 3) S K=K (.int .i64 s.me) S)/\(∀{K:KV},aH (.ptr b 4) S K=K (.int .i64 s.rd) S)/\(∀{K:KV},aH (.ptr b 5) S K=K (.int .i64 s.st) S)/\(∀{K:KV},aH (.ptr b 6) S K=K (.int .i64 s.Fy) S)/\(∀{K:KV},aH (.ptr b 7) S K=K (.str s.lock) S)/\(∀{K:KV},aH (.ptr b 8) S K=K (.str s.valid) S)/\(∀{K:KV},aH (.ptr b 9) S K=K (.int .i64 s.HZ) S)/\(∀{K:KV},aH (.ptr b 10) S K=K (.int .i64 s.sG) S)/\(∀{K:KV},aH (.ptr b 11) S K=K (.bool s.prop) S)/\(∀{K:KV},aH (.ptr b 12) S K=K (.bool s.seen) S)/\(∀{K:KV},aH (.ptr b 13) S K=K (.str s.dec) S)/\(∀{K:KV},aH (.ptr b 14) S K=K .nil S)/\(∀{K:KV},aH (.ptr b 15) S K=K (.ptr t 0) S):=
 ⟨eL h,eL h,eL h,eL h,eL h,eL h,eL h,eL h,eL h,eL h,eL h,eL h,eL h,eL h,eL h,eL h⟩
theorem Pj{i:Nat}{v:Vo}{ty:TypeId} (h:S i=some (.row v.vv ty)):(∀{K:KV},aH (.ptr i 0) S K=K (.int .i64 v.fr) S)/\(∀{K:KV},aH (.ptr i 1) S K=K (.int .i64 v.rd) S)/\(∀{K:KV},aH (.ptr i 2) S K=K (.int .u8 (.ofNat v.kd)) S)/\(∀{K:KV},aH (.ptr i 3) S K=K (.int .i64 v.vl) S)/\(∀{K:KV},aH (.ptr i 4) S K=K (.str v.tx) S):=
 ⟨eL h,eL h,eL h,eL h,eL h⟩
def Res (K:KV) (r:R3) (S':Hp):Prop:=∀O,K (.tuple [.list O (Ie r.2.1) r.2.1.length,.bool r.2.2]) S'
theorem RU{r:R3} (hk:rW S b t m ty r.1 (Res K r)) (k:zJ S b t m ty a) (e:r=a.no){S1:Hp} (l:gA S S1):bD (.tuple [.nil,.bool false]) S1 K:=by
 subst e;exact CZ (cs:=[]) (n:=0) l .nil fun O=>hk S .refl k O
theorem shrink{a':Ba}{S2 S3:Hp}{K0:Hp->Prop} (k:zJ S b t m ty a) (le:gA S S2) (hk:rW S b t m ty a' K0) (c:Ch S2 S3 b m) (k3:zJ S3 b t m ty a'):∃S',gA S' S3/\(∀q,q≠b->q≠m->S' q=S q)/\K0 S':=by
 have h:∀q,q≠b->q≠m->∀o,S q=some o->S3 q=some o:=fun q h1 h2 o e=>by rw [c q h1 h2];exact le q o e
 refine⟨fun q=>if q=b\/q=m then S3 q else S q,fun q o e=>?_,fun q h1 h2=>if_neg (by simp [h1,h2]),hk _ (fun q h1 h2=>if_neg (by simp [h1,h2])) ?_⟩
 ·have e:(if q=b\/q=m then S3 q else S q)=some o:=e
  by_cases hq:q=b\/q=m
  ·rw [if_pos hq]at e;exact e
  ·rw [if_neg hq]at e
   simp only [not_or]at hq;exact h q hq.1 hq.2 o e
 ·obtain⟨l0,h1,h2⟩:=k3.Pi
  obtain⟨l1,g1,g2⟩:=k.Pi
  have et:S t=some (.row [.int .i64 a'.s.n,.tM m] 160):=by
   have q1:=h t (dV k.bt) k.tm _ g1.row;rw [h1.row]at q1;rw [g1.row,<-q1]
  refine⟨?_,⟨l0,⟨?_,?_⟩,h2⟩,k3.inv,k.bt,k.bm,k.tm⟩
  ·show(if b=b\/b=m then S3 b else S b)=_
   rw [if_pos (.inl rfl)];exact k3.row
  ·show(if t=b\/t=m then S3 t else S t)=_
   rw [if_neg (by simp [dV k.bt,k.tm])];exact et
  ·show(if m=b\/m=m then S3 m else S m)=_
   rw [if_pos (.inr rfl)];exact h1.map
theorem EU{r:R3}{S2 S3:Hp} (k:zJ S b t m ty a) (le:gA S S2) (hk:rW S b t m ty r.1 (Res K r)) (c:Ch S2 S3 b m) (k3:zJ S3 b t m ty r.1){O:Tag} (hb:r.2.2=true):bD (.tuple [.list O (Ie r.2.1) r.2.1.length,.bool true]) S3 K:=by
 obtain⟨S',q1,_,q2⟩:=shrink k le hk c k3;exact CZ q1 .list fun O=>by have:=q2 O;rwa [hb]at this
theorem Pk (a:Ba) (k:Nat) (vl:Int) (tx:List UInt8):(a.say k vl tx).1.s=a.s:=kD.Vk _ _
def wV (want:List UInt8) (may:List (List UInt8)) (O:Tag):List V:=[.str want,.list O (Ke may) may.length]
theorem Vq{want:List UInt8}{may:List (List UInt8)}{O:Tag}{K:KV} (hk:∀i,S i=none->K (.ptr i 0) (aR S i (.row (wV want may O) 119))):tW 119 (.agg (wV want may O)) S K:=mB rfl hk
theorem aDn{rs:List Int}{O:Tag} (hx:Deep PP cM gT M (n+2) x) (k:zJ S b t m ty a) (hr:∀r∈rs,0<=r/\r<=99) (hl:rs.length<=100000) (hk:match rs.findSome? a.wJ with
 | some tx=>rW S b t m ty ⟨{a.s with dec:=tx},a.l⟩ (Res K (⟨{a.s with dec:=tx},a.l⟩,[],true))
 | none=>rW S b t m ty a (Res K a.no)):∀(q i:Nat) (S1:Hp),rs.length<=i+q->i<=rs.length->(rs.take i).findSome? a.wJ=none->gA S S1->gK x (q+1) (.ptr b 0) (.list O (pV rs) rs.length) (.int .i64 (.ofNat rs.length)) (.int .i64 (.ofNat i)) S1 K:=by
 have fin:∀i,rs.length<=i->(rs.take i).findSome? a.wJ=none->bD (.tuple [.nil,.bool false]) S K:=by
  intro i h1 h2;rw [uG h1]at h2;rw [h2]at hk;exact RU hk k rfl (.refl S)
 intro q;induction q with
 | zero=>
  intro i S1 h1 h2 h3 hle;rw [rU];unfold mR;refine MT S hle ?_;rw [cI,bR,if_neg (by simp;omega)];exact fin i h1 h3
 | succ q ih=>
  intro i S1 h1 h2 h3 hle;rw [rU];unfold mR;refine MT S hle ?_;rw [cI,bR];by_cases hlt:i<rs.length
  ·rw [if_pos (by simp;omega),RD hlt,ZE,sA,lJ (a:= .int .i64 rs[i]) (by unfold pV;rw [lA,aS hlt];rfl)]
   have hri:=hr rs[i] (sW hlt);show x.call dQ [.ptr b 0,.int .i64 rs[i]] S _;refine JN hx k ⟨hri.1,by omega⟩ ?_;simp only [MV,MW];refine kV (l:=KP.vv) rfl fun j hj=>?_;refine nG aD (by rfl) (by rfl) (by rfl) ?_;rw [fG];have iM:gA S (aR S j (.row ((a.pr rs[i]).getD KP).vv 94)):= .aT hj;have rj:aR S j (.row ((a.pr rs[i]).getD KP).vv 94) j=some (.row ((a.pr rs[i]).getD KP).vv 94):=aD;have hbj:b≠j:=fun e=>by have:=k.row;rw [e,hj]at this;cases this
   generalize hS2:aR S j (.row ((a.pr rs[i]).getD KP).vv 94)=S2 at iM rj;have k2:=k.le iM;obtain⟨m0,m1,m2,m3,m4⟩:=Pj rj
   have aJs:a.wJ rs[i]=none->aE PP .add 3 (.int .i64 (.ofNat i)) (.int .i64 (.ofNat 1)) fun v21=>gK x (q+1) (.ptr b 0) (.list O (pV rs) rs.length) (.int .i64 (.ofNat rs.length)) v21 S2 K:=by
    intro e;rw [kU,MU (by omega)];refine ih (i+1) S2 (by omega) (by omega) ?_ iM;rw [GE,aS hlt,List.findSome?_append,h3];simp [e]
   cases hp:a.pr rs[i]with
   | none=>
    rw [hp]at m0 m1 m2 m3 m4;simp only [Ci,bG,aX,aP,CX,bO,bR,if_false,cJ];exact aJs (by unfold Ba.wJ;rw [hp])
   | some v=>
    rw [hp]at m0 m1 m2 m3 m4;have m4:∀{K:KV},aH (.ptr j 4) S2 K=K (.str v.tx) S2:=m4;simp only [VN,bG,aX,aP,aN,bO,if_true,m4];refine UZ hx k2 ?_;simp only [bR];cases ha:a.zE rs[i] 4 v.tx with
    | false=>
     simp only [if_false,cJ];exact aJs (by unfold Ba.wJ;simp [hp,ha])
    | true=>
     have hd:rs.findSome? a.wJ=some v.tx:=by
      have:a.wJ rs[i]=some v.tx:=by unfold Ba.wJ;simp [hp,ha]
      have e3:(rs.drop i).findSome? a.wJ=some v.tx:=by rw [BB hlt,List.findSome?_cons,this]
      have e4:=kA (fun l=>List.findSome? a.wJ l) (IE i rs);simp only [List.findSome?_append,h3,e3]at e4;exact e4.symm
     rw [hd]at hk;simp only [if_true,m4];refine pF k2.row rfl (by simp [qN]) ?_;refine CZ (S':=aR S b (.row (qN {a.s with dec:=v.tx} t) ty)) (cs:=[]) (n:=0) (gA.aR iM) .nil fun O=>?_;have i2:kD ⟨{a.s with dec:=v.tx},a.l⟩:=⟨k.inv.ok,k.inv.rd,k.inv.st,k.inv.Fy,k.inv.lk,k.inv.vl,(k.inv.Gf hp).2.2.2.2.1,k.inv.OX,k.inv.vs⟩;exact hk _ .aDh (k.set rfl i2) O
  ·rw [if_neg (by simp;omega)]
   exact fin i (by omega) h3
theorem Gj (k:kD a):a.rounds.length<=2400:=by
 have h1:=aFX (a.l.map (·.rd)) (a.l.map (·.rd)).length;have h2:=aAq k.OX k.ok.1.2 fun v hv=>(k.vs v hv).1;rw [DD]at h1;unfold Ba.rounds dd;rw [DD];omega
theorem aF8 (hM:100000<M) (hx:Deep PP cM gT M (n+3) x) (k:zJ S b t m ty a){want:List UInt8}{may:List (List UInt8)}{Ow:Tag} (hk:rW S b t m ty a.rO.1 (Res K a.rO)):x.call fU [.ptr b 0,.agg (wV want may Ow)] S K:=by
 refine hx.call aF7 fun y hy=>?_;rw [JH];unfold xV;refine Vq fun i hi=>?_;have iM:gA S (aR S i (.row (wV want may Ow) 119)):= .aT hi;generalize hS1:aR S i (.row (wV want may Ow) 119)=S1 at iM;have k1:=k.le iM;obtain⟨l0,l1,l2,l3,l4,l5,l6,l7,l8,l9,l10,l11,Qa,Kf,Qb,By⟩:=zX k1.row;simp only [bG,aX,By];refine Vp hy hM k1 fun O=>?_;have hm:y.most=M:=hy.most;have hlen:=Gj k.inv;obtain⟨p,hp⟩:=eY (show y.most≠0 by omega);simp only [UA,hp];refine aDn hy k (fun r hr=>k.inv.RR hr) (by omega) ?_ p 0 S1 (by omega) (by omega) rfl iM;unfold Ba.rO at hk;cases e:a.rounds.findSome? a.wJ with
 | none=>rw [e]at hk;exact hk
 | some tx=>rw [e]at hk;exact hk
theorem Kg (hM:100000<M) (hx:Deep PP cM gT M (n+5) x) (k:zJ S b t m ty a){tx:List UInt8}{free:Bool} (hk:rW S b t m ty (a.oK tx free).1 (Res K (Ba.yes (a.oK tx free)))):x.call fM [.ptr b 0,.str tx,.bool free] S K:=by
 refine hx.call aDk fun y hy=>?_;rw [HV];unfold wI;have hm:y.most≠0:=by rw [hy.most];omega
 refine to2 hy k (by decide) (by decide) fun S1 c1 k1=>?_
 have jo:∀u,(if !free&& !decide (a.s.lock=tx)then []else tx)=u->jX y (.ptr b 0) (.str u) S1 K:=by
  intro u e;rw [BN y hm];unfold mT;refine aQ ?_;refine aH6 (by omega) hy k1 fun S2 c2 k2 O=>?_;have e2:a.oK tx free=(a.to 2).say 3 0 u:=by unfold Ba.oK;rw [e]
  rw [e2]at hk;exact CZ (.refl S2) .list fun O=>hk S2 (c1.trans c2) k2 O
 obtain⟨l0,l1,l2,l3,l4,l5,l6,l7,l8,l9,l10,l11,Qa,Kf,Qb,By⟩:=zX k1.row;have l7:∀{K:KV},aH (.ptr b 7) S1 K=K (.str a.s.lock) S1:=l7;cases free with
 | true=>
  simp only [aP,CX,bO,bR,iJ,fJ,if_false,cJ];exact jo tx rfl
 | false=>
  simp only [bG,aX,aP,aN,bO,bR,iJ,fD,if_true,l7,XI];by_cases e:a.s.lock=tx
  ·simp only [e,decide_true,fJ,if_false,cJ]
   exact jo tx (by simp [e])
  ·simp only [e,decide_false,fD,if_true]
   exact jo [] (by simp [e])
theorem aH8 (hM:100000<M) (hx:Deep PP cM gT M (n+6) x) (k:zJ S b t m ty a){want:List UInt8}{may:List (List UInt8)}{Ow:Tag} (Gk:may.length<=100000) (hk:rW S b t m ty (a.fresh may).1 (Res K (a.fresh may))):x.call iU [.ptr b 0,.agg (wV want may Ow)] S K:=by
 refine hx.call aH7 fun y hy=>?_;rw [KK];unfold yI;have hm:y.most≠0:=by rw [hy.most];omega
 refine Vq fun i hi=>?_;have iM:gA S (aR S i (.row (wV want may Ow) 119)):= .aT hi;have ri:aR S i (.row (wV want may Ow) 119) i=some (.row (wV want may Ow) 119):=aD;generalize hS1:aR S i (.row (wV want may Ow) 119)=S1 at iM ri;have k1:=k.le iM;obtain⟨l0,l1,l2,l3,l4,l5,l6,l7,l8,l9,l10,l11,Qa,Kf,Qb,By⟩:=zX k1.row;simp only [bG,aX,aP,l4];have hrd:=k.inv.rd;refine JN hy k1 (by omega) ?_;simp only [MV,MW];refine kV (l:=KP.vv) rfl fun j hj=>?_;refine nG aD (by rfl) (by rfl) (by rfl) ?_;rw [fG];have KE:i≠j:=fun e=>by rw [<-e,ri]at hj;cases hj
 have hbj:b≠j:=fun e=>by have:=k1.row;rw [e,hj]at this;cases this
 have pT:gA S1 (aR S1 j (.row ((a.pr a.s.rd).getD KP).vv 94)):= .aT hj;have rj:aR S1 j (.row ((a.pr a.s.rd).getD KP).vv 94) j=some (.row ((a.pr a.s.rd).getD KP).vv 94):=aD;generalize hS2:aR S1 j (.row ((a.pr a.s.rd).getD KP).vv 94)=S2 at pT rj;have le:=iM.trans pT;have k2:=k1.le pT;have ri2:=pT _ _ ri;obtain⟨m0,m1,m2,m3,m4⟩:=Pj rj;obtain⟨l0,l1,l2,l3,l4,l5,l6,l7,l8,l9,l10,l11,Qa,Kf,Qb,By⟩:=zX k2.row;have w1:∀{K:KV},aH (.ptr i 1) S2 K=K (.list Ow (Ke may) may.length) S2:=eL ri2;have no:a.fresh may=a.no->bD (.tuple [.nil,.bool false]) S2 K:=fun e=>RU hk k e le;unfold Ba.fresh at no hk;simp only [l5,kT,aX,bO];by_cases h1:a.s.st=1
 ·have e1:decide (a.s.st=Int.ofNat 1)=true:=bK h1
  cases hp:a.pr a.s.rd with
  | none=>
   rw [hp]at no;simp only [e1,Ci,aN,dE,bO,bR,iJ,fJ,fD,if_true,if_false,cJ];exact no rfl
  | some v=>
   rw [hp]at m3 m4 no hk;have m3:∀{K:KV},aH (.ptr j 3) S2 K=K (.int .i64 v.vl) S2:=m3;have m4:∀{K:KV},aH (.ptr j 4) S2 K=K (.str v.tx) S2:=m4;simp only [e1,VN,aN,bO,iJ,fJ,if_false,cJ,m3,kT];by_cases h2:v.vl= -1
   ·have e2:decide (v.vl=Int.negSucc 0)=true:=bK h2
    simp only [e2,aN,fJ,if_false,cJ,w1,m4];refine aAz hy (by omega) (by omega) ?_;cases h3:may.contains v.tx with
    | false=>
     simp only [bR,iJ,fD,if_true];exact no (by simp only [h3,Bool.and_false];rfl)
    | true=>
     simp only [bR,iJ,fJ,if_false,cJ,m4,l7,CY];have h4:(decide (a.s.st=1)&&decide (v.vl= -1)&&may.contains v.tx)=true:=by simp [h1,h2];simpa using h3
     simp only [h4,if_true]at hk;refine Kg hM hy k2 fun S3 c3 k3 O=>?_;have e5:(a.oK v.tx (decide (a.s.lock=[]))).1.s=(a.to 2).s:=Pk _ _ _ _;have r3:=k3.row;rw [e5]at r3;have l7:∀{K:KV},aH (.ptr b 7) S3 K=K (.str a.s.lock) S3:=eL r3;simp only [aBz,MV,MW,l7];exact EU k le hk c3 k3 rfl
   ·have e2:decide (v.vl=Int.negSucc 0)=false:=bM h2
    simp only [e2,dE,bR,fD,if_true];exact no (by simp [h2])
 ·have e1:decide (a.s.st=Int.ofNat 1)=false:=bM h1
  simp only [e1,dE,bO,bR,fD,if_true];refine no ?_;cases a.pr a.s.rd<;>simp [h1]
theorem aNh (hM:100000<M) (hx:Deep PP cM gT M (n+6) x) (k:zJ S b t m ty a){want:List UInt8}{may:List (List UInt8)}{Ow:Tag} (hk:rW S b t m ty (a.old).1 (Res K (a.old))):x.call kW [.ptr b 0,.agg (wV want may Ow)] S K:=by
 refine hx.call aNg fun y hy=>?_;rw [OV];unfold BY;have hm:y.most≠0:=by rw [hy.most];omega
 refine Vq fun i hi=>?_;have iM:gA S (aR S i (.row (wV want may Ow) 119)):= .aT hi;have ri:aR S i (.row (wV want may Ow) 119) i=some (.row (wV want may Ow) 119):=aD;generalize hS1:aR S i (.row (wV want may Ow) 119)=S1 at iM ri;have k1:=k.le iM;obtain⟨l0,l1,l2,l3,l4,l5,l6,l7,l8,l9,l10,l11,Qa,Kf,Qb,By⟩:=zX k1.row;simp only [bG,aX,aP,l4];have hrd:=k.inv.rd;refine JN hy k1 (by omega) ?_;simp only [MV,MW];refine kV (l:=KP.vv) rfl fun j hj=>?_;refine nG aD (by rfl) (by rfl) (by rfl) ?_;rw [fG];have KE:i≠j:=fun e=>by rw [<-e,ri]at hj;cases hj
 have hbj:b≠j:=fun e=>by have:=k1.row;rw [e,hj]at this;cases this
 have pT:gA S1 (aR S1 j (.row ((a.pr a.s.rd).getD KP).vv 94)):= .aT hj;have rj:aR S1 j (.row ((a.pr a.s.rd).getD KP).vv 94) j=some (.row ((a.pr a.s.rd).getD KP).vv 94):=aD;generalize hS2:aR S1 j (.row ((a.pr a.s.rd).getD KP).vv 94)=S2 at pT rj;have le:=iM.trans pT;have k2:=k1.le pT;have ri2:=pT _ _ ri;obtain⟨m0,m1,m2,m3,m4⟩:=Pj rj;obtain⟨l0,l1,l2,l3,l4,l5,l6,l7,l8,l9,l10,l11,Qa,Kf,Qb,By⟩:=zX k2.row;have no:a.old=a.no->bD (.tuple [.nil,.bool false]) S2 K:=fun e=>RU hk k e le;unfold Ba.old at no hk;simp only [l5,kT,aX,bO];by_cases h1:a.s.st=1
 ·have e1:decide (a.s.st=Int.ofNat 1)=true:=bK h1
  cases hp:a.pr a.s.rd with
  | none=>
   rw [hp]at no;simp only [e1,Ci,aN,dE,bO,bR,iJ,fJ,fD,if_true,if_false,cJ];exact no rfl
  | some v=>
   rw [hp]at m3 m4 no hk;have m3:∀{K:KV},aH (.ptr j 3) S2 K=K (.int .i64 v.vl) S2:=m3;have m4:∀{K:KV},aH (.ptr j 4) S2 K=K (.str v.tx) S2:=m4;simp only [e1,VN,aN,bO,iJ,fJ,if_false,cJ,m3,fB];by_cases h2:v.vl= -1
   ·have e2:decide (v.vl=Int.negSucc 0)=true:=bK h2
    simp only [e2,dE,bR,if_true];exact no (by simp [h2])
   ·have e2:decide (v.vl=Int.negSucc 0)=false:=bM h2
    simp only [e2,aN,if_false,cJ,m3,m4];refine UZ hy k2 ?_;cases h3:a.zE v.vl 3 v.tx with
    | false=>
     simp only [bR,iJ,fD,if_true];exact no (by simp [h3])
    | true=>
     simp only [bR,iJ,fJ,if_false,cJ,m3,m4,l9,kS];have h4:(decide (a.s.st=1)&& !decide (v.vl= -1)&&a.zE v.vl 3 v.tx)=true:=by simp [h1,h2,h3]
     simp only [h4,if_true]at hk;refine Kg hM hy k2 fun S3 c3 k3 O=>?_;have e5:(a.oK v.tx (decide (a.s.HZ<=v.vl))).1.s=(a.to 2).s:=Pk _ _ _ _;have r3:=k3.row;rw [e5]at r3;have l9:∀{K:KV},aH (.ptr b 9) S3 K=K (.int .i64 a.s.HZ) S3:=eL r3
     have hjm:j≠m:=fun e=>by
      obtain⟨_,q1,_⟩:=k1.Pi;have:=q1.map;rw [<-e,hj]at this;cases this
     have rj3:S3 j=some (.row v.vv 94):=by rw [c3 j (dV hbj) hjm,rj,hp];rfl
     have m3:∀{K:KV},aH (.ptr j 3) S3 K=K (.int .i64 v.vl) S3:=eL rj3;simp only [vG,MV,MW,l9,m3];exact EU k le hk c3 k3 rfl
 ·have e1:decide (a.s.st=Int.ofNat 1)=false:=bM h1
  simp only [e1,dE,bO,bR,fD,if_true];refine no ?_;cases a.pr a.s.rd<;>simp [h1]
theorem aDo (hM:100000<M) (hx:Deep PP cM gT M (n+6) x) (k:zJ S b t m ty a){want:List UInt8}{may:List (List UInt8)}{Ow:Tag} (hk:rW S b t m ty (a.nothing).1 (Res K (a.nothing))):x.call gR [.ptr b 0,.agg (wV want may Ow)] S K:=by
 refine hx.call aDl fun y hy=>?_;rw [HT];unfold wG;have hm:y.most≠0:=by rw [hy.most];omega
 refine Vq fun i hi=>?_;have iM:gA S (aR S i (.row (wV want may Ow) 119)):= .aT hi;have ri:aR S i (.row (wV want may Ow) 119) i=some (.row (wV want may Ow) 119):=aD;generalize hS1:aR S i (.row (wV want may Ow) 119)=S1 at iM ri;have k1:=k.le iM;obtain⟨l0,l1,l2,l3,l4,l5,l6,l7,l8,l9,l10,l11,Qa,Kf,Qb,By⟩:=zX k1.row;have no:a.nothing=a.no->bD (.tuple [.nil,.bool false]) S1 K:=fun e=>RU hk k e iM;unfold Ba.nothing at no hk;simp only [l5,kT,bG,aX,aP,bO];by_cases h1:a.s.st=2
 ·have e1:decide (a.s.st=Int.ofNat 2)=true:=bK h1
  simp only [e1,l4,bG,aX,aN,fJ,if_false,cJ];refine UZ hy k1 ?_;cases h3:a.zE a.s.rd 3 []with
  | false=>
   simp only [bR,iJ,fD,if_true];exact no (by simp [h3])
  | true=>
   simp only [bR,iJ,fJ,if_false,cJ];rw [if_pos (by simp [h1,h3])]at hk;refine to2 hy k1 (by decide) (by decide) fun S2 c2 k2=>?_;refine aH6 (by omega) hy k2 fun S3 c3 k3 O=>?_;exact EU k iM hk (c2.trans c3) k3 rfl
 ·have e1:decide (a.s.st=Int.ofNat 2)=false:=bM h1
  simp only [e1,dE,bR,fD,if_true];exact no (by simp [h1])
theorem aDp (hM:100000<M) (hx:Deep PP cM gT M (n+6) x) (k:zJ S b t m ty a){want:List UInt8}{may:List (List UInt8)}{Ow:Tag} (hk:rW S b t m ty (a.vH want).1 (Res K (a.vH want))):x.call eD [.ptr b 0,.agg (wV want may Ow)] S K:=by
 refine hx.call aDm fun y hy=>?_;rw [HU];unfold wH;have hm:y.most≠0:=by rw [hy.most];omega
 refine Vq fun i hi=>?_;have iM:gA S (aR S i (.row (wV want may Ow) 119)):= .aT hi;have ri:aR S i (.row (wV want may Ow) 119) i=some (.row (wV want may Ow) 119):=aD;generalize hS1:aR S i (.row (wV want may Ow) 119)=S1 at iM ri;have k1:=k.le iM;obtain⟨l0,l1,l2,l3,l4,l5,l6,l7,l8,l9,l10,l11,Qa,Kf,Qb,By⟩:=zX k1.row;have w0:∀{K:KV},aH (.ptr i 0) S1 K=K (.str want) S1:=eL ri;have hrd:=k.inv.rd;have YR:=k.inv.ok;simp only [l8,l10,CY,bG,aX,bR]
 have jo:∀(u:List UInt8) (w:Int),a.wants want=(u,w)->jW y (.ptr b 0) (.str u) (.int .i64 w) S1 K:=by
  intro u w e;have no:a.vH want=a.no->bD (.tuple [.nil,.bool false]) S1 K:=fun e=>RU hk k e iM;unfold Ba.vH at no hk;rw [e]at no hk;rw [BM y hm];unfold mS;refine aQ ?_;simp only [l5,kT,bG,aX,aP,bO];by_cases h1:a.s.st=1
  ·have e1:decide (a.s.st=Int.ofNat 1)=true:=bK h1
   simp only [e1,l11,bG,aX,aN,rY,bO,fJ,if_false,cJ];cases h2:a.s.prop with
   | true=>
    simp only [l11,h2,l5,dE,yX,bO,bR,if_true,vG,NZ];exact no (by simp [h2])
   | false=>
    simp only [l3,l4,bG,aX,aN,rY,if_false,cJ];refine RS (z:=a.s.rd) JM hy k1.row (by have:=YR.2.1;omega) (by omega) (by have:=YR.1;omega) ?_;simp only [l3,l5,l11,h2,kT,bO,vG,NZ];by_cases h3:1+(a.s.h+a.s.rd)%a.s.n=a.s.me
    ·have e3:decide (1+(a.s.h+a.s.rd)%a.s.n=a.s.me)=true:=bK h3
     simp only [e3,CY,aN,bR,fJ,if_false,cJ];by_cases h4:u=[]
     ·simp only [h4,decide_true,if_true]
      exact no (by simp [h4])
     ·simp only [h4,decide_false,if_false,cJ]
      have h5:(decide (a.s.st=1)&& !a.s.prop&&decide (a.s.pro a.s.rd=a.s.me)&& !decide (u=[]))=true:=by
       have:a.s.pro a.s.rd=a.s.me:=h3;simp [h1,h2,this,h4]
      simp only [h5,if_true]at hk;refine pF k1.row rfl (by simp [qN]) ?_;have k2:=k1.set (s:={a.s with prop:=true}) rfl ⟨k.inv.ok,k.inv.rd,k.inv.st,k.inv.Fy,k.inv.lk,k.inv.vl,k.inv.dec,k.inv.OX,k.inv.vs⟩;refine aH6 (by omega) hy k2 fun S3 c3 k3 O=>?_;exact EU k iM hk (Ch.aDh.trans c3) k3 rfl
    ·have e3:decide (1+(a.s.h+a.s.rd)%a.s.n=a.s.me)=false:=bM h3
     simp only [e3,dE,bR,fD,if_true];refine no ?_;have:¬a.s.pro a.s.rd=a.s.me:=h3;simp [this]
  ·have e1:decide (a.s.st=Int.ofNat 1)=false:=bM h1
   simp only [e1,l5,dE,yX,bO,bR,fD,if_true,vG];exact no (by simp [h1])
 by_cases h0:a.s.valid=[]
 ·rw [if_pos (by simp [h0])]
  simp only [w0];exact jo want (.negSucc 0) (by unfold Ba.wants;rw [if_pos h0];rfl)
 ·rw [if_neg (by simp [h0])]
  exact jo _ _ (by unfold Ba.wants;rw [if_neg h0])
theorem aK1 (hM:100000<M) (hx:Deep PP cM gT M (n+6) x) (k:zJ S b t m ty a){want:List UInt8}{may:List (List UInt8)}{Ow:Tag} (hk:rW S b t m ty (a.lock).1 (Res K (a.lock))):x.call jR [.ptr b 0,.agg (wV want may Ow)] S K:=by
 refine hx.call aK0 fun y hy=>?_;rw [NI];unfold AV;have hm:y.most≠0:=by rw [hy.most];omega
 refine Vq fun i hi=>?_;have iM:gA S (aR S i (.row (wV want may Ow) 119)):= .aT hi;have ri:aR S i (.row (wV want may Ow) 119) i=some (.row (wV want may Ow) 119):=aD;generalize hS1:aR S i (.row (wV want may Ow) 119)=S1 at iM ri;have k1:=k.le iM;obtain⟨l0,l1,l2,l3,l4,l5,l6,l7,l8,l9,l10,l11,Qa,Kf,Qb,By⟩:=zX k1.row;simp only [bG,aX,aP,l4];have hrd:=k.inv.rd;refine JN hy k1 (by omega) ?_;simp only [MV,MW];refine kV (l:=KP.vv) rfl fun j hj=>?_;refine nG aD (by rfl) (by rfl) (by rfl) ?_;rw [fG];have KE:i≠j:=fun e=>by rw [<-e,ri]at hj;cases hj
 have hbj:b≠j:=fun e=>by have:=k1.row;rw [e,hj]at this;cases this
 have pT:gA S1 (aR S1 j (.row ((a.pr a.s.rd).getD KP).vv 94)):= .aT hj;have rj:aR S1 j (.row ((a.pr a.s.rd).getD KP).vv 94) j=some (.row ((a.pr a.s.rd).getD KP).vv 94):=aD;generalize hS2:aR S1 j (.row ((a.pr a.s.rd).getD KP).vv 94)=S2 at pT rj;have le:=iM.trans pT;have k2:=k1.le pT;have ri2:=pT _ _ ri;obtain⟨m0,m1,m2,m3,m4⟩:=Pj rj;obtain⟨l0,l1,l2,l3,l4,l5,l6,l7,l8,l9,l10,l11,Qa,Kf,Qb,By⟩:=zX k2.row;have no:a.lock=a.no->bD (.tuple [.nil,.bool false]) S2 K:=fun e=>RU hk k e le;unfold Ba.lock at no hk;simp only [l5,fB,aX,bO];by_cases h1:a.s.st=1
 ·have e1:decide (a.s.st=Int.ofNat 1)=true:=bK h1
  simp only [e1,l5,dE,yX,bO,bR,if_true,vG];refine no ?_;cases a.pr a.s.rd<;>simp [h1]
 ·have e1:decide (a.s.st=Int.ofNat 1)=false:=bM h1
  simp only [e1,Qa,bG,aX,aN,rY,bO,if_false,cJ];cases h2:a.s.seen with
  | true=>
   simp only [Qa,h2,l5,dE,bO,bR,if_true,vG,NZ];refine no ?_;cases a.pr a.s.rd<;>simp [h2]
  | false=>
   simp only [aN,bO,iJ,if_false,cJ];cases hp:a.pr a.s.rd with
   | none=>
    rw [hp]at no;simp only [Ci,Qa,h2,l5,dE,bR,fD,if_true,vG,NZ];exact no rfl
   | some v=>
    rw [hp]at m4 no hk;have m4:∀{K:KV},aH (.ptr j 4) S2 K=K (.str v.tx) S2:=m4;simp only [VN,bG,aX,aN,fJ,if_false,cJ,l4,m4];refine UZ hy k2 ?_;cases h3:a.zE a.s.rd 3 v.tx with
    | false=>
     simp only [bR,iJ,fD,if_true,vG,NZ,Qa,h2,l5];exact no (by simp [h3])
    | true=>
     simp only [bR,iJ,fJ,if_false,cJ,vG,NZ,Qa,h2,l5,m4,l4];have h4:(!decide (a.s.st=1)&& !a.s.seen&&a.zE a.s.rd 3 v.tx)=true:=by simp [h1,h2,h3]
     simp only [h4,if_true]at hk;obtain⟨_,_,_,q1,q2,_⟩:=k.inv.Gf hp;have hp3:XS v.tx a.s.rd a.s.rd=true:=(tS _ _ _).2 ⟨q2,by omega,Cn _,⟨fun e=>absurd e q1,fun e=>by omega⟩⟩;refine pF k2.row rfl (by simp [qN]) ?_;have rj3:aR S2 b (.row (aG 12 [.bool true] (qN a.s t)) ty) j=some (.row v.vv 94):=by rw [aF (dV hbj),rj,hp];rfl
     have m4':∀{K:KV},aH (.ptr j 4) (aR S2 b (.row (aG 12 [.bool true] (qN a.s t)) ty)) K=K (.str v.tx) (aR S2 b (.row (aG 12 [.bool true] (qN a.s t)) ty)):=eL rj3;simp only [m4',aBz];refine pF aD rfl (by simp [qN,aG]) ?_;rw [fG];refine pF aD rfl (by simp [qN,aG]) ?_;rw [fG];have a1:kD ⟨{a.s with seen:=true,valid:=v.tx,sG:=a.s.rd},a.l⟩:=⟨k.inv.ok,k.inv.rd,k.inv.st,k.inv.Fy,k.inv.lk,hp3,k.inv.dec,k.inv.OX,k.inv.vs⟩;have k3:=k2.set (s:={a.s with seen:=true,valid:=v.tx,sG:=a.s.rd}) rfl a1;show aH (.ptr b 5) (aR S2 b (.row (qN {a.s with seen:=true,valid:=v.tx,sG:=a.s.rd} t) ty)) _;have rj4:aR S2 b (.row (qN {a.s with seen:=true,valid:=v.tx,sG:=a.s.rd} t) ty) j=some (.row v.vv 94):=by rw [aF (dV hbj),rj,hp];rfl
     have c3:Ch S2 (aR S2 b (.row (qN {a.s with seen:=true,valid:=v.tx,sG:=a.s.rd} t) ty)) b m:= .aDh;generalize aR S2 b (.row (qN {a.s with seen:=true,valid:=v.tx,sG:=a.s.rd} t) ty)=S3 at k3 rj4 c3;have l5:∀{K:KV},aH (.ptr b 5) S3 K=K (.int .i64 a.s.st) S3:=eL k3.row;have l4:∀{K:KV},aH (.ptr b 4) S3 K=K (.int .i64 a.s.rd) S3:=eL k3.row;have m4:∀{K:KV},aH (.ptr j 4) S3 K=K (.str v.tx) S3:=eL rj4;simp only [l5,l4,m4,fB,bR];by_cases h5:a.s.st=3
     ·rw [if_pos (by exact bK h5)]
      rw [if_pos h5]at hk;obtain⟨S',g1,_,g2⟩:=shrink k le hk c3 k3;exact CZ (cs:=[]) (n:=0) g1 .nil g2
     ·rw [if_neg (by simpa using h5)]
      rw [if_neg h5]at hk;refine pF k3.row rfl (by simp [qN]) ?_;refine pF aD rfl (by simp [qN,aG]) ?_;rw [fG];have a2:kD ⟨{a.s with seen:=true,valid:=v.tx,sG:=a.s.rd,lock:=v.tx,HZ:=a.s.rd},a.l⟩:=⟨k.inv.ok,k.inv.rd,k.inv.st,k.inv.Fy,hp3,hp3,k.inv.dec,k.inv.OX,k.inv.vs⟩;have k4:=k3.set (s:={a.s with seen:=true,valid:=v.tx,sG:=a.s.rd,lock:=v.tx,HZ:=a.s.rd}) rfl a2;show y.call dX [.ptr b 0,.int .i64 3] (aR S3 b (.row (qN {a.s with seen:=true,valid:=v.tx,sG:=a.s.rd,lock:=v.tx,HZ:=a.s.rd} t) ty)) _;have rj5:aR S3 b (.row (qN {a.s with seen:=true,valid:=v.tx,sG:=a.s.rd,lock:=v.tx,HZ:=a.s.rd} t) ty) j=some (.row v.vv 94):=by rw [aF (dV hbj)];exact rj4
      have c4:Ch S2 (aR S3 b (.row (qN {a.s with seen:=true,valid:=v.tx,sG:=a.s.rd,lock:=v.tx,HZ:=a.s.rd} t) ty)) b m:=c3.trans .aDh;generalize aR S3 b (.row (qN {a.s with seen:=true,valid:=v.tx,sG:=a.s.rd,lock:=v.tx,HZ:=a.s.rd} t) ty)=S4 at k4 rj5 c4;refine to2 hy k4 (by decide) (by decide) fun S5 c5 k5=>?_
      have hjm:j≠m:=fun e=>by
       obtain⟨_,q1,_⟩:=k1.Pi;have:=q1.map;rw [<-e,hj]at this;cases this
      have rj6:S5 j=some (.row v.vv 94):=by rw [c5 j (dV hbj) hjm];exact rj5
      have m4:∀{K:KV},aH (.ptr j 4) S5 K=K (.str v.tx) S5:=eL rj6;simp only [m4];refine aH6 (by omega) hy k5 fun S6 c6 k6 O=>?_;exact EU k le hk ((c4.trans c5).trans c6) k6 rfl
end
theorem aK2:gT aV=none:=rfl
theorem aAA:gT lO=none:=rfl
theorem Vr:gT eU=none:=rfl
section
variable{M n b t m:Nat}{x:VE}{S:Hp}{K:KV}{ty:TypeId}{a:Ba}
theorem aH9{l bk:Nat}{rs:List Int}{O:Tag}{J:Nat->Hp->Prop}{E:Hp->Prop} (hl:rs.length<=1000000) (Xk:∀i S,J i S->S bk=some (.row [.list O (pV rs) rs.length] 33))
 (aNi:∀(i:Nat) (S:Hp) (K':KV) (hi:i<rs.length),J (i+1) S->(∀S',J i S'->K' (.bool true) S')->(∀S',E S'->K' (.bool false) S')->x.R l [.int .i64 (.ofNat i),.int .i64 rs[i]] S K')
 (h0:∀S,J 0 S->K (.tuple []) S) (hE:∀S,E S->K (.tuple []) S):∀(q i:Nat) (S:Hp) (z:Int),i<=q->i<=rs.length->z=(i:Int)-1->J i S->dS x (q+1) (.yield l) (.ptr bk 0) (.int .i64 z) S K:=by
 have fin:∀(q:Nat) (S:Hp) (z:Int),z= -1->J 0 S->dS x (q+1) (.yield l) (.ptr bk 0) (.int .i64 z) S K:=by
  intro q S z hz j;rw [nD];unfold iR;refine aQ ?_;rw [nS,bR,if_neg (by rw [hz];decide)];exact aJ (h0 S j)
 intro q;induction q with
 | zero=>
  intro i S z h1 h2 hz j;obtain rfl:i=0:=by omega
  exact fin _ S z (by omega) j
 | succ q ih=>
  intro i S z h1 h2 hz j;cases i with
  | zero=>exact fin _ S z (by omega) j
  | succ i=>
   obtain rfl:z=Int.ofNat i:=by simp at hz;exact hz
   rw [nD];unfold iR;refine aQ ?_;rw [nS,bR,if_pos (by simp)];refine jU (Xk _ _ j) rfl ?_;have hi:i<rs.length:=by omega
   rw [RD hi,ZE,sA,lJ (a:= .int .i64 rs[i]) (by unfold pV;rw [lA,aS hi];rfl)];show fF x (.yield l) [.int .i64 (.ofNat i),.int .i64 rs[i]] S _;rw [aFg];refine aNi i S _ hi j (fun S' j'=>?_) (fun S' e'=>?_)
   ·simp only [iJ,bR,fJ,cJ,if_false,gQ]
    rw [wrap_small (by simp;omega) (by simp;omega)];exact ih i S' _ (by omega) (by omega) (by simp) j'
   ·simp only [iJ,bR,fD,if_true]
    exact aJ (hE S' e')
theorem aK3 (hM:100000<M) (hx:Deep PP cM gT M (n+5) x) (k:zJ S b t m ty a){want:List UInt8}{may:List (List UInt8)}{Ow:Tag} (hk:rW S b t m ty a.skip.1 (Res K a.skip)):x.call aV [.ptr b 0,.agg (wV want may Ow)] S K:=by
 refine hx.call aK2 fun y hy=>?_;rw [NH];unfold AU;have aO2:∀{S:Hp} {K:KV},(∀i,S i=none->K (.ptr i 0) (aR S i (.row [.ptr b 0] 80)))->tW 80 (.ptr b 0) S K:=fun h=>h;refine aO2 fun ib hib=>?_;have iM:gA S (aR S ib (.row [.ptr b 0] 80)):= .aT hib;have r1:aR S ib (.row [.ptr b 0] 80) ib=some (.row [.ptr b 0] 80):=aD;generalize aR S ib (.row [.ptr b 0] 80)=S1 at iM r1;refine Vq fun iw hiw=>?_;have pT:gA S1 (aR S1 iw (.row (wV want may Ow) 119)):= .aT hiw;generalize aR S1 iw (.row (wV want may Ow) 119)=S2 at pT;refine kV (l:=[.nil]) rfl fun il DW=>?_;have EV:gA S2 (aR S2 il (.row [.nil] 23)):= .aT DW;have r3:aR S2 il (.row [.nil] 23) il=some (.row [.nil] 23):=aD;generalize aR S2 il (.row [.nil] 23)=S3 at EV r3;refine kV (l:=[.bool false]) rfl fun id Bj=>?_;have He:gA S3 (aR S3 id (.row [.bool false] 4)):= .aT Bj;have r4:aR S3 id (.row [.bool false] 4) id=some (.row [.bool false] 4):=aD;generalize aR S3 id (.row [.bool false] 4)=S4 at He r4;have k4:=k.le (((iM.trans pT).trans EV).trans He);have q1:=He _ _ (EV _ _ (pT _ _ r1));have q3:=He _ _ r3;refine jU q1 rfl ?_;have By:∀{K:KV},aH (.ptr b 15) S4 K=K (.ptr t 0) S4:=eL k4.row;simp only [bG,aX,By];refine Vp hy hM k4 fun O=>?_;refine hy.call aAA fun z hz=>?_;rw [zC];unfold qL;have aNj:∀{S:Hp} {K:KV},(∀i,S i=none->K (.ptr i 0) (aR S i (.row [.list O (pV a.rounds) a.rounds.length] 33)))->tW 33 (.list O (pV a.rounds) a.rounds.length) S K:=fun h=>h;refine aNj fun bk hbk=>aJ ?_;have le5:gA S4 (aR S4 bk (.row [.list O (pV a.rounds) a.rounds.length] 33)):= .aT hbk;have r5:aR S4 bk (.row [.list O (pV a.rounds) a.rounds.length] 33) bk=some (.row [.list O (pV a.rounds) a.rounds.length] 33):=aD;generalize aR S4 bk (.row [.list O (pV a.rounds) a.rounds.length] 33)=S5 at le5 r5;have p1:=le5 _ _ q1;have p3:=le5 _ _ q3;have p4:=le5 _ _ r4;have k5:=k4.le le5;refine aCT fun l hl=>?_;obtain⟨l0,tl,tp⟩:=k.Pi;have ne:∀{i j:Nat} {o:Ob} {S':Hp},S' i=none->S' j=some o->i≠j:=fun h1 h2 e=>by rw [e,h2]at h1;cases h1
 have hb3:S2 b=some (.row (qN a.s t) ty):=(iM.trans pT) _ _ k.row;have ilb:il≠b:=ne DW hb3;have ilm:il≠m:=ne DW ((iM.trans pT) _ _ tl.map);have ilt:il≠t:=ne DW ((iM.trans pT) _ _ tl.row);have idb:id≠b:=ne Bj (EV _ _ hb3);have idm:id≠m:=ne Bj (((iM.trans pT).trans EV) _ _ tl.map);have idt:id≠t:=ne Bj (((iM.trans pT).trans EV) _ _ tl.row);have idl:id≠il:=ne Bj r3;have ibb:ib≠b:=ne hib k.row;have ibm:ib≠m:=ne hib tl.map;have lb:l≠b:=ne hl k5.row;have lm:l≠m:=ne hl ((((iM.trans pT).trans EV).trans (He.trans le5)) _ _ tl.map);have lt:l≠t:=ne hl ((((iM.trans pT).trans EV).trans (He.trans le5)) _ _ tl.row);have lib:l≠ib:=ne hl p1;have lil:l≠il:=ne hl p3;have lid:l≠id:=ne hl p4;have lbk:l≠bk:=ne hl r5;have leT:gA S S5:=(((iM.trans pT).trans EV).trans He).trans le5
 let lo:LoopState->Option Code->Ob:=fun st pe=> .loop [2,4,5] [.ptr ib 0,.ptr il 0,.ptr id 0] 40 (aHK PP aV [.r,.l,.r,.d]) (aHL PP aV [.r,.l,.r,.d]) (aFn PP aV [.r,.l,.r,.d]) st pe
 let S6:=aR S5 l (lo .ready none)
 have h6:∀j o,j≠l->S5 j=some o->S6 j=some o:=fun j o hj e=>by show aR S5 l _ j=_;rw [aF hj];exact e
 have hm:y.most=M:=hy.most;have hlen:=Gj k.inv;show y.call eU [.yield l,.ptr bk 0] S6 _;refine hy.call Vr fun w hw=>?_;rw [xY];unfold pG;refine jU (h6 _ _ (dV lbk) r5) rfl ?_;obtain⟨p,hp⟩:=eY (show w.most≠0 by have:=hw.most;omega);simp only [UA,gQ,hp];rw [wrap_small (by simp;omega) (by simp;omega)]
 refine aH9 (J:=fun i S'=>S'=S6/\∀r∈a.rounds.drop i,a.yB r=false)
  (E:=fun S'=>∃r,a.rounds.reverse.find? a.yB=some r/\∃S7,Ch (aR S6 l (lo .busy none)) S7 b m/\zJ S7 b t m ty (a.iL r)/\S'=aR (aR (aR S7 il (.row [.nil] 23)) id (.row [.bool true] 4)) l (lo .done (some .ret)))
  (by omega) (fun i S' h=>by rw [h.1];exact h6 _ _ (dV lbk) r5) ?_ ?_ ?_ p a.rounds.length S6 _ (by have:=hw.most;omega) (bN _) rfl ⟨rfl,fun r hr=>by rw [List.drop_length]at hr;cases hr⟩
 ·
   rintro i _ K' hi ⟨rfl,hj⟩ hT hF
   refine hw.round fun v hv=>?_;refine aCQ (st:= .ready) (pe:=none) (show S6 l=some (lo .ready none)from aD) EZ ?_;rw [EY];unfold tQ;refine aFf (show S6 l=some (lo .ready none)from aD) ?_;have hbz:aR S6 l (.loop [2,4,5] [.ptr ib 0,.ptr il 0,.ptr id 0] 40 (aHK PP aV [.r,.l,.r,.d]) (aHL PP aV [.r,.l,.r,.d]) (aFn PP aV [.r,.l,.r,.d]) .busy none)=aR S6 l (lo .busy none):=rfl;rw [hbz];have hSb:∀j o,j≠l->S5 j=some o->aR S6 l (lo .busy none) j=some o:=fun j o hj e=>by rw [aF hj];exact h6 j o hj e
   have kb:zJ (aR S6 l (lo .busy none)) b t m ty a:=by
    obtain⟨l2,t2,u2⟩:=k5.Pi;exact⟨hSb _ _ (dV lb) k5.row,⟨l2,⟨hSb _ _ (dV lt) t2.row,hSb _ _ (dV lm) t2.map⟩,u2⟩,k5.inv,k5.bt,k5.bm,k5.tm⟩
   have lbz:aR S6 l (lo .busy none) l=some (lo .busy none):=aD
   have aJt:aR (aR S6 l (lo .busy none)) l (lo .ready none)=S6:=by
    rw [fG];show aR (aR S5 l (lo .ready none)) l (lo .ready none)=_;rw [fG]
   have ib':∀{K:KV},aH (.ptr ib 0) (aR S6 l (lo .busy none)) K=K (.ptr b 0) (aR S6 l (lo .busy none)):=eL (hSb _ _ (dV lib) p1);have l4:∀{K:KV},aH (.ptr b 4) (aR S6 l (lo .busy none)) K=K (.int .i64 a.s.rd) (aR S6 l (lo .busy none)):=eL kb.row;have l2:∀{K:KV},aH (.ptr b 2) (aR S6 l (lo .busy none)) K=K (.int .i64 a.s.t) (aR S6 l (lo .busy none)):=eL kb.row;have By:∀{K:KV},aH (.ptr b 15) (aR S6 l (lo .busy none)) K=K (.ptr t 0) (aR S6 l (lo .busy none)):=eL kb.row;have il':aR S6 l (lo .busy none) il=some (.row [.nil] 23):=hSb _ _ (dV lil) p3;have id':aR S6 l (lo .busy none) id=some (.row [.bool false] 4):=hSb _ _ (dV lid) p4;generalize hS7:aR S6 l (lo .busy none)=S7 at kb lbz aJt ib' l4 l2 By il' id'
   have no:a.yB a.rounds[i]=false->PN l .ready none true S7 K':=by
    intro e;refine Tx lbz (hT _ ⟨aJt,fun r hr=>?_⟩);rw [BB hi]at hr;rcases cO.1 hr with rfl | hr
    ·exact e
    ·exact hj r hr
   simp only [ib',l4,bG,aX,nR,aP];by_cases h1:a.s.rd<a.rounds[i]
   ·simp only [bK h1,aN,ib',l2,By,bG,aX]
    obtain⟨l0',t1,t2,t3⟩:=kb.okl;refine hv.GL (f:=oC) (g:=aBM) rfl ⟨t,m,a.s.n.toNat,l0',a.rounds[i],rfl,t1,t2,?_⟩;rw [Kc t3];simp only [rY,ib',l4,l2,vG,Nu,nR,bO,if_true,bR];have hc:(decide (a.s.t<Int.ofNat (UW (fun v=>decide (v.rd=a.rounds[i])) a.s.n.toNat a.l)))=decide (a.s.t<(a.aKG a.rounds[i]:Int)):=rfl;rw [hc];by_cases h2:a.s.t<(a.aKG a.rounds[i]:Int)
    ·rw [if_pos (bK h2)]
     have hs:a.yB a.rounds[i]=true:=by unfold Ba.yB;simp [h1,h2]
     have hfd:a.rounds.reverse.find? a.yB=some a.rounds[i]:=by
      have e1:a.rounds=a.rounds.take i++(a.rounds[i]::a.rounds.drop (i+1)):=by
       rw [<-BB hi,IE]
      have e2:(a.rounds.drop (i+1)).reverse.find? a.yB=none:=by
       rw [VL];intro r hr;rw [hj r (PX.1 hr)];simp
      have e3:=kA (fun q=>List.find? a.yB (List.reverse q)) e1;simp only [List.reverse_append,List.reverse_cons,KX,List.find?_append,e2]at e3;rw [e3];simp [hs]
     have hrr:=k.inv.RR (sW hi);refine aKZ hv kb (by omega) hrr.2 fun S8 c8 k8=>?_;have e8:S8 il=some (.row [.nil] 23):=by rw [c8 il ilb ilm];exact il'
     refine pF e8 rfl (by simp) ?_;have e9:aR S8 il (.row (aG 0 [.nil] [.nil]) 23) id=some (.row [.bool false] 4):=by rw [aF idl,c8 id idb idm];exact id'
     refine pF e9 rfl (by simp) ?_
     have e10:aR (aR S8 il (.row (aG 0 [.nil] [.nil]) 23)) id (.row (aG 0 [.bool true] [.bool false]) 4) l=some (lo .busy none):=by
      rw [aF lid,aF lil,c8 l lb lm];exact lbz
     refine Tx e10 (hF _ ⟨_,hfd,S8,by rw [hS7];exact c8,k8,rfl⟩)
    ·rw [if_neg (by simpa using h2)]
     exact no (by unfold Ba.yB;simp [h2])
   ·simp only [bM h1,CX,vT,ib',l4,vG,Nu,bO,bR,cJ,if_false]
    exact no (by unfold Ba.yB;simp [h1])
 ·
   rintro _ ⟨rfl,hj⟩
   refine Ty (show S6 l=some (lo .ready none)from aD) (by simp) ?_;rw [aHI]
   have hn:a.rounds.reverse.find? a.yB=none:=by
    rw [VL];intro r hr;rw [hj r (by simpa using hr)];simp
   have CH:a.skip=a.no:=by unfold Ba.skip;rw [hn]
   have f:∀j o,j≠l->S5 j=some o->aR S6 l (lo .exhausted none) j=some o:=fun j o hj e=>by rw [aF hj];exact h6 j o hj e
   show sU 1 (.ptr il 0) .nil (aR S6 l (lo .exhausted none)) _;refine pF (f _ _ (dV lil) p3) rfl (by simp) ?_;refine pF (by rw [aF idl];exact f _ _ (dV lid) p4) rfl (by simp) ?_;refine jU (by rw [aF (dV idl)];exact aD) rfl ?_;refine jU aD rfl ?_;refine RU hk k CH ?_;intro j o e;have e5:=leT j o e;have:j≠il:=fun q=>by rw [q,(((iM.trans pT)).none DW)]at e;cases e
   have h2:j≠id:=fun q=>by rw [q,((((iM.trans pT).trans EV)).none Bj)]at e;cases e
   have h3:j≠l:=fun q=>by rw [q,leT.none hl]at e;cases e
   rw [aF h2,aF this];exact f j o h3 e5
 ·
   rintro _ ⟨r,hr,S7,c7,k7,rfl⟩
   refine Ty (show aR _ l (lo .done (some .ret)) l=some (lo .done (some .ret))from aD) (by simp) ?_;rw [aHJ];show aH (.ptr il 0) (aR (aR (aR (aR S7 il (.row [.nil] 23)) id (.row [.bool true] 4)) l (lo .done (some .ret))) l (lo .exhausted (some .ret))) _;rw [fG];refine jU (by rw [aF (dV lil),aF (dV idl)];exact aD) rfl ?_;refine jU (by rw [aF (dV lid)];exact aD) rfl ?_;have If:a.skip=(a.iL r,[],true):=by unfold Ba.skip;rw [hr]
   rw [If]at hk
   have hle:gA S (aR S6 l (lo .busy none)):=fun j o e=>by
    have h3:j≠l:=fun q=>by rw [q,leT.none hl]at e;cases e
    rw [aF h3];exact h6 j o h3 (leT j o e)
   obtain⟨S',g1,g3,g2⟩:=shrink k hle hk c7 k7;have n1:S' il=none:=by rw [g3 il ilb ilm];exact(iM.trans pT).none DW
   have n2:S' id=none:=by rw [g3 id idb idm];exact((iM.trans pT).trans EV).none Bj
   have n3:S' l=none:=by rw [g3 l lb lm];exact leT.none hl
   exact CZ (cs:=[]) (n:=0) (Gi (Gi (Gi g1 n1) n2) n3) .nil g2
end
theorem aO3:gT fT=none:=rfl
theorem aO4:gT jM=none:=rfl
def Cel (vs:List V) (cs:List Dt):Prop:=vs.length=cs.length/\∀(j:Nat) (v:V) (d:Dt),vs[j]? =some v->cs[j]? =some d->∃O,v=T O d
theorem Cel.nil:Cel [] []:=⟨rfl,fun j v d e=>by simp at e⟩
theorem Cel.app{a c:List V}{b d:List Dt} (h:Cel a b) (k:Cel c d):Cel (a++c) (b++d):=by
 refine⟨by simp [h.1,k.1],fun j v x e1 e2=>?_⟩;have hl:=h.1;by_cases hj:j<a.length
 ·rw [fQ hj]at e1
  rw [fQ (by omega)]at e2;exact h.2 j v x e1 e2
 ·rw [iO (by omega)]at e1 e2
  rw [<-hl]at e2;exact k.2 _ v x e1 e2
theorem Cel.tl{O:Tag}{cs:List Dt}:Cel (Tl O 0 cs) cs:=by
 refine⟨Fk _ _ _,fun j v d e1 e2=>?_⟩;rw [Of,e2]at e1;injection e1 with e1;exact⟨_,e1.symm⟩
structure NM (S0 S:Hp) (el size:Nat) (t:V) (vs:List V) (n:Nat):Prop where
 is:(n=0/\t= .nil/\vs=[])\/∃i,t= .acc i n/\S i=some (.jK vs el n)/\S0 i=none
 len:vs.length=n*size
theorem NM.nil{S0 S:Hp}{el size:Nat}:NM S0 S el size .nil [] 0:=⟨.inl ⟨rfl,rfl,rfl⟩,by simp⟩
theorem NM.rK{S0 S S':Hp}{el size n:Nat}{t:V}{vs:List V} (a:NM S0 S el size t vs n) (h:∀i,S i=some (.jK vs el n)->S' i=S i):NM S0 S' el size t vs n:=by
 refine⟨?_,a.len⟩;rcases a.is with q | ⟨i,h1,h2,h3⟩
 ·exact .inl q
 ·exact .inr ⟨i,h1,by rw [h i h2];exact h2,h3⟩
theorem NM.app{S0 S:Hp}{el size bytes n m:Nat}{t:V}{vs:List V}{O:Tag}{cs:List Dt}{K:KV} (a:NM S0 S el size t vs n) (hle:∀i,S i=none->S0 i=none) (hs:0<size) (hc:cs.length=m*size) (ho:∀d∈cs,∀O,tO (T O d)=true) (hb:(n+m)*bytes<=140737488355328/\n+m<=140737488355328)
 (hk:∀t2 S2 vs2,NM S0 S2 el size t2 vs2 (n+m)->vs2=vs++Tl O 0 cs->(∀j o,S j=some o->PM o=false->S2 j=some o)->(∀j,S0 j≠none->S2 j=S j)->K t2 S2):sE el size bytes t (.list O cs m) S K:=by
 unfold sE HJ;refine⟨by omega,?_⟩;rw [uG (by omega)];cases m with
 | zero=>
  have vL:cs=[]:=lZ (by simpa using hc);subst vL;have h:=hk t S vs a (by simp [Tl]) (fun _ _ e _=>e) (fun _ _=>rfl);rcases a.is with ⟨rfl,rfl,_⟩ | ⟨i,rfl,_,_⟩
  ·exact h
  ·exact h
 | succ m=>
  have wK:(Tl O 0 cs).all tO=true:=by
   rw [dL];intro v hv;obtain⟨j,hj⟩:=IF hv;rw [Of]at hj;cases hq:cs[j]? with
   | none=>rw [hq]at hj;cases hj
   | some d=>rw [hq]at hj;injection hj with hj;subst hj;exact ho d (rB hq) _
  have hlen:(vs++Tl O 0 cs).length=(n+(m+1))*size:=by rw [bW,Fk,a.len,hc];exact(kJ _ _ _).symm
  refine⟨wK,?_⟩;rcases a.is with ⟨rfl,rfl,rfl⟩ | ⟨i,rfl,h1,h2⟩
  ·refine⟨by simpa using hb,fun i hi=>?_⟩
   have:=hk (.acc i (0+(m+1))) (aR S i (.jK ([]++Tl O 0 cs) el (0+(m+1)))) _ ⟨.inr ⟨i,rfl,aD,hle i hi⟩,hlen⟩ rfl (fun j o e _=>by
    rw [aF (fun q=>by rw [q,hi]at e;cases e)];exact e) (fun j hj=>aF (fun q=>hj (by rw [q];exact hle i hi)))
   simpa using this
  ·simp only [h1]
   refine⟨trivial,trivial,a.len,hb,?_⟩;refine hk _ _ _ ⟨.inr ⟨i,rfl,aD,h2⟩,hlen⟩ rfl (fun j o e hg=>?_) (fun j hj=>aF (fun q=>hj (by rw [q];exact h2)));rw [aF (fun q=>by rw [q,h1]at e;injection e with e;subst e;cases hg)];exact e
theorem NM.ret{S0 S S':Hp}{el size n:Nat}{t:V}{vs:List V}{cs:List Dt}{K:KV} (a:NM S0 S el size t vs n) (hc:Cel vs cs) (l:gA S' S) (h0:∀i,S0 i=none->(∃o,S i=some o/\PM o=true)->S' i=none) (hk:∀O,K (.list O cs n) S'):bD t S K:=by
 rcases a.is with ⟨rfl,rfl,rfl⟩ | ⟨i,rfl,h1,h2⟩
 ·have:cs=[]:=lZ (by simpa using hc.1.symm)
  subst this;exact MX l .nil hk
 ·refine MX l (.acc h1 (h0 i h2 ⟨_,h1,rfl⟩) hc.1 fun j v d e1 e2=>?_) hk
  obtain⟨O,rfl⟩:=hc.2 j v d e1 e2;exact .T
theorem aK4 (ms:List Mg):∀d∈Ie ms,∀O,tO (T O d)=true:=by
 intro d hd O;obtain⟨g,_,hg⟩:=Ky.1 hd;simp only [Mg.dt,cO,List.not_mem_nil,or_false]at hg;rcases hg with rfl | rfl | rfl | rfl | rfl | rfl | rfl | rfl | rfl | rfl | rfl<;>rfl
theorem aIa (a b:List Mg):Ie (a++b)=Ie a++Ie b:=by unfold Ie;rw [Xf]
def cR:Nat->FuncId
 | 0=>fU
 | 1=>aV
 | 2=>iU
 | 3=>kW
 | 4=>jR
 | 5=>gR
 | _=>eD
def fns:List V:=[.func fU [] [],.func aV [] [],.func iU [] [],.func kW [] [],.func jR [] [],.func gR [] [],.func eD [] []]
theorem aK5{i:Nat} (h:i<7):fns[i]? =some (.func (cR i) [] []):=by
 match i,h with
 | 0,_ | 1,_ | 2,_ | 3,_ | 4,_ | 5,_ | 6,_=>rfl
section
variable{M n b t m:Nat}{x:VE}{S:Hp}{K:KV}{ty:TypeId}{a:Ba}
theorem aK6 (hM:100000<M) (hx:Deep PP cM gT M (n+6) x) (k:zJ S b t m ty a){want:List UInt8}{may:List (List UInt8)}{Ow:Tag} (Gk:may.length<=100000){i:Nat} (hi:i<7) (hk:rW S b t m ty (a.BA want may i).1 (Res K (a.BA want may i))):x.call (cR i) [.ptr b 0,.agg (wV want may Ow)] S K:=by
 match i,hi with
 | 0,_=>exact aF8 hM hx.less.less.less k hk
 | 1,_=>exact aK3 hM hx.less k hk
 | 2,_=>exact aH8 hM hx k Gk hk
 | 3,_=>exact aNh hM hx k hk
 | 4,_=>exact aK1 hM hx k hk
 | 5,_=>exact aDo hM hx k hk
 | 6,_=>exact aDp hM hx k hk
theorem zJ.rK{S':Hp} (k:zJ S b t m ty a) (h:∀j o,S j=some o->PM o=false->S' j=some o):zJ S' b t m ty a:=by
 obtain⟨l0,h1,h2⟩:=k.Pi;exact⟨h _ _ k.row rfl,⟨l0,⟨h _ _ h1.row rfl,h _ _ h1.map rfl⟩,h2⟩,k.inv,k.bt,k.bm,k.tm⟩
theorem zJ.aNk (k:zJ S b t m ty a){i:Nat}{vs:List V}{el q:Nat} (h:S i=some (.jK vs el q)):i≠b/\i≠m:=by
 obtain⟨l0,h1,_⟩:=k.Pi;exact⟨fun e=>(by rw [e,k.row]at h;cases h),fun e=>(by rw [e,h1.map]at h;cases h)⟩
end
structure DoM (S0 S:Hp) (b t m:Nat) (ty:TypeId) (a:Ba) (iw ia:Nat) (want:List UInt8) (may:List (List UInt8)) (Ow:Tag):Prop where
 qP:zJ S b t m ty a
 w:S iw=some (.row (wV want may Ow) 119)
 f:S ia=some (.row fns 146)
 same:∀j,S0 j≠none->j≠b->j≠m->S j=S0 j
 fw:S0 iw=none
 fa:S0 ia=none
 none:∀j,S j=none->S0 j=none
section
variable{M n b t m:Nat}{x:VE}{S0 S:Hp}{K:KV}{ty:TypeId}{a:Ba}
theorem DoM.step{a':Ba}{iw ia:Nat}{want:List UInt8}{may:List (List UInt8)}{Ow:Tag}{S2:Hp} (k0:zJ S0 b t m ty a){a1:Ba} (d:DoM S0 S b t m ty a1 iw ia want may Ow) (c:Ch S S2 b m) (k:zJ S2 b t m ty a'):DoM S0 S2 b t m ty a' iw ia want may Ow:=by
 obtain⟨l1,g1,_⟩:=k0.Pi;obtain⟨l2,g2,_⟩:=k.Pi;have nw:iw≠b/\iw≠m:=⟨fun q=>(by have:=d.fw;rw [q,k0.row]at this;cases this),fun q=>(by have:=d.fw;rw [q,g1.map]at this;cases this)⟩;have nf:ia≠b/\ia≠m:=⟨fun q=>(by have:=d.fa;rw [q,k0.row]at this;cases this),fun q=>(by have:=d.fa;rw [q,g1.map]at this;cases this)⟩;refine⟨k,by rw [c iw nw.1 nw.2];exact d.w,by rw [c ia nf.1 nf.2];exact d.f,fun j h1 h2 h3=>by rw [c j h2 h3];exact d.same j h1 h2 h3,d.fw,d.fa,fun j e=>?_⟩;by_cases q1:j=b
 ·rw [q1,k.row]at e;cases e
 ·by_cases q2:j=m
  ·rw [q2,g2.map]at e;cases e
  ·exact d.none j (by rw [<-c j q1 q2];exact e)
theorem NM.step{el size q:Nat}{t7:V}{vs:List V}{S2:Hp} (ac:NM S0 S el size t7 vs q) (k:zJ S b t m ty a) (c:Ch S S2 b m):NM S0 S2 el size t7 vs q:=
 ac.rK fun i h=>c i (k.aNk h).1 (k.aNk h).2
theorem aIb{want:List UInt8}{may:List (List UInt8)}{j:Nat} (h:(a.BA want may j).2.2=false):a.BA want may j=a.no:=by
 unfold Ba.BA at h ⊢;split at h
 ·unfold Ba.rO at h ⊢
  cases q:a.rounds.findSome? a.wJ with
  | none=>rfl
  | some tx=>rw [q]at h;cases h
 ·unfold Ba.skip at h ⊢
  cases q:a.rounds.reverse.find? a.yB with
  | none=>rfl
  | some tx=>rw [q]at h;cases h
 ·unfold Ba.fresh at h ⊢
  split
  ·split
   ·rename_i v hv hc;rw [hv]at h;simp only [hc,if_true]at h;cases h
   ·rfl
  ·rfl
 ·unfold Ba.old at h ⊢
  split
  ·split
   ·rename_i v hv hc;rw [hv]at h;simp only [hc,if_true]at h;cases h
   ·rfl
  ·rfl
 ·unfold Ba.lock at h ⊢
  split
  ·split
   ·rename_i v hv hc
    rw [hv]at h;simp only [hc,if_true]at h;split at h<;>cases h
   ·rfl
  ·rfl
 ·unfold Ba.nothing at h ⊢
  split
  ·rename_i hc;rw [if_pos hc]at h;cases h
  ·rfl
 ·unfold Ba.vH at h ⊢
  split
  ·rename_i hc;rw [if_pos hc]at h;cases h
  ·rfl
theorem Gl{a0:Ba}{k:Nat}{vl:Int}{tx:List UInt8}{me:Int} (h:a0.s.me=me):(Ba.yes (a0.say k vl tx)).1.s.me=me/\(Ba.yes (a0.say k vl tx)).2.1.length<=1:=
 ⟨by show(a0.say k vl tx).1.s.me=_;rw [Pk];exact h,bN 1⟩
theorem aIc{want:List UInt8}{may:List (List UInt8)}{j:Nat}:(a.BA want may j).1.s.me=a.s.me/\(a.BA want may j).2.1.length<=1:=by
 unfold Ba.BA;split
 ·unfold Ba.rO;split<;>exact⟨rfl,mP 1⟩
 ·unfold Ba.skip;split<;>exact⟨rfl,mP 1⟩
 ·unfold Ba.fresh Ba.oK
  split
  ·split
   ·exact Gl rfl
   ·exact⟨rfl,mP 1⟩
  ·exact⟨rfl,mP 1⟩
 ·unfold Ba.old Ba.oK
  split
  ·split
   ·exact Gl rfl
   ·exact⟨rfl,mP 1⟩
  ·exact⟨rfl,mP 1⟩
 ·unfold Ba.lock
  split
  ·split
   ·split
    ·exact⟨rfl,mP 1⟩
    ·exact Gl rfl
   ·exact⟨rfl,mP 1⟩
  ·exact⟨rfl,mP 1⟩
 ·unfold Ba.nothing
  split
  ·exact Gl rfl
  ·exact⟨rfl,mP 1⟩
 ·unfold Ba.vH
  split
  ·exact Gl rfl
  ·exact⟨rfl,mP 1⟩
theorem aAB{a0:Ba}{S1:Hp}{iw ia:Nat}{want:List UInt8}{may:List (List UInt8)}{Ow:Tag}{t7:V}{vs:List V}{out:List Mg} (k0:zJ S0 b t m ty a0) (d:DoM S0 S1 b t m ty a iw ia want may Ow) (ac:NM S0 S1 37 11 t7 vs out.length) (cl:Cel vs (Ie out)) (hk:rW S0 b t m ty a fun S'=>∀O,K (.list O (Ie out) out.length) S'):bD t7 S1 K:=by
 obtain⟨l1,g1,_⟩:=k0.Pi;obtain⟨l2,h1,h2⟩:=d.qP.Pi
 let S':Hp:=fun q=>if q=b\/q=m then S1 q else S0 q
 have aBP:∀q,q≠b->q≠m->S' q=S0 q:=fun q q1 q2=>if_neg (by simp [q1,q2]);have sb:S' b=S1 b:=if_pos (.inl rfl);have sm:S' m=S1 m:=if_pos (.inr rfl)
 have aO5:zJ S' b t m ty a:=by
  refine⟨by rw [sb];exact d.qP.row,⟨l2,⟨?_,by rw [sm];exact h1.map⟩,h2⟩,d.qP.inv,k0.bt,k0.bm,k0.tm⟩;rw [aBP t (dV k0.bt) k0.tm];have:=d.same t (by rw [g1.row];simp) (dV k0.bt) k0.tm;rw [<-this];exact h1.row
 have hle:gA S' S1:=fun q o e=>by
  by_cases q1:q=b
  ·subst q1;rw [sb]at e;exact e
  ·by_cases q2:q=m
   ·subst q2;rw [sm]at e;exact e
   ·rw [aBP q q1 q2]at e
    rw [d.same q (by rw [e];simp) q1 q2];exact e
 refine ac.ret cl hle (fun i h0 ⟨o,ho,hg⟩=>?_) (hk S' (fun q q1 q2=>aBP q q1 q2) aO5);have ne1:i≠b:=fun q=>by rw [q,k0.row]at h0;cases h0
 have ne2:i≠m:=fun q=>by rw [q,g1.map]at h0;cases h0
 rw [aBP i ne1 ne2];exact h0
theorem aNl{a0:Ba}{iw ia wC:Nat}{want:List UInt8}{may:List (List UInt8)}{Ow:Tag} (hM:100000<M) (hx:Deep PP cM gT M (n+6) x) (k0:zJ S0 b t m ty a0) (Gk:may.length<=100000) (aNm:wC<=7):
 ∀(q f:Nat) (S1:Hp) (a:Ba) (t7:V) (vs:List V) (out:List Mg),DoM S0 S1 b t m ty a iw ia want may Ow->NM S0 S1 37 11 t7 vs out.length->Cel vs (Ie out)->a.Ao=wC->(a.s.dec=[]->1000-a.mu<=(q:Int))->(a.s.dec=[]->1000-a.mu<=(f:Int))->out.length+8*q<=1000000->
  rW S0 b t m ty (Ba.run want may f a out).1 (fun S'=>∀O,K (.list O (Ie (Ba.run want may f a out).2) (Ba.run want may f a out).2.length) S')->
  jL x (q+1) (.ptr b 0) (.ptr iw 0) (.own ia 0 wC 7) t7 S1 K:=by
 have hm:x.most=M:=hx.most;intro q;induction q with
 | zero=>
  intro f S1 a t7 vs out d ac cl aF9 hq hf ho hk;have i:=d.qP.inv;have hmu:=i.aFV;rw [qZ];unfold mH;refine aQ ?_;have Kf:∀{K:KV},aH (.ptr b 13) S1 K=K (.str a.s.dec) S1:=eL d.qP.row;simp only [bG,aX,Kf,CY,bR];by_cases hd:a.s.dec=[]
  ·have:=hq hd;omega
  ·rw [if_neg (by simpa using hd)]
   have e:Ba.run want may f a out=(a,out):=by cases f with
    | zero=>rfl
    | succ f=>unfold Ba.run;rw [if_neg hd]
   rw [e]at hk;exact aAB k0 d ac cl hk
 | succ q ih=>
  intro f S1 a t7 vs out d ac cl aF9 hq hf ho hk;have i:=d.qP.inv;have hmu:=i.aFV;rw [qZ];unfold mH;refine aQ ?_;have Kf:∀{K:KV},aH (.ptr b 13) S1 K=K (.str a.s.dec) S1:=eL d.qP.row;simp only [bG,aX,Kf,CY,bR];by_cases hd:a.s.dec=[]
  ·rw [if_pos (by simpa using hd)]
   obtain⟨f,rfl⟩:=eY (show f≠0 by have:=hf hd;omega)
   have e1:Ba.run want may (f+1) a out=if(a.from_ want may wC 0).2.2 then Ba.run want may f (a.from_ want may wC 0).1 (out++(a.from_ want may wC 0).2.1)else(a,out):=by
    conv=>lhs;unfold Ba.run
    rw [if_pos hd,aF9]
   have inner:∀(p j:Nat) (S1:Hp),DoM S0 S1 b t m ty a iw ia want may Ow->NM S0 S1 37 11 t7 vs out.length->wC<=j+p->j<=wC->(a.from_ want may wC 0=a.from_ want may (wC-j) j)->fW x (p+1) (q+1) (.ptr b 0) (.ptr iw 0) (.own ia 0 wC 7) t7 (.own ia 0 wC 7) (.int .i64 (.ofNat wC)) (.int .i64 (.ofNat j)) S1 K:=by
    intro p
    have fin:∀j S1,DoM S0 S1 b t m ty a iw ia want may Ow->NM S0 S1 37 11 t7 vs out.length->wC<=j->(a.from_ want may wC 0=a.from_ want may (wC-j) j)->bD t7 S1 K:=by
     intro j S1 d ac h1 h2;have e2:a.from_ want may wC 0=a.no:=by rw [h2,show wC-j=0 by omega];rfl
     rw [e1,e2,if_neg (by simp [Ba.no])]at hk;exact aAB k0 d ac cl hk
    induction p with
    | zero=>
     intro j S1 d ac h1 h2 h3;rw [nP];unfold jG;refine aQ ?_;rw [cI,bR,if_neg (by simp;omega)];exact fin j S1 d ac (by omega) h3
    | succ p ihp=>
     intro j S1 d ac h1 h2 h3;rw [nP];unfold jG;refine aQ ?_;rw [cI,bR];by_cases hlt:j<wC
     ·rw [if_pos (by simp;omega)]
      have hix:∀{k:V->Prop},k (.ptr ia j)->kX 1 (.own ia 0 wC 7) (.int .i64 (.ofNat j)) k:=fun h=>⟨hlt,by rw [fK,sA];exact h⟩;refine hix (jU d.f (aK5 (by omega)) ?_);refine jD d.w rfl ?_;show x.call (cR j) ([]++[.ptr b 0,.agg (wV want may Ow)]++[]) S1 _;rw [QA,vJ]
      have e3:a.from_ want may (wC-j) j=if(a.BA want may j).2.2 then a.BA want may j else a.from_ want may (wC-(j+1)) (j+1):=by
       rw [show wC-j=(wC-(j+1))+1 by omega];rfl
      refine aK6 hM hx d.qP Gk (by omega) fun S2 c2 k2 O=>?_;simp only [MV,MW,bR];cases hr:(a.BA want may j).2.2 with
      | false=>
       have e4:=aIb hr;rw [e4]at k2;rw [if_neg (by simp),kU,MU (by omega)];refine ihp (j+1) S2 (d.step k0 c2 k2) (ac.step d.qP c2) (by omega) (by omega) ?_;rw [h3,e3,hr];rfl
      | true=>
       have e5:a.from_ want may wC 0=a.BA want may j:=by rw [h3,e3,if_pos hr]
       rw [e1,e5,if_pos hr]at hk;obtain⟨sm1,sm2⟩:=aIc (a:=a) (want:=want) (may:=may) (j:=j);have d2:=d.step k0 c2 k2;rw [if_pos rfl];refine(ac.step d.qP c2).app d2.none (by omega) (by rw [aH2]) (aK4 _) (by omega) ?_;intro t9 S3 vs3 ac3 e6 f1 f2;have aNn:=aHV i want may j hr;refine ih f S3 (a.BA want may j).1 t9 vs3 (out++(a.BA want may j).2.1) ⟨d2.qP.rK f1,f1 _ _ d2.w rfl,f1 _ _ d2.f rfl,fun z h1 h2 h3=>by rw [f2 z h1];exact d2.same z h1 h2 h3,d.fw,d.fa,fun z e=>?_⟩ (by rw [bW];exact ac3) (by rw [e6,aIa];exact cl.app .tl) (by unfold Ba.Ao;rw [sm1];exact aF9) (fun hdd=>?_) (fun hdd=>?_) (by rw [bW];omega) hk
       ·cases hz:S0 z with
        | none=>rfl
        | some o=>have:=f2 z (by rw [hz];simp);rw [e]at this;rw [d2.none z this.symm]at hz;cases hz
       ·rcases aNn with q1 | q1
        ·have:=hq hd;omega
        ·exact absurd hdd q1
       ·rcases aNn with q1 | q1
        ·have:=hf hd;omega
        ·exact absurd hdd q1
     ·rw [if_neg (by simp;omega)]
      exact fin j S1 d ac (by omega) h3
   refine(show ∀{k:V->Prop},k (.int .i64 (.ofNat wC))->dJ (.own ia 0 wC 7) k from fun h=>h) ?_;obtain⟨p,hp⟩:=eY (show x.most≠0 by omega);rw [hp];exact inner p 0 S1 d ac (by omega) (by omega) rfl
  ·rw [if_neg (by simpa using hd)]
   have e:Ba.run want may f a out=(a,out):=by cases f with
    | zero=>rfl
    | succ f=>unfold Ba.run;rw [if_neg hd]
   rw [e]at hk;exact aAB k0 d ac cl hk
end
theorem aK7:gT qB=none:=rfl
section
variable{M n b t m:Nat}{x:VE}{S:Hp}{K:KV}{ty:TypeId}{a:Ba}
theorem aGa{len size i:Nat}{k:V->Prop} (h:0<len) (hk:k (.own i 0 len len)):Zt len size (.ptr i 0) none none none k:=by
 show 0<=len/\len<=len/\len<=len/\k (.own i (if len=0 then 0 else 0+0*size) (len-0) (len-0));rw [if_neg (by omega)];exact⟨by omega,bN _,bN _,by simpa using hk⟩
theorem aId{len size i h:Nat}{j:IntKind}{k:V->Prop} (h0:0<len) (h1:h<=len) (hk:k (.own i 0 h len)):Zt len size (.ptr i 0) none (some (.int j (.ofNat h))) none k:=by
 show 0<=h/\h<=len/\len<=len/\k (.own i (if len=0 then 0 else 0+0*size) (h-0) (len-0));rw [if_neg (by omega)];exact⟨by omega,h1,bN _,by simpa using hk⟩
theorem aO6 (hM:100000<M) (hM2:M<=125000) (hx:Deep PP cM gT M (n+7) x) (k:zJ S b t m ty a){want:List UInt8}{may:List (List UInt8)}{Ow:Tag} (Gk:may.length<=100000) (hk:rW S b t m ty (a.Bw want may).1 fun S'=>∀O,K (.list O (Ie (a.Bw want may).2) (a.Bw want may).2.length) S'):x.call fT [.ptr b 0,.agg (wV want may Ow)] S K:=by
 refine hx.call aO3 fun y hy=>?_;rw [RP];unfold EO;have hm:y.most=M:=hy.most;refine Vq fun iw hiw=>?_;have iM:gA S (aR S iw (.row (wV want may Ow) 119)):= .aT hiw;have r1:aR S iw (.row (wV want may Ow) 119) iw=some (.row (wV want may Ow) 119):=aD;have n1:∀j,aR S iw (.row (wV want may Ow) 119) j=none->S j=none:=fun j e=>(xG e).2;generalize aR S iw (.row (wV want may Ow) 119)=S1 at iM r1 n1;refine zH rfl (cL rfl (by simp) (cL rfl (by simp) (cL rfl (by simp) (cL rfl (by simp) (cL rfl (by simp) (cL rfl (by simp) (cL rfl (by simp) (zG ?_))))))));refine kV (l:=[.MP,.MP,.MP,.MP,.MP,.MP,.MP]) rfl fun ia hia=>?_;refine nG aD (by rfl) (by rfl) (by rfl) ?_;rw [fG];show Zt 7 1 (.ptr ia 0) none none none _;refine aGa (by omega) ?_;have pT:gA S1 (aR S1 ia (.row fns 146)):= .aT hia;have r2:aR S1 ia (.row fns 146) ia=some (.row fns 146):=aD;have n2:∀j,aR S1 ia (.row fns 146) j=none->S j=none:=fun j e=>n1 j (xG e).2;show cP PP (.ptr b 0) fun v4=>aL 0 v4 fun v5=>aL 3 v5 fun v6=>aH v6 (aR S1 ia (.row fns 146)) _;generalize aR S1 ia (.row fns 146)=S2 at pT r2 n2;have le:=iM.trans pT;have k2:=k.le le;have l3:∀{K:KV},aH (.ptr b 3) S2 K=K (.int .i64 a.s.me) S2:=eL k2.row;simp only [bG,aX,l3,fB,bR]
 have d:DoM S S2 b t m ty a iw ia want may Ow:=⟨k2,pT _ _ r1,r2,fun j h1 _ _=>by
  cases hj:S j with
  | none=>exact absurd hj h1
  | some o=>exact le _ _ hj,hiw,iM.none hia,n2⟩
 have jo:∀wC,a.Ao=wC->lY y (.ptr b 0) (.ptr iw 0) (.own ia 0 wC 7) S2 K:=by
  intro wC hc;rw [EX y (by omega)];unfold oY;refine aQ ?_;obtain⟨p,hp⟩:=eY (show y.most≠0 by omega);rw [hp];have hmu:=k.inv.aFV;have aNm:wC<=7:=by rw [<-hc];unfold Ba.Ao;split<;>omega
  exact aNl hM hy k Gk aNm p 1000 S2 a .nil [] [] d .nil .nil hc (fun _=>by omega) (fun _=>by omega) (by simp;omega) hk
 by_cases h0:a.s.me=0
 ·rw [if_pos (by exact bK h0)]
  refine aId (by omega) (by omega) ?_;exact jo 1 (by unfold Ba.Ao;rw [if_pos h0])
 ·rw [if_neg (by simpa using h0)]
  exact jo 7 (by unfold Ba.Ao;rw [if_neg h0])
theorem aO7 (hM:100000<M) (hM2:M<=125000) (hx:Deep PP cM gT M (n+8) x) (k:zJ S b t m ty a){want:List UInt8}{may:List (List UInt8)}{Ow:Tag} (Gk:may.length<=100000) (hk:rW S b t m ty (a.Bw want may).1 fun S'=>∀O,K (.list O (Ie (a.Bw want may).2) (a.Bw want may).2.length) S'):x.call jM [.ptr b 0,.str want,.list Ow (Ke may) may.length] S K:=by
 refine hx.call aO4 fun y hy=>?_;rw [RO];unfold EN;refine UB Gh ?_;rw [bR,if_neg (by simp)];refine zH rfl (cL rfl (by simp) (cL rfl (by simp) (zG ?_)));show y.call fT [.ptr b 0,.agg (wV want may Ow)] S _;refine aO6 hM hM2 hy k Gk fun S' c' k' O=>?_;exact aJ (hk S' c' k' O)
end
structure Mi where
 kd:Nat
 e1:Int
 e2:Int
 h:Int
 r:Int
 vl:Int
 e3:Int
 e4:Int
 e5:Int
 tx:List UInt8
 nums:List Dt
 many:Nat
def Mi.vv (g:Mi) (O:Tag):List V:=[.int .u8 (.ofNat g.kd),.int .i64 g.e1,.int .i64 g.e2,.int .i64 g.h,.int .i64 g.r,.int .i64 g.vl,.int .i64 g.e3,.int .i64 g.e4,.int .i64 g.e5,.str g.tx,.list O g.nums g.many]
section
variable{M n b t m:Nat}{x:VE}{S:Hp}{K:KV}{ty:TypeId}{a:Ba}
theorem aAC{t:TypeId}{p q:Nat}{K:V->Prop}:aE PP .lss t (.int .u8 (.ofNat p)) (.int .u8 (.ofNat q)) K=K (.bool (decide (p<q))):=by
 rw [cI]
 congr 2
 rw [pL];simp
theorem aAD{t:TypeId}{p q:Nat}{K:V->Prop}:aE PP .gtr t (.int .u8 (.ofNat p)) (.int .u8 (.ofNat q)) K=K (.bool (decide (q<p))):=by
 rw [nR]
 congr 2
 rw [pL];simp
theorem aNo (hM:M≠0) (hx:Deep PP cM gT M (n+4) x) (k:zJ S b t m ty a){fr:Int}{g:Mi}{O:Tag} (hk:rW S b t m ty (a.UX fr g.kd g.h g.r g.vl g.tx) fun S'=>K (.bool (decide (g.h=a.s.h)&&decide (2<=g.kd)&&decide (g.kd<=4)&&decide (g.r<100)&&a.s.takes a.l ⟨fr,g.r,g.kd,g.vl,g.tx⟩)) S'):x.call qB [.ptr b 0,.int .i64 fr,.agg (g.vv O)] S K:=by
 refine hx.call aK7 fun y hy=>?_;rw [OT];unfold BW;refine mB rfl fun i hi=>?_;have iM:gA S (aR S i (.row (g.vv O) 37)):= .aT hi;have ri:aR S i (.row (g.vv O) 37) i=some (.row (g.vv O) 37):=aD;generalize aR S i (.row (g.vv O) 37)=S1 at iM ri;have k1:=k.le iM;refine UB Gh ?_;have l0:∀{K:KV},aH (.ptr b 0) S1 K=K (.int .i64 a.s.h) S1:=eL k1.row;have m0:∀{K:KV},aH (.ptr i 0) S1 K=K (.int .u8 (.ofNat g.kd)) S1:=eL ri;have m3:∀{K:KV},aH (.ptr i 3) S1 K=K (.int .i64 g.h) S1:=eL ri;have m4:∀{K:KV},aH (.ptr i 4) S1 K=K (.int .i64 g.r) S1:=eL ri;have m5:∀{K:KV},aH (.ptr i 5) S1 K=K (.int .i64 g.vl) S1:=eL ri;have m9:∀{K:KV},aH (.ptr i 9) S1 K=K (.str g.tx) S1:=eL ri
 have no:(decide (g.h=a.s.h)&&decide (2<=g.kd)&&decide (g.kd<=4)&&decide (g.r<100))=false->bD (.bool false) S1 K:=fun e=>by
  unfold Ba.UX at hk;rw [if_neg (by rw [e];simp)]at hk;have:=hk S .refl k;rw [e,Cl]at this;exact dZ iM this
 simp only [bG,aX,aP,aN,l0,m3,kT,bO,cJ,if_false];by_cases c1:g.h=a.s.h
 ·simp only [bK c1,fJ,aN,m0,aAC,bO,cJ,if_false]
  by_cases c2:g.kd<2
  ·simp only [bK c2,dE,bO,if_true,bR]
   exact no (by simp;omega)
  ·simp only [bM c2,aN,m0,aAD,bO,cJ,if_false]
   by_cases c3:4<g.kd
   ·simp only [bK c3,dE,if_true,bR]
    exact no (by simp;omega)
   ·simp only [bM c3,aN,m4,nS,cJ,if_false]
    by_cases c4:100<=g.r
    ·simp only [show decide (Int.ofNat 100<=g.r)=true from bK c4,if_true,bR]
     exact no (by simp;omega)
    ·simp only [show decide (Int.ofNat 100<=g.r)=false from bM c4,bR,cJ,if_false,m0,m5,m9]
     refine zH rfl (cL rfl (by simp) (cL rfl (by simp) (cL rfl (by simp) (cL rfl (by simp) (cL rfl (by simp) (zG ?_))))));have e:(decide (g.h=a.s.h)&&decide (2<=g.kd)&&decide (g.kd<=4)&&decide (g.r<100))=true:=by simp;omega
     unfold Ba.UX at hk;rw [if_pos e]at hk;rw [e,QD]at hk;refine aJo (v:=⟨fr,g.r,g.kd,g.vl,g.tx⟩) hM aJp JM aJq aJr hy k1 (show g.r<=1000000 by omega) fun S2 c2 k2=>?_;obtain⟨S',g1,_,g2⟩:=shrink k iM hk c2 k2;exact dZ g1 g2
 ·simp only [bM c1,fD,dE,bO,if_true,bR]
  exact no (by simp [c1])
end
abbrev nu (n:Nat):V:= .int .u64 (.ofNat n)
abbrev ni (n:Nat):V:= .int .i64 (.ofNat n)
abbrev n8 (n:Nat):V:= .int .u8 (.ofNat n)
abbrev nz (z:Int):V:= .int .i64 z
section
variable{k:V->Prop}{a b:Nat}{t:TypeId}
theorem mV:aE PP .lss t (ni a) (ni b) k=k (.bool (decide (a<b))):=by rw [cI];congr 2;simp
theorem XT:aE PP .gtr t (ni a) (ni b) k=k (.bool (decide (b<a))):=by rw [nR];congr 2;simp
theorem aAF:aE PP .geq t (ni a) (ni b) k=k (.bool (decide (b<=a))):=by rw [nS];congr 2;simp
theorem vU:aE PP .eql t (ni a) (ni b) k=k (.bool (decide (a=b))):=by rw [fB];congr 2;simp;omega
theorem zK:aE PP .neq t (ni a) (ni b) k=k (.bool (!decide (a=b))):=by rw [kT];congr 3;simp;omega
theorem qO (h:a+b<4611686018427387904):aE PP .add t (ni a) (ni b) k=k (ni (a+b)):=by
 rw [kU]
 congr 2
 rw [wrap_small (by simp only [jZ];omega) (by simp only [jZ];omega)];simp
theorem dlt{a b:Nat} (h:a<b):decide (a<b)=true:=bK h
theorem VB{a b:Nat} (h:¬a<b):decide (a<b)=false:=bM h
theorem jS{p q:Prop}:pA (.bool true) p q=p:=rfl
theorem iF{p q:Prop}:pA (.bool false) p q=q:=rfl
theorem gC{a b:V}{k:V->Prop}:cK (.bool true) a b k=k a:=rfl
theorem dO{a b:V}{k:V->Prop}:cK (.bool false) a b k=k b:=rfl
theorem aK8{n:Nat} (h:n<256){k:V->Prop}:GK .i64 (n8 n) k=k (ni n):=by
 show k (.int .i64 (dW .i64 (.ofNat n)))=_;rw [wrap_small (by simp only [jZ];omega) (by simp only [jZ];omega)]
end
section
variable{S:Hp}{i o:Nat}{vs:List V}{t:TypeId}{v:V}
theorem cD (h:S i=some (.row vs t)) (hv:vs[o]? =some v){K:KV}:aH (.ptr i o) S K=K v S:=by unfold aH;simp only [h,lJ hv]
theorem Ig (h:S i=some (.row vs t)) (ho:o<vs.length) (h1:tO v=true){k:Hp->Prop}:sU 1 (.ptr i o) v S k=k (aR S i (.row (vs.set o v) t)):=by
 apply propext;constructor
 ·intro hv
  unfold sU at hv;simp only [h]at hv;have:∀{p:List V->Prop},yW v p=p [v]:=fun {p}=>by cases v<;>first | rfl | cases h1
  rw [this]at hv;rw [<-RE ho];exact hv.2.2
 ·intro hk;exact pF h h1 ho (by rw [RE ho];exact hk)
end
theorem mW{op:KV->Prop}{S:Hp}{k:KV}:aB true (.bool false) op S k=k JA S:=rfl
theorem nM{op:KV->Prop}{S:Hp}{k:KV}:aB false (.bool true) op S k=k JA S:=rfl
structure Ms where
 kind:Nat
 fr:Int
 to:Int
 ht:Int
 rd:Int
 vl:Int
 ep:Int
 dl:Int
 id:Int
 text:List UInt8
 nums:List Nat
def pC (O:Tag) (m:Ms):List V:=[n8 m.kind,nz m.fr,nz m.to,nz m.ht,nz m.rd,nz m.vl,nz m.ep,nz m.dl,nz m.id,.str m.text,.list O (m.nums.map fun n=>Dt.int .u64 (.ofNat n)) m.nums.length]
def Gm:List Nat:=[0,769,796,524,524,772,1025,1120,1120,1120,1120,1186]
def cC (k:Nat):Nat:=Gm.getD k 0
def oZ (k w:Nat):Bool:= !decide (IntKind.i64.wrap (BitVec.ofInt IntKind.i64.bits (.ofNat (cC k)) &&& BitVec.ofInt IntKind.i64.bits (.ofNat w)).toNat= .ofNat 0)
def Ap (b:Bool) (x lo hi:Int):Bool:=((b&&decide (lo<=x))&&decide (x<=hi)) || (!b&&decide (x=0))
def JO (m:Ms):List Bool:=[!decide (cC m.kind=0),Ap (!oZ m.kind 1) m.fr 1 8,Ap (!oZ m.kind 2) m.to (.ofNat (if oZ m.kind 1 then 1 else 0)) 8,Ap (oZ m.kind 4) m.ht 1 64,Ap (oZ m.kind 8) m.rd 0 99,Ap (oZ m.kind 16) m.vl (.negSucc 0) (dW .i64 (m.rd-1)),Ap (oZ m.kind 32) m.ep 1 64,Ap (oZ m.kind 64) m.dl 1 7,Ap (oZ m.kind 128) m.id 1 1099511627776,(oZ m.kind 512 || decide (m.text=[]))&&(!oZ m.kind 256 || !decide (m.text=[])),oZ m.kind 1024 || decide (m.nums.length=0),decide (m.text.length<=2048)&&decide (m.nums.length<=1024)]
def Pm (m:Ms):Bool:=(JO m).all id
def tY (x:VE) (t1 t3 t4 t5 t6:V) (S:Hp) (K:KV):Prop:=EC PP cM DA x [.r,.r,.r,.r,.r,.r] [] [t1,t3,t4,t5,t6] S K
def Jz (x:VE) (a0:V) (S:Hp) (K:KV):Prop:=
 tW 37 a0 S fun v0 S=>
 aL 0 v0 fun v1=>
 aH v1 S fun v2 S=>
 x.call FY [v2] S fun v3 S=>
 gZ [(.int .i64 (.ofNat 0))] 3 S fun v4 S=>
 sU 1 v4 v3 S fun S=>
 gZ [.nilFunc] 109 S fun v5 S=>
 sU 1 v5 (.func dA [] [v4]) S fun S=>
 gZ [.nilFunc] 110 S fun v6 S=>
 sU 1 v6 (.func cT [] []) S fun S=>
 gZ [(.int .i64 (.ofNat 0))] 3 S fun v7 S=>
 sU 1 v7 (.int .i64 (.ofNat 0)) S fun S=>
 aH v5 S fun v8 S=>
 fF x v8 [(.int .i64 (.ofNat 1))] S fun v9 S=>
 pA v9 (sU 1 v7 (.int .i64 (.ofNat 1)) S fun S=>tY x v0 v4 v5 v6 v7 S K) (tY x v0 v4 v5 v6 v7 S K)
theorem aDa (x:VE) (a0:V) (S:Hp) (K:KV):pP PP cM DA x [a0] S K=Jz x a0 S K:=by kernel_rfl
def xU (x:VE) (t1 t3 t4 t5 t6:V) (S:Hp) (K:KV):Prop:=
 jC S fun S=>
 cQ 24 12 [.nilFunc] [(0,1,(.func AH [] [t3])),(1,1,(.func AI [] [t5,t4,t1])),(2,1,(.func AJ [] [t5,t4,t1,t6])),(3,1,(.func AK [] [t5,t4,t1])),(4,1,(.func AL [] [t5,t4,t1])),(5,1,(.func AM [] [t5,t4,t1])),(6,1,(.func AN [] [t5,t4,t1])),(7,1,(.func xL [] [t5,t4,t1])),(8,1,(.func xM [] [t5,t4,t1])),(9,1,(.func xN [] [t4,t1])),(10,1,(.func xO [] [t4,t1])),(11,1,(.func xP [] [t1]))] S fun v0 S=>
 x.call cW [v0,(.func nH [] [])] S fun v1 S=>
 NX .not v1 fun v2=>
 bD v2 S K
theorem RL (x:VE) (t1 t3 t4 t5 t6:V) (S:Hp) (K:KV):BU PP cM DA x [.r,.r,.r,.r,.r,.r] [] [t1,t3,t4,t5,t6] S K=xU x t1 t3 t4 t5 t6 S K:=by kernel_rfl
theorem UM (x:VE) (hm:x.most≠0) (t1 t3 t4 t5 t6:V) (S:Hp) (K:KV):tY x t1 t3 t4 t5 t6 S K=xU x t1 t3 t4 t5 t6 S K:=(tP (hm:=hm) ..).trans (RL x t1 t3 t4 t5 t6 S K)
def ZK (x:VE) (a0:V) (S:Hp) (K:KV):Prop:=
 iQ [(.int .i64 (.ofNat 0)),(.int .i64 (.ofNat 0)),(.int .i64 (.ofNat 0)),(.int .i64 (.ofNat 0)),(.int .i64 (.ofNat 0)),(.int .i64 (.ofNat 0)),(.int .i64 (.ofNat 0)),(.int .i64 (.ofNat 0)),(.int .i64 (.ofNat 0)),(.int .i64 (.ofNat 0)),(.int .i64 (.ofNat 0)),(.int .i64 (.ofNat 0))] [(1,1,(.int .i64 (.ofNat 769))),(2,1,(.int .i64 (.ofNat 796))),(3,1,(.int .i64 (.ofNat 524))),(4,1,(.int .i64 (.ofNat 524))),(5,1,(.int .i64 (.ofNat 772))),(6,1,(.int .i64 (.ofNat 1025))),(7,1,(.int .i64 (.ofNat 1120))),(8,1,(.int .i64 (.ofNat 1120))),(9,1,(.int .i64 (.ofNat 1120))),(10,1,(.int .i64 (.ofNat 1120))),(11,1,(.int .i64 (.ofNat 1186)))] fun v0=>
 gZ [(.int .i64 (.ofNat 0)),(.int .i64 (.ofNat 0)),(.int .i64 (.ofNat 0)),(.int .i64 (.ofNat 0)),(.int .i64 (.ofNat 0)),(.int .i64 (.ofNat 0)),(.int .i64 (.ofNat 0)),(.int .i64 (.ofNat 0)),(.int .i64 (.ofNat 0)),(.int .i64 (.ofNat 0)),(.int .i64 (.ofNat 0)),(.int .i64 (.ofNat 0))] 138 S fun v1 S=>
 sU 12 v1 v0 S fun S=>
 GK .i64 a0 fun v2=>
 aE PP .geq 3 v2 (.int .i64 (.ofNat 12)) fun v3=>
 pA v3 (bD (.int .i64 (.ofNat 0)) S K) (aBw 12 1 v1 a0 fun v4=>aH v4 S fun v5 S=>bD v5 S K)
theorem Uy (x:VE) (a0:V) (S:Hp) (K:KV):pP PP cM FY x [a0] S K=ZK x a0 S K:=by kernel_rfl
def ZL (x:VE) (a0 a1:V) (S:Hp) (K:KV):Prop:=
 aH a1 S fun v0 S=>
 aE PP .and 3 v0 a0 fun v1=>
 aE PP .neq 3 v1 (.int .i64 (.ofNat 0)) fun v2=>
 bD v2 S K
theorem Uz (x:VE) (a0 a1:V) (S:Hp) (K:KV):pP PP cM dA x [a0,a1] S K=ZL x a0 a1 S K:=by kernel_rfl
def ZM (x:VE) (a0 a1 a2 a3:V) (S:Hp) (K:KV):Prop:=
 aC x.most (aB true a0 (fun k=>k a1 S) S fun v0 S=>aC x.most (aB true a0 (fun k=>k a2 S) S fun v1 S=>aC x.most (aB true a0 (fun k=>aE PP .geq 3 v0 v1 fun v2=>k v2 S) S fun v3 S=>aC x.most (cK a0 v3 (.bool false) fun v4=>aC x.most (aB true v4 (fun k=>k a1 S) S fun v5 S=>aC x.most (aB true v4 (fun k=>k a3 S) S fun v6 S=>aC x.most (aB true v4 (fun k=>aE PP .leq 3 v5 v6 fun v7=>k v7 S) S fun v8 S=>aC x.most (cK v4 v8 (.bool false) fun v9=>aC x.most (aB false v9 (fun k=>k a0 S) S fun v10 S=>aC x.most (aB false v9 (fun k=>NX .not v10 fun v11=>k v11 S) S fun v12 S=>aC x.most (aB false v9 (fun k=>k v12 S) S fun pB S=>aC x.most (aB true pB (fun k=>k a1 S) S fun pU S=>aC x.most (aB true pB (fun k=>aE PP .eql 3 pU (.int .i64 (.ofNat 0)) fun qS=>k qS S) S fun sV S=>aC x.most (aB false v9 (fun k=>aC x.most (cK pB sV (.bool false) fun v17=>k v17 S)) S fun xS S=>aC x.most (cK v9 (.bool true) xS fun yH=>bD yH S K)))))))))))))))
theorem Va (x:VE) (a0 a1 a2 a3:V) (S:Hp) (K:KV):pP PP cM cT x [a0,a1,a2,a3] S K=ZM x a0 a1 a2 a3 S K:=by kernel_rfl
def ZN (x:VE) (a0:V) (S:Hp) (K:KV):Prop:=
 aH a0 S fun v0 S=>
 aE PP .neq 3 v0 (.int .i64 (.ofNat 0)) fun v1=>
 bD v1 S K
theorem Vb (x:VE) (a0:V) (S:Hp) (K:KV):pP PP cM AH x [a0] S K=ZN x a0 S K:=by kernel_rfl
def ZO (x:VE) (a0 a1 a2:V) (S:Hp) (K:KV):Prop:=
 aH a0 S fun v0 S=>
 aH a1 S fun v1 S=>
 aL 1 a2 fun v2=>
 aH v2 S fun v3 S=>
 fF x v1 [(.int .i64 (.ofNat 1))] S fun v4 S=>
 aH v2 S fun v5 _=>
 bH v5 v3 (aH a0 S fun v6 _=>bH v6 v0 (NX .not v4 fun v7=>fF x v0 [v7,v3,(.int .i64 (.ofNat 1)),(.int .i64 (.ofNat 8))] S fun v8 S=>bD v8 S K))
theorem Vc (x:VE) (a0 a1 a2:V) (S:Hp) (K:KV):pP PP cM AI x [a0,a1,a2] S K=ZO x a0 a1 a2 S K:=by kernel_rfl
def ZP (x:VE) (a0 a1 a2 a3:V) (S:Hp) (K:KV):Prop:=
 aH a0 S fun v0 S=>
 aH a1 S fun v1 S=>
 aL 2 a2 fun v2=>
 aH v2 S fun v3 S=>
 aH a3 S fun v4 S=>
 fF x v1 [(.int .i64 (.ofNat 2))] S fun v5 S=>
 aH a3 S fun v6 _=>
 bH v6 v4 (aH v2 S fun v7 _=>bH v7 v3 (aH a0 S fun v8 _=>bH v8 v0 (NX .not v5 fun v9=>fF x v0 [v9,v3,v4,(.int .i64 (.ofNat 8))] S fun v10 S=>bD v10 S K)))
theorem Vd (x:VE) (a0 a1 a2 a3:V) (S:Hp) (K:KV):pP PP cM AJ x [a0,a1,a2,a3] S K=ZP x a0 a1 a2 a3 S K:=by kernel_rfl
def ZQ (x:VE) (a0 a1 a2:V) (S:Hp) (K:KV):Prop:=
 aH a0 S fun v0 S=>
 aH a1 S fun v1 S=>
 aL 3 a2 fun v2=>
 aH v2 S fun v3 S=>
 fF x v1 [(.int .i64 (.ofNat 4))] S fun v4 S=>
 aH v2 S fun v5 _=>
 bH v5 v3 (aH a0 S fun v6 _=>bH v6 v0 (fF x v0 [v4,v3,(.int .i64 (.ofNat 1)),(.int .i64 (.ofNat 64))] S fun v7 S=>bD v7 S K))
theorem Ve (x:VE) (a0 a1 a2:V) (S:Hp) (K:KV):pP PP cM AK x [a0,a1,a2] S K=ZQ x a0 a1 a2 S K:=by kernel_rfl
def ZR (x:VE) (a0 a1 a2:V) (S:Hp) (K:KV):Prop:=
 aH a0 S fun v0 S=>
 aH a1 S fun v1 S=>
 aL 4 a2 fun v2=>
 aH v2 S fun v3 S=>
 fF x v1 [(.int .i64 (.ofNat 8))] S fun v4 S=>
 aH v2 S fun v5 _=>
 bH v5 v3 (aH a0 S fun v6 _=>bH v6 v0 (fF x v0 [v4,v3,(.int .i64 (.ofNat 0)),(.int .i64 (.ofNat 99))] S fun v7 S=>bD v7 S K))
theorem Vf (x:VE) (a0 a1 a2:V) (S:Hp) (K:KV):pP PP cM AL x [a0,a1,a2] S K=ZR x a0 a1 a2 S K:=by kernel_rfl
def ZS (x:VE) (a0 a1 a2:V) (S:Hp) (K:KV):Prop:=
 aH a0 S fun v0 S=>
 aH a1 S fun v1 S=>
 aL 5 a2 fun v2=>
 aH v2 S fun v3 S=>
 aL 4 a2 fun v4=>
 aH v4 S fun v5 S=>
 aE PP .sub 3 v5 (.int .i64 (.ofNat 1)) fun v6=>
 fF x v1 [(.int .i64 (.ofNat 16))] S fun v7 S=>
 aH v4 S fun v8 _=>
 bH v8 v5 (aH v2 S fun v9 _=>bH v9 v3 (aH a0 S fun v10 _=>bH v10 v0 (fF x v0 [v7,v3,(.int .i64 (.negSucc 0)),v6] S fun v11 S=>aH v4 S fun v12 _=>bH v12 v5 (bD v11 S K))))
theorem Vg (x:VE) (a0 a1 a2:V) (S:Hp) (K:KV):pP PP cM AM x [a0,a1,a2] S K=ZS x a0 a1 a2 S K:=by kernel_rfl
def ZT (x:VE) (a0 a1 a2:V) (S:Hp) (K:KV):Prop:=
 aH a0 S fun v0 S=>
 aH a1 S fun v1 S=>
 aL 6 a2 fun v2=>
 aH v2 S fun v3 S=>
 fF x v1 [(.int .i64 (.ofNat 32))] S fun v4 S=>
 aH v2 S fun v5 _=>
 bH v5 v3 (aH a0 S fun v6 _=>bH v6 v0 (fF x v0 [v4,v3,(.int .i64 (.ofNat 1)),(.int .i64 (.ofNat 64))] S fun v7 S=>bD v7 S K))
theorem Vh (x:VE) (a0 a1 a2:V) (S:Hp) (K:KV):pP PP cM AN x [a0,a1,a2] S K=ZT x a0 a1 a2 S K:=by kernel_rfl
def UN (x:VE) (a0 a1 a2:V) (S:Hp) (K:KV):Prop:=
 aH a0 S fun v0 S=>
 aH a1 S fun v1 S=>
 aL 7 a2 fun v2=>
 aH v2 S fun v3 S=>
 fF x v1 [(.int .i64 (.ofNat 64))] S fun v4 S=>
 aH v2 S fun v5 _=>
 bH v5 v3 (aH a0 S fun v6 _=>bH v6 v0 (fF x v0 [v4,v3,(.int .i64 (.ofNat 1)),(.int .i64 (.ofNat 7))] S fun v7 S=>bD v7 S K))
theorem Ou (x:VE) (a0 a1 a2:V) (S:Hp) (K:KV):pP PP cM xL x [a0,a1,a2] S K=UN x a0 a1 a2 S K:=by kernel_rfl
def UO (x:VE) (a0 a1 a2:V) (S:Hp) (K:KV):Prop:=
 aH a0 S fun v0 S=>
 aH a1 S fun v1 S=>
 aL 8 a2 fun v2=>
 aH v2 S fun v3 S=>
 fF x v1 [(.int .i64 (.ofNat 128))] S fun v4 S=>
 aH v2 S fun v5 _=>
 bH v5 v3 (aH a0 S fun v6 _=>bH v6 v0 (fF x v0 [v4,v3,(.int .i64 (.ofNat 1)),(.int .i64 (.ofNat 1099511627776))] S fun v7 S=>bD v7 S K))
theorem Ov (x:VE) (a0 a1 a2:V) (S:Hp) (K:KV):pP PP cM xM x [a0,a1,a2] S K=UO x a0 a1 a2 S K:=by kernel_rfl
def UP (x:VE) (a0 a1:V) (S:Hp) (K:KV):Prop:=
 aH a0 S fun v0 S=>
 fF x v0 [(.int .i64 (.ofNat 512))] S fun v1 S=>
 aC x.most (aB false v1 (fun k=>aL 9 a1 fun v2=>k v2 S) S fun v3 S=>aC x.most (aB false v1 (fun k=>aH v3 S fun v4 S=>k v4 S) S fun v5 S=>aC x.most (aB false v1 (fun k=>aE PP .eql 9 v5 (.str []) fun v6=>k v6 S) S fun v7 S=>aC x.most (cK v1 (.bool true) v7 fun v8=>aC x.most (aB true v8 (fun k=>aH a0 S fun v9 S=>k v9 S) S fun v10 S=>aC x.most (aB true v8 (fun k=>fF x v10 [(.int .i64 (.ofNat 256))] S fun v11 S=>k v11 S) S fun v12 S=>aC x.most (aB true v8 (fun k=>NX .not v12 fun pB=>k pB S) S fun pU S=>aC x.most (aB true v8 (fun k=>k pU S) S fun qS S=>aC x.most (aB false qS (fun k=>aL 9 a1 fun sV=>k sV S) S fun v17 S=>aC x.most (aB false qS (fun k=>aH v17 S fun xS S=>k xS S) S fun yH S=>aC x.most (aB false qS (fun k=>aE PP .neq 9 yH (.str []) fun v20=>k v20 S) S fun v21 S=>aC x.most (aB true v8 (fun k=>aC x.most (cK qS (.bool true) v21 fun v22=>k v22 S)) S fun v23 S=>aC x.most (cK v8 v23 (.bool false) fun v24=>bD v24 S K)))))))))))))
theorem Ox (x:VE) (a0 a1:V) (S:Hp) (K:KV):pP PP cM xN x [a0,a1] S K=UP x a0 a1 S K:=by kernel_rfl
def UQ (x:VE) (a0 a1:V) (S:Hp) (K:KV):Prop:=
 aH a0 S fun v0 S=>
 fF x v0 [(.int .i64 (.ofNat 1024))] S fun v1 S=>
 aC x.most (aB false v1 (fun k=>aL 10 a1 fun v2=>k v2 S) S fun v3 S=>aC x.most (aB false v1 (fun k=>aH v3 S fun v4 S=>k v4 S) S fun v5 S=>aC x.most (aB false v1 (fun k=>dJ v5 fun v6=>k v6 S) S fun v7 S=>aC x.most (aB false v1 (fun k=>aE PP .eql 3 v7 (.int .i64 (.ofNat 0)) fun v8=>k v8 S) S fun v9 S=>aC x.most (cK v1 (.bool true) v9 fun v10=>bD v10 S K)))))
theorem Oy (x:VE) (a0 a1:V) (S:Hp) (K:KV):pP PP cM xO x [a0,a1] S K=UQ x a0 a1 S K:=by kernel_rfl
def UR (x:VE) (a0:V) (S:Hp) (K:KV):Prop:=
 aL 9 a0 fun v0=>
 aH v0 S fun v1 S=>
 uD v1 fun v2=>
 aE PP .leq 3 v2 (.int .i64 (.ofNat 2048)) fun v3=>
 aC x.most (aB true v3 (fun k=>aL 10 a0 fun v4=>k v4 S) S fun v5 S=>aC x.most (aB true v3 (fun k=>aH v5 S fun v6 S=>k v6 S) S fun v7 S=>aC x.most (aB true v3 (fun k=>dJ v7 fun v8=>k v8 S) S fun v9 S=>aC x.most (aB true v3 (fun k=>aE PP .leq 3 v9 (.int .i64 (.ofNat 1024)) fun v10=>k v10 S) S fun v11 S=>aC x.most (cK v3 v11 (.bool false) fun v12=>bD v12 S K)))))
theorem Oz (x:VE) (a0:V) (S:Hp) (K:KV):pP PP cM xP x [a0] S K=UR x a0 S K:=by kernel_rfl
def US (x:VE) (a0:V) (S:Hp) (K:KV):Prop:=
 fF x a0 [] S fun v0 S=>
 NX .not v0 fun v1=>
 bD v1 S K
theorem Pa (x:VE) (a0:V) (S:Hp) (K:KV):pP PP cM nH x [a0] S K=US x a0 S K:=by kernel_rfl
def jE (x:VE) (a0 a1:V) (S:Hp) (K:KV):Prop:=
 x.call cE [a0,a1] S fun v0 S=>
 aE PP .geq 3 v0 (.int .i64 (.ofNat 0)) fun v1=>
 bD v1 S K
theorem pQ (x:VE) (a0 a1:V) (S:Hp) (K:KV):pP PP cM cW x [a0,a1] S K=jE x a0 a1 S K:=by kernel_rfl
def bQ (x:VE) (m:Nat) (t0 t1 t7 t8:V) (S:Hp) (K:KV):Prop:=sL PP cM cE x [.r,.l,.r,.d] m [] [t0,t1,t7,t8] S K
def kF (x:VE) (a0 a1:V) (S:Hp) (K:KV):Prop:=
 dJ a0 fun v0=>
 bQ x x.most a0 a1 v0 (.int .i64 (.ofNat 0)) S K
theorem qU (x:VE) (a0 a1:V) (S:Hp) (K:KV):pP PP cM cE x [a0,a1] S K=kF x a0 a1 S K:=by kernel_rfl
def eF (x:VE) (m0:Nat) (t0 t1 t7 t8:V) (S:Hp) (K:KV):Prop:=
 jC S fun S=>
 aE PP .lss 3 t8 t7 fun v0=>
 pA v0 (kX 1 t0 t8 fun v1=>aH v1 S fun v2 S=>fF x t1 [v2] S fun v3 S=>pA v3 (bD t8 S K) (aE PP .add 3 t8 (.int .i64 (.ofNat 1)) fun v4=>bQ x m0 t0 t1 t7 v4 S K)) (bD (.int .i64 (.negSucc 0)) S K)
theorem iE (x:VE) (m0:Nat) (t0 t1 t7 t8:V) (S:Hp) (K:KV):bQ x (m0+1) t0 t1 t7 t8 S K=eF x m0 t0 t1 t7 t8 S K:=by kernel_rfl
section
variable{M n:Nat}{x:VE}{S:Hp}{K:KV}
theorem aIg:gT FY=none:=rfl
theorem aK9:gT dA=none:=rfl
theorem aLa:gT cT=none:=rfl
theorem aIh (hx:Deep PP cM gT M (n+1) x){k:Nat} (hk:k<256) (hK:K (ni (cC k)) S):x.call FY [n8 k] S K:=by
 refine hx.call aIg fun y hy=>?_;rw [Uy];unfold ZK
 have hb:∀{k:V->Prop},k (.agg (Gm.map ni))->iQ [(.int .i64 (.ofNat 0)),(.int .i64 (.ofNat 0)),(.int .i64 (.ofNat 0)),(.int .i64 (.ofNat 0)),(.int .i64 (.ofNat 0)),(.int .i64 (.ofNat 0)),(.int .i64 (.ofNat 0)),(.int .i64 (.ofNat 0)),(.int .i64 (.ofNat 0)),(.int .i64 (.ofNat 0)),(.int .i64 (.ofNat 0)),(.int .i64 (.ofNat 0))] [(1,1,(.int .i64 (.ofNat 769))),(2,1,(.int .i64 (.ofNat 796))),(3,1,(.int .i64 (.ofNat 524))),(4,1,(.int .i64 (.ofNat 524))),(5,1,(.int .i64 (.ofNat 772))),(6,1,(.int .i64 (.ofNat 1025))),(7,1,(.int .i64 (.ofNat 1120))),(8,1,(.int .i64 (.ofNat 1120))),(9,1,(.int .i64 (.ofNat 1120))),(10,1,(.int .i64 (.ofNat 1120))),(11,1,(.int .i64 (.ofNat 1186)))] k:=fun {k} hk=>by
  unfold iQ xF
  iterate 11 (refine⟨rfl,bE rfl,?_⟩)
  exact hk
 refine hb ?_;refine kV (l:=(List.replicate 12 (ni 0))) rfl fun b hb=>?_;refine nG (n:=12) (i:=b) aD rfl rfl rfl ?_;rw [fG,aK8 hk];show aE PP .geq 3 (ni k) (ni 12) _;rw [aAF];have le:gA S (aR S b (.row (Gm.map ni) 138)):= .aT hb;by_cases c:12<=k
 ·rw [bK c,jS]
  have e:cC k=0:=by unfold cC;rw [ID,DC (by show 12<=k;exact c)];rfl
  rw [e]at hK;exact dZ le hK
 ·rw [bM c,iF]
  refine⟨by omega,?_⟩;dsimp only;have hl:k<Gm.length:=by show k<12;omega
  have e:(Gm.map ni)[0+k*1]? =some (ni (cC k)):=by
   rw [fK,sA,lA,aS hl];unfold cC;rw [ID,aS hl];rfl
  rw [cD (o:=0+k*1) aD e];exact dZ le hK
theorem aJu (hx:Deep PP cM gT M (n+1) x){k w b:Nat}{t:TypeId} (rb:S b=some (.row [ni (cC k)] t)) (hK:K (.bool (oZ k w)) S):x.call dA [ni w,.ptr b 0] S K:=by
 refine hx.call aK9 fun y hy=>?_;rw [Uz];unfold ZL;rw [cD (o:=0) rb rfl];refine⟨rfl,?_⟩;show aE PP .neq 3 (.int .i64 _) (.int .i64 (.ofNat 0)) _;rw [kT];exact aJ hK
theorem aGb (hx:Deep PP cM gT M (n+1) x){b:Bool}{z lo hi:Int} (hK:K (.bool (Ap b z lo hi)) S):x.call cT [.bool b,nz z,nz lo,nz hi] S K:=by
 refine hx.call aLa fun y hy=>?_;rw [Va];unfold ZM;have g1:∀{k:V->Prop},aE PP .geq 3 (nz z) (nz lo) k=k (.bool (decide (lo<=z))):=fun {k}=>by rw [nS]
 have g2:∀{k:V->Prop},aE PP .leq 3 (nz z) (nz hi) k=k (.bool (decide (z<=hi))):=fun {k}=>by rw [kS]
 have g3:∀{k:V->Prop},aE PP .eql 3 (nz z) (.int .i64 (.ofNat 0)) k=k (.bool (decide (z=0))):=fun {k}=>by rw [fB];rfl
 unfold Ap at hK;generalize decide (lo<=z)=p at g1 hK;generalize decide (z<=hi)=q at g2 hK;generalize decide (z=0)=r at g3 hK;cases b<;>cases p<;>cases q<;>cases r<;>(repeat (first | rw [aP] | rw [aN] | rw [mW] | rw [nM] | rw [mC] | rw [gC] | rw [dO] | rw [g1] | rw [g2] | rw [g3] | rw [iJ] | rw [fJ] | rw [fD] | dsimp only))<;>exact aJ hK
end
structure Ih (S:Hp) (n h w l m:Nat) (O:Tag) (g:Ms):Prop where
 rn:S n=some (.row [ni (cC g.kind)] 3)
 rh:S h=some (.row [.func dA [] [.ptr n 0]] 109)
 rw:S w=some (.row [.func cT [] []] 110)
 rl:S l=some (.row [ni (if oZ g.kind 1 then 1 else 0)] 3)
 rm:S m=some (.row (pC O g) 37)
theorem Ih.hle{S S':Hp}{n h w l m:Nat}{O:Tag}{g:Ms} (r:Ih S n h w l m O g) (k:gA S S'):Ih S' n h w l m O g:=⟨k _ _ r.rn,k _ _ r.rh,k _ _ r.rw,k _ _ r.rl,k _ _ r.rm⟩
section
variable{M d:Nat}{x:VE}{S:Hp}{K:KV}{n h w l m:Nat}{O:Tag}{g:Ms}
theorem KD (hx:Deep PP cM gT M (d+1) x) (r:Ih S n h w l m O g){q:Nat} (hK:K (.bool (oZ g.kind q)) S):fF x (.func dA [] [.ptr n 0]) [ni q] S K:=aJu hx r.rn hK
theorem rX (hx:Deep PP cM gT M (d+1) x){b:Bool}{z lo hi:Int} (hK:K (.bool (Ap b z lo hi)) S):fF x (.func cT [] []) [.bool b,nz z,nz lo,nz hi] S K:=aGb hx hK
theorem yD{k:IntKind}{z:Int}{p:Prop}:bH (.int k z) (.int k z) p=p:=mZ rfl
theorem BP{p:Prop}:bH (.func cT [] []) (.func cT [] []) p=p:=mZ rfl
theorem aLb:gT AH=none:=rfl
theorem aLc (hx:Deep PP cM gT M (d+2) x) (r:Ih S n h w l m O g) (hK:∀b,(JO g)[0]? =some b->K (.bool b) S):x.call AH [.ptr n 0] S K:=by
 refine hx.call aLb fun y hy=>?_;rw [Vb];unfold ZN;have hK:=hK _ rfl;have ln:∀{K:KV},aH (.ptr n 0) S K=K (ni (cC g.kind)) S:=cD r.rn rfl;have lh:∀{K:KV},aH (.ptr h 0) S K=K (.func dA [] [.ptr n 0]) S:=cD r.rh rfl;have lw:∀{K:KV},aH (.ptr w 0) S K=K (.func cT [] []) S:=cD r.rw rfl;have ll:∀{K:KV},aH (.ptr l 0) S K=K (ni (if oZ g.kind 1 then 1 else 0)) S:=cD r.rl rfl;have m0:∀{K:KV},aH (.ptr m 0) S K=K (n8 g.kind) S:=cD r.rm rfl;have m1:∀{K:KV},aH (.ptr m 1) S K=K (nz g.fr) S:=cD r.rm rfl;have m2:∀{K:KV},aH (.ptr m 2) S K=K (nz g.to) S:=cD r.rm rfl;have m3:∀{K:KV},aH (.ptr m 3) S K=K (nz g.ht) S:=cD r.rm rfl;have m4:∀{K:KV},aH (.ptr m 4) S K=K (nz g.rd) S:=cD r.rm rfl;have m5:∀{K:KV},aH (.ptr m 5) S K=K (nz g.vl) S:=cD r.rm rfl;have m6:∀{K:KV},aH (.ptr m 6) S K=K (nz g.ep) S:=cD r.rm rfl;have m7:∀{K:KV},aH (.ptr m 7) S K=K (nz g.dl) S:=cD r.rm rfl;have m8:∀{K:KV},aH (.ptr m 8) S K=K (nz g.id) S:=cD r.rm rfl;have m9:∀{K:KV},aH (.ptr m 9) S K=K (.str g.text) S:=cD r.rm rfl;have m10:∀{K:KV},aH (.ptr m 10) S K=K (.list O (g.nums.map fun n=>Dt.int .u64 (.ofNat n)) g.nums.length) S:=cD r.rm rfl;have nN:∀{k:V->Prop},aE PP .neq 3 (ni (cC g.kind)) (.int .i64 (.ofNat 0)) k=k (.bool (!decide (cC g.kind=0))):=fun {k}=>by show aE PP .neq 3 (ni (cC g.kind)) (ni 0) k=_;rw [zK]
 have sB:∀{k:V->Prop},aE PP .sub 3 (nz g.rd) (.int .i64 (.ofNat 1)) k=k (nz (dW .i64 (g.rd-1))):=fun {k}=>by rw [gQ];rfl
 have lN:∀{t:Tag} {cs:List Dt} {n:Nat} {k:V->Prop},dJ (.list t cs n) k=k (ni n):=fun {t cs n k}=>rfl;have lT:∀{t:List UInt8} {k:V->Prop},uD (.str t) k=k (ni t.length):=fun {t k}=>rfl;have eN:∀{k:V->Prop},aE PP .eql 3 (ni g.nums.length) (.int .i64 (.ofNat 0)) k=k (.bool (decide (g.nums.length=0))):=fun {k}=>by show aE PP .eql 3 (ni g.nums.length) (ni 0) k=_;rw [vU]
 have qT:∀{a b:Nat} {k:V->Prop},aE PP .leq 3 (ni a) (.int .i64 (.ofNat b)) k=k (.bool (decide (a<=b))):=fun {a b k}=>by rw [kS];congr 2;simp
 have tE:∀{k:V->Prop},aE PP .eql 9 (.str g.text) (.str []) k=k (.bool (decide (g.text=[]))):=fun {k}=>rfl;have tN:∀{k:V->Prop},aE PP .neq 9 (.str g.text) (.str []) k=k (.bool (!decide (g.text=[]))):=fun {k}=>rfl
 (repeat (first | rw [aP] | rw [aN] | rw [mW] | rw [nM] | rw [mC] | rw [gC] | rw [dO] | rw [aX] | rw [ln] | rw [lh] | rw [lw] | rw [ll] | rw [m0] | rw [m1] | rw [m2] | rw [m3] | rw [m4] | rw [m5] | rw [m6] | rw [m7] | rw [m8] | rw [m9] | rw [m10] | rw [nN] | rw [sB] | rw [lN] | rw [lT] | rw [eN] | rw [qT] | rw [tE] | rw [tN] | rw [iJ] | rw [yD] | rw [BP] | rw [fJ] | rw [fD] | dsimp only | refine KD (d:=d) hy r ?_ | refine rX (d:=d) hy ?_))
 exact aJ hK
theorem aLd:gT AI=none:=rfl
theorem aLe (hx:Deep PP cM gT M (d+2) x) (r:Ih S n h w l m O g) (hK:∀b,(JO g)[1]? =some b->K (.bool b) S):x.call AI [.ptr w 0,.ptr h 0,.ptr m 0] S K:=by
 refine hx.call aLd fun y hy=>?_;rw [Vc];unfold ZO;have hK:=hK _ rfl;have ln:∀{K:KV},aH (.ptr n 0) S K=K (ni (cC g.kind)) S:=cD r.rn rfl;have lh:∀{K:KV},aH (.ptr h 0) S K=K (.func dA [] [.ptr n 0]) S:=cD r.rh rfl;have lw:∀{K:KV},aH (.ptr w 0) S K=K (.func cT [] []) S:=cD r.rw rfl;have ll:∀{K:KV},aH (.ptr l 0) S K=K (ni (if oZ g.kind 1 then 1 else 0)) S:=cD r.rl rfl;have m0:∀{K:KV},aH (.ptr m 0) S K=K (n8 g.kind) S:=cD r.rm rfl;have m1:∀{K:KV},aH (.ptr m 1) S K=K (nz g.fr) S:=cD r.rm rfl;have m2:∀{K:KV},aH (.ptr m 2) S K=K (nz g.to) S:=cD r.rm rfl;have m3:∀{K:KV},aH (.ptr m 3) S K=K (nz g.ht) S:=cD r.rm rfl;have m4:∀{K:KV},aH (.ptr m 4) S K=K (nz g.rd) S:=cD r.rm rfl;have m5:∀{K:KV},aH (.ptr m 5) S K=K (nz g.vl) S:=cD r.rm rfl;have m6:∀{K:KV},aH (.ptr m 6) S K=K (nz g.ep) S:=cD r.rm rfl;have m7:∀{K:KV},aH (.ptr m 7) S K=K (nz g.dl) S:=cD r.rm rfl;have m8:∀{K:KV},aH (.ptr m 8) S K=K (nz g.id) S:=cD r.rm rfl;have m9:∀{K:KV},aH (.ptr m 9) S K=K (.str g.text) S:=cD r.rm rfl;have m10:∀{K:KV},aH (.ptr m 10) S K=K (.list O (g.nums.map fun n=>Dt.int .u64 (.ofNat n)) g.nums.length) S:=cD r.rm rfl;have nN:∀{k:V->Prop},aE PP .neq 3 (ni (cC g.kind)) (.int .i64 (.ofNat 0)) k=k (.bool (!decide (cC g.kind=0))):=fun {k}=>by show aE PP .neq 3 (ni (cC g.kind)) (ni 0) k=_;rw [zK]
 have sB:∀{k:V->Prop},aE PP .sub 3 (nz g.rd) (.int .i64 (.ofNat 1)) k=k (nz (dW .i64 (g.rd-1))):=fun {k}=>by rw [gQ];rfl
 have lN:∀{t:Tag} {cs:List Dt} {n:Nat} {k:V->Prop},dJ (.list t cs n) k=k (ni n):=fun {t cs n k}=>rfl;have lT:∀{t:List UInt8} {k:V->Prop},uD (.str t) k=k (ni t.length):=fun {t k}=>rfl;have eN:∀{k:V->Prop},aE PP .eql 3 (ni g.nums.length) (.int .i64 (.ofNat 0)) k=k (.bool (decide (g.nums.length=0))):=fun {k}=>by show aE PP .eql 3 (ni g.nums.length) (ni 0) k=_;rw [vU]
 have qT:∀{a b:Nat} {k:V->Prop},aE PP .leq 3 (ni a) (.int .i64 (.ofNat b)) k=k (.bool (decide (a<=b))):=fun {a b k}=>by rw [kS];congr 2;simp
 have tE:∀{k:V->Prop},aE PP .eql 9 (.str g.text) (.str []) k=k (.bool (decide (g.text=[]))):=fun {k}=>rfl;have tN:∀{k:V->Prop},aE PP .neq 9 (.str g.text) (.str []) k=k (.bool (!decide (g.text=[]))):=fun {k}=>rfl
 (repeat (first | rw [aP] | rw [aN] | rw [mW] | rw [nM] | rw [mC] | rw [gC] | rw [dO] | rw [aX] | rw [ln] | rw [lh] | rw [lw] | rw [ll] | rw [m0] | rw [m1] | rw [m2] | rw [m3] | rw [m4] | rw [m5] | rw [m6] | rw [m7] | rw [m8] | rw [m9] | rw [m10] | rw [nN] | rw [sB] | rw [lN] | rw [lT] | rw [eN] | rw [qT] | rw [tE] | rw [tN] | rw [iJ] | rw [yD] | rw [BP] | rw [fJ] | rw [fD] | dsimp only | refine KD (d:=d) hy r ?_ | refine rX (d:=d) hy ?_))
 exact aJ hK
theorem aLf:gT AJ=none:=rfl
theorem aLg (hx:Deep PP cM gT M (d+2) x) (r:Ih S n h w l m O g) (hK:∀b,(JO g)[2]? =some b->K (.bool b) S):x.call AJ [.ptr w 0,.ptr h 0,.ptr m 0,.ptr l 0] S K:=by
 refine hx.call aLf fun y hy=>?_;rw [Vd];unfold ZP;have hK:=hK _ rfl;have ln:∀{K:KV},aH (.ptr n 0) S K=K (ni (cC g.kind)) S:=cD r.rn rfl;have lh:∀{K:KV},aH (.ptr h 0) S K=K (.func dA [] [.ptr n 0]) S:=cD r.rh rfl;have lw:∀{K:KV},aH (.ptr w 0) S K=K (.func cT [] []) S:=cD r.rw rfl;have ll:∀{K:KV},aH (.ptr l 0) S K=K (ni (if oZ g.kind 1 then 1 else 0)) S:=cD r.rl rfl;have m0:∀{K:KV},aH (.ptr m 0) S K=K (n8 g.kind) S:=cD r.rm rfl;have m1:∀{K:KV},aH (.ptr m 1) S K=K (nz g.fr) S:=cD r.rm rfl;have m2:∀{K:KV},aH (.ptr m 2) S K=K (nz g.to) S:=cD r.rm rfl;have m3:∀{K:KV},aH (.ptr m 3) S K=K (nz g.ht) S:=cD r.rm rfl;have m4:∀{K:KV},aH (.ptr m 4) S K=K (nz g.rd) S:=cD r.rm rfl;have m5:∀{K:KV},aH (.ptr m 5) S K=K (nz g.vl) S:=cD r.rm rfl;have m6:∀{K:KV},aH (.ptr m 6) S K=K (nz g.ep) S:=cD r.rm rfl;have m7:∀{K:KV},aH (.ptr m 7) S K=K (nz g.dl) S:=cD r.rm rfl;have m8:∀{K:KV},aH (.ptr m 8) S K=K (nz g.id) S:=cD r.rm rfl;have m9:∀{K:KV},aH (.ptr m 9) S K=K (.str g.text) S:=cD r.rm rfl;have m10:∀{K:KV},aH (.ptr m 10) S K=K (.list O (g.nums.map fun n=>Dt.int .u64 (.ofNat n)) g.nums.length) S:=cD r.rm rfl;have nN:∀{k:V->Prop},aE PP .neq 3 (ni (cC g.kind)) (.int .i64 (.ofNat 0)) k=k (.bool (!decide (cC g.kind=0))):=fun {k}=>by show aE PP .neq 3 (ni (cC g.kind)) (ni 0) k=_;rw [zK]
 have sB:∀{k:V->Prop},aE PP .sub 3 (nz g.rd) (.int .i64 (.ofNat 1)) k=k (nz (dW .i64 (g.rd-1))):=fun {k}=>by rw [gQ];rfl
 have lN:∀{t:Tag} {cs:List Dt} {n:Nat} {k:V->Prop},dJ (.list t cs n) k=k (ni n):=fun {t cs n k}=>rfl;have lT:∀{t:List UInt8} {k:V->Prop},uD (.str t) k=k (ni t.length):=fun {t k}=>rfl;have eN:∀{k:V->Prop},aE PP .eql 3 (ni g.nums.length) (.int .i64 (.ofNat 0)) k=k (.bool (decide (g.nums.length=0))):=fun {k}=>by show aE PP .eql 3 (ni g.nums.length) (ni 0) k=_;rw [vU]
 have qT:∀{a b:Nat} {k:V->Prop},aE PP .leq 3 (ni a) (.int .i64 (.ofNat b)) k=k (.bool (decide (a<=b))):=fun {a b k}=>by rw [kS];congr 2;simp
 have tE:∀{k:V->Prop},aE PP .eql 9 (.str g.text) (.str []) k=k (.bool (decide (g.text=[]))):=fun {k}=>rfl;have tN:∀{k:V->Prop},aE PP .neq 9 (.str g.text) (.str []) k=k (.bool (!decide (g.text=[]))):=fun {k}=>rfl
 (repeat (first | rw [aP] | rw [aN] | rw [mW] | rw [nM] | rw [mC] | rw [gC] | rw [dO] | rw [aX] | rw [ln] | rw [lh] | rw [lw] | rw [ll] | rw [m0] | rw [m1] | rw [m2] | rw [m3] | rw [m4] | rw [m5] | rw [m6] | rw [m7] | rw [m8] | rw [m9] | rw [m10] | rw [nN] | rw [sB] | rw [lN] | rw [lT] | rw [eN] | rw [qT] | rw [tE] | rw [tN] | rw [iJ] | rw [yD] | rw [BP] | rw [fJ] | rw [fD] | dsimp only | refine KD (d:=d) hy r ?_ | refine rX (d:=d) hy ?_))
 exact aJ hK
theorem aLh:gT AK=none:=rfl
theorem aLi (hx:Deep PP cM gT M (d+2) x) (r:Ih S n h w l m O g) (hK:∀b,(JO g)[3]? =some b->K (.bool b) S):x.call AK [.ptr w 0,.ptr h 0,.ptr m 0] S K:=by
 refine hx.call aLh fun y hy=>?_;rw [Ve];unfold ZQ;have hK:=hK _ rfl;have ln:∀{K:KV},aH (.ptr n 0) S K=K (ni (cC g.kind)) S:=cD r.rn rfl;have lh:∀{K:KV},aH (.ptr h 0) S K=K (.func dA [] [.ptr n 0]) S:=cD r.rh rfl;have lw:∀{K:KV},aH (.ptr w 0) S K=K (.func cT [] []) S:=cD r.rw rfl;have ll:∀{K:KV},aH (.ptr l 0) S K=K (ni (if oZ g.kind 1 then 1 else 0)) S:=cD r.rl rfl;have m0:∀{K:KV},aH (.ptr m 0) S K=K (n8 g.kind) S:=cD r.rm rfl;have m1:∀{K:KV},aH (.ptr m 1) S K=K (nz g.fr) S:=cD r.rm rfl;have m2:∀{K:KV},aH (.ptr m 2) S K=K (nz g.to) S:=cD r.rm rfl;have m3:∀{K:KV},aH (.ptr m 3) S K=K (nz g.ht) S:=cD r.rm rfl;have m4:∀{K:KV},aH (.ptr m 4) S K=K (nz g.rd) S:=cD r.rm rfl;have m5:∀{K:KV},aH (.ptr m 5) S K=K (nz g.vl) S:=cD r.rm rfl;have m6:∀{K:KV},aH (.ptr m 6) S K=K (nz g.ep) S:=cD r.rm rfl;have m7:∀{K:KV},aH (.ptr m 7) S K=K (nz g.dl) S:=cD r.rm rfl;have m8:∀{K:KV},aH (.ptr m 8) S K=K (nz g.id) S:=cD r.rm rfl;have m9:∀{K:KV},aH (.ptr m 9) S K=K (.str g.text) S:=cD r.rm rfl;have m10:∀{K:KV},aH (.ptr m 10) S K=K (.list O (g.nums.map fun n=>Dt.int .u64 (.ofNat n)) g.nums.length) S:=cD r.rm rfl;have nN:∀{k:V->Prop},aE PP .neq 3 (ni (cC g.kind)) (.int .i64 (.ofNat 0)) k=k (.bool (!decide (cC g.kind=0))):=fun {k}=>by show aE PP .neq 3 (ni (cC g.kind)) (ni 0) k=_;rw [zK]
 have sB:∀{k:V->Prop},aE PP .sub 3 (nz g.rd) (.int .i64 (.ofNat 1)) k=k (nz (dW .i64 (g.rd-1))):=fun {k}=>by rw [gQ];rfl
 have lN:∀{t:Tag} {cs:List Dt} {n:Nat} {k:V->Prop},dJ (.list t cs n) k=k (ni n):=fun {t cs n k}=>rfl;have lT:∀{t:List UInt8} {k:V->Prop},uD (.str t) k=k (ni t.length):=fun {t k}=>rfl;have eN:∀{k:V->Prop},aE PP .eql 3 (ni g.nums.length) (.int .i64 (.ofNat 0)) k=k (.bool (decide (g.nums.length=0))):=fun {k}=>by show aE PP .eql 3 (ni g.nums.length) (ni 0) k=_;rw [vU]
 have qT:∀{a b:Nat} {k:V->Prop},aE PP .leq 3 (ni a) (.int .i64 (.ofNat b)) k=k (.bool (decide (a<=b))):=fun {a b k}=>by rw [kS];congr 2;simp
 have tE:∀{k:V->Prop},aE PP .eql 9 (.str g.text) (.str []) k=k (.bool (decide (g.text=[]))):=fun {k}=>rfl;have tN:∀{k:V->Prop},aE PP .neq 9 (.str g.text) (.str []) k=k (.bool (!decide (g.text=[]))):=fun {k}=>rfl
 (repeat (first | rw [aP] | rw [aN] | rw [mW] | rw [nM] | rw [mC] | rw [gC] | rw [dO] | rw [aX] | rw [ln] | rw [lh] | rw [lw] | rw [ll] | rw [m0] | rw [m1] | rw [m2] | rw [m3] | rw [m4] | rw [m5] | rw [m6] | rw [m7] | rw [m8] | rw [m9] | rw [m10] | rw [nN] | rw [sB] | rw [lN] | rw [lT] | rw [eN] | rw [qT] | rw [tE] | rw [tN] | rw [iJ] | rw [yD] | rw [BP] | rw [fJ] | rw [fD] | dsimp only | refine KD (d:=d) hy r ?_ | refine rX (d:=d) hy ?_))
 exact aJ hK
theorem aLj:gT AL=none:=rfl
theorem aLk (hx:Deep PP cM gT M (d+2) x) (r:Ih S n h w l m O g) (hK:∀b,(JO g)[4]? =some b->K (.bool b) S):x.call AL [.ptr w 0,.ptr h 0,.ptr m 0] S K:=by
 refine hx.call aLj fun y hy=>?_;rw [Vf];unfold ZR;have hK:=hK _ rfl;have ln:∀{K:KV},aH (.ptr n 0) S K=K (ni (cC g.kind)) S:=cD r.rn rfl;have lh:∀{K:KV},aH (.ptr h 0) S K=K (.func dA [] [.ptr n 0]) S:=cD r.rh rfl;have lw:∀{K:KV},aH (.ptr w 0) S K=K (.func cT [] []) S:=cD r.rw rfl;have ll:∀{K:KV},aH (.ptr l 0) S K=K (ni (if oZ g.kind 1 then 1 else 0)) S:=cD r.rl rfl;have m0:∀{K:KV},aH (.ptr m 0) S K=K (n8 g.kind) S:=cD r.rm rfl;have m1:∀{K:KV},aH (.ptr m 1) S K=K (nz g.fr) S:=cD r.rm rfl;have m2:∀{K:KV},aH (.ptr m 2) S K=K (nz g.to) S:=cD r.rm rfl;have m3:∀{K:KV},aH (.ptr m 3) S K=K (nz g.ht) S:=cD r.rm rfl;have m4:∀{K:KV},aH (.ptr m 4) S K=K (nz g.rd) S:=cD r.rm rfl;have m5:∀{K:KV},aH (.ptr m 5) S K=K (nz g.vl) S:=cD r.rm rfl;have m6:∀{K:KV},aH (.ptr m 6) S K=K (nz g.ep) S:=cD r.rm rfl;have m7:∀{K:KV},aH (.ptr m 7) S K=K (nz g.dl) S:=cD r.rm rfl;have m8:∀{K:KV},aH (.ptr m 8) S K=K (nz g.id) S:=cD r.rm rfl;have m9:∀{K:KV},aH (.ptr m 9) S K=K (.str g.text) S:=cD r.rm rfl;have m10:∀{K:KV},aH (.ptr m 10) S K=K (.list O (g.nums.map fun n=>Dt.int .u64 (.ofNat n)) g.nums.length) S:=cD r.rm rfl;have nN:∀{k:V->Prop},aE PP .neq 3 (ni (cC g.kind)) (.int .i64 (.ofNat 0)) k=k (.bool (!decide (cC g.kind=0))):=fun {k}=>by show aE PP .neq 3 (ni (cC g.kind)) (ni 0) k=_;rw [zK]
 have sB:∀{k:V->Prop},aE PP .sub 3 (nz g.rd) (.int .i64 (.ofNat 1)) k=k (nz (dW .i64 (g.rd-1))):=fun {k}=>by rw [gQ];rfl
 have lN:∀{t:Tag} {cs:List Dt} {n:Nat} {k:V->Prop},dJ (.list t cs n) k=k (ni n):=fun {t cs n k}=>rfl;have lT:∀{t:List UInt8} {k:V->Prop},uD (.str t) k=k (ni t.length):=fun {t k}=>rfl;have eN:∀{k:V->Prop},aE PP .eql 3 (ni g.nums.length) (.int .i64 (.ofNat 0)) k=k (.bool (decide (g.nums.length=0))):=fun {k}=>by show aE PP .eql 3 (ni g.nums.length) (ni 0) k=_;rw [vU]
 have qT:∀{a b:Nat} {k:V->Prop},aE PP .leq 3 (ni a) (.int .i64 (.ofNat b)) k=k (.bool (decide (a<=b))):=fun {a b k}=>by rw [kS];congr 2;simp
 have tE:∀{k:V->Prop},aE PP .eql 9 (.str g.text) (.str []) k=k (.bool (decide (g.text=[]))):=fun {k}=>rfl;have tN:∀{k:V->Prop},aE PP .neq 9 (.str g.text) (.str []) k=k (.bool (!decide (g.text=[]))):=fun {k}=>rfl
 (repeat (first | rw [aP] | rw [aN] | rw [mW] | rw [nM] | rw [mC] | rw [gC] | rw [dO] | rw [aX] | rw [ln] | rw [lh] | rw [lw] | rw [ll] | rw [m0] | rw [m1] | rw [m2] | rw [m3] | rw [m4] | rw [m5] | rw [m6] | rw [m7] | rw [m8] | rw [m9] | rw [m10] | rw [nN] | rw [sB] | rw [lN] | rw [lT] | rw [eN] | rw [qT] | rw [tE] | rw [tN] | rw [iJ] | rw [yD] | rw [BP] | rw [fJ] | rw [fD] | dsimp only | refine KD (d:=d) hy r ?_ | refine rX (d:=d) hy ?_))
 exact aJ hK
theorem aLl:gT AM=none:=rfl
theorem aLm (hx:Deep PP cM gT M (d+2) x) (r:Ih S n h w l m O g) (hK:∀b,(JO g)[5]? =some b->K (.bool b) S):x.call AM [.ptr w 0,.ptr h 0,.ptr m 0] S K:=by
 refine hx.call aLl fun y hy=>?_;rw [Vg];unfold ZS;have hK:=hK _ rfl;have ln:∀{K:KV},aH (.ptr n 0) S K=K (ni (cC g.kind)) S:=cD r.rn rfl;have lh:∀{K:KV},aH (.ptr h 0) S K=K (.func dA [] [.ptr n 0]) S:=cD r.rh rfl;have lw:∀{K:KV},aH (.ptr w 0) S K=K (.func cT [] []) S:=cD r.rw rfl;have ll:∀{K:KV},aH (.ptr l 0) S K=K (ni (if oZ g.kind 1 then 1 else 0)) S:=cD r.rl rfl;have m0:∀{K:KV},aH (.ptr m 0) S K=K (n8 g.kind) S:=cD r.rm rfl;have m1:∀{K:KV},aH (.ptr m 1) S K=K (nz g.fr) S:=cD r.rm rfl;have m2:∀{K:KV},aH (.ptr m 2) S K=K (nz g.to) S:=cD r.rm rfl;have m3:∀{K:KV},aH (.ptr m 3) S K=K (nz g.ht) S:=cD r.rm rfl;have m4:∀{K:KV},aH (.ptr m 4) S K=K (nz g.rd) S:=cD r.rm rfl;have m5:∀{K:KV},aH (.ptr m 5) S K=K (nz g.vl) S:=cD r.rm rfl;have m6:∀{K:KV},aH (.ptr m 6) S K=K (nz g.ep) S:=cD r.rm rfl;have m7:∀{K:KV},aH (.ptr m 7) S K=K (nz g.dl) S:=cD r.rm rfl;have m8:∀{K:KV},aH (.ptr m 8) S K=K (nz g.id) S:=cD r.rm rfl;have m9:∀{K:KV},aH (.ptr m 9) S K=K (.str g.text) S:=cD r.rm rfl;have m10:∀{K:KV},aH (.ptr m 10) S K=K (.list O (g.nums.map fun n=>Dt.int .u64 (.ofNat n)) g.nums.length) S:=cD r.rm rfl;have nN:∀{k:V->Prop},aE PP .neq 3 (ni (cC g.kind)) (.int .i64 (.ofNat 0)) k=k (.bool (!decide (cC g.kind=0))):=fun {k}=>by show aE PP .neq 3 (ni (cC g.kind)) (ni 0) k=_;rw [zK]
 have sB:∀{k:V->Prop},aE PP .sub 3 (nz g.rd) (.int .i64 (.ofNat 1)) k=k (nz (dW .i64 (g.rd-1))):=fun {k}=>by rw [gQ];rfl
 have lN:∀{t:Tag} {cs:List Dt} {n:Nat} {k:V->Prop},dJ (.list t cs n) k=k (ni n):=fun {t cs n k}=>rfl;have lT:∀{t:List UInt8} {k:V->Prop},uD (.str t) k=k (ni t.length):=fun {t k}=>rfl;have eN:∀{k:V->Prop},aE PP .eql 3 (ni g.nums.length) (.int .i64 (.ofNat 0)) k=k (.bool (decide (g.nums.length=0))):=fun {k}=>by show aE PP .eql 3 (ni g.nums.length) (ni 0) k=_;rw [vU]
 have qT:∀{a b:Nat} {k:V->Prop},aE PP .leq 3 (ni a) (.int .i64 (.ofNat b)) k=k (.bool (decide (a<=b))):=fun {a b k}=>by rw [kS];congr 2;simp
 have tE:∀{k:V->Prop},aE PP .eql 9 (.str g.text) (.str []) k=k (.bool (decide (g.text=[]))):=fun {k}=>rfl;have tN:∀{k:V->Prop},aE PP .neq 9 (.str g.text) (.str []) k=k (.bool (!decide (g.text=[]))):=fun {k}=>rfl
 (repeat (first | rw [aP] | rw [aN] | rw [mW] | rw [nM] | rw [mC] | rw [gC] | rw [dO] | rw [aX] | rw [ln] | rw [lh] | rw [lw] | rw [ll] | rw [m0] | rw [m1] | rw [m2] | rw [m3] | rw [m4] | rw [m5] | rw [m6] | rw [m7] | rw [m8] | rw [m9] | rw [m10] | rw [nN] | rw [sB] | rw [lN] | rw [lT] | rw [eN] | rw [qT] | rw [tE] | rw [tN] | rw [iJ] | rw [yD] | rw [BP] | rw [fJ] | rw [fD] | dsimp only | refine KD (d:=d) hy r ?_ | refine rX (d:=d) hy ?_))
 exact aJ hK
theorem aLn:gT AN=none:=rfl
theorem aLo (hx:Deep PP cM gT M (d+2) x) (r:Ih S n h w l m O g) (hK:∀b,(JO g)[6]? =some b->K (.bool b) S):x.call AN [.ptr w 0,.ptr h 0,.ptr m 0] S K:=by
 refine hx.call aLn fun y hy=>?_;rw [Vh];unfold ZT;have hK:=hK _ rfl;have ln:∀{K:KV},aH (.ptr n 0) S K=K (ni (cC g.kind)) S:=cD r.rn rfl;have lh:∀{K:KV},aH (.ptr h 0) S K=K (.func dA [] [.ptr n 0]) S:=cD r.rh rfl;have lw:∀{K:KV},aH (.ptr w 0) S K=K (.func cT [] []) S:=cD r.rw rfl;have ll:∀{K:KV},aH (.ptr l 0) S K=K (ni (if oZ g.kind 1 then 1 else 0)) S:=cD r.rl rfl;have m0:∀{K:KV},aH (.ptr m 0) S K=K (n8 g.kind) S:=cD r.rm rfl;have m1:∀{K:KV},aH (.ptr m 1) S K=K (nz g.fr) S:=cD r.rm rfl;have m2:∀{K:KV},aH (.ptr m 2) S K=K (nz g.to) S:=cD r.rm rfl;have m3:∀{K:KV},aH (.ptr m 3) S K=K (nz g.ht) S:=cD r.rm rfl;have m4:∀{K:KV},aH (.ptr m 4) S K=K (nz g.rd) S:=cD r.rm rfl;have m5:∀{K:KV},aH (.ptr m 5) S K=K (nz g.vl) S:=cD r.rm rfl;have m6:∀{K:KV},aH (.ptr m 6) S K=K (nz g.ep) S:=cD r.rm rfl;have m7:∀{K:KV},aH (.ptr m 7) S K=K (nz g.dl) S:=cD r.rm rfl;have m8:∀{K:KV},aH (.ptr m 8) S K=K (nz g.id) S:=cD r.rm rfl;have m9:∀{K:KV},aH (.ptr m 9) S K=K (.str g.text) S:=cD r.rm rfl;have m10:∀{K:KV},aH (.ptr m 10) S K=K (.list O (g.nums.map fun n=>Dt.int .u64 (.ofNat n)) g.nums.length) S:=cD r.rm rfl;have nN:∀{k:V->Prop},aE PP .neq 3 (ni (cC g.kind)) (.int .i64 (.ofNat 0)) k=k (.bool (!decide (cC g.kind=0))):=fun {k}=>by show aE PP .neq 3 (ni (cC g.kind)) (ni 0) k=_;rw [zK]
 have sB:∀{k:V->Prop},aE PP .sub 3 (nz g.rd) (.int .i64 (.ofNat 1)) k=k (nz (dW .i64 (g.rd-1))):=fun {k}=>by rw [gQ];rfl
 have lN:∀{t:Tag} {cs:List Dt} {n:Nat} {k:V->Prop},dJ (.list t cs n) k=k (ni n):=fun {t cs n k}=>rfl;have lT:∀{t:List UInt8} {k:V->Prop},uD (.str t) k=k (ni t.length):=fun {t k}=>rfl;have eN:∀{k:V->Prop},aE PP .eql 3 (ni g.nums.length) (.int .i64 (.ofNat 0)) k=k (.bool (decide (g.nums.length=0))):=fun {k}=>by show aE PP .eql 3 (ni g.nums.length) (ni 0) k=_;rw [vU]
 have qT:∀{a b:Nat} {k:V->Prop},aE PP .leq 3 (ni a) (.int .i64 (.ofNat b)) k=k (.bool (decide (a<=b))):=fun {a b k}=>by rw [kS];congr 2;simp
 have tE:∀{k:V->Prop},aE PP .eql 9 (.str g.text) (.str []) k=k (.bool (decide (g.text=[]))):=fun {k}=>rfl;have tN:∀{k:V->Prop},aE PP .neq 9 (.str g.text) (.str []) k=k (.bool (!decide (g.text=[]))):=fun {k}=>rfl
 (repeat (first | rw [aP] | rw [aN] | rw [mW] | rw [nM] | rw [mC] | rw [gC] | rw [dO] | rw [aX] | rw [ln] | rw [lh] | rw [lw] | rw [ll] | rw [m0] | rw [m1] | rw [m2] | rw [m3] | rw [m4] | rw [m5] | rw [m6] | rw [m7] | rw [m8] | rw [m9] | rw [m10] | rw [nN] | rw [sB] | rw [lN] | rw [lT] | rw [eN] | rw [qT] | rw [tE] | rw [tN] | rw [iJ] | rw [yD] | rw [BP] | rw [fJ] | rw [fD] | dsimp only | refine KD (d:=d) hy r ?_ | refine rX (d:=d) hy ?_))
 exact aJ hK
theorem aIi:gT xL=none:=rfl
theorem aIj (hx:Deep PP cM gT M (d+2) x) (r:Ih S n h w l m O g) (hK:∀b,(JO g)[7]? =some b->K (.bool b) S):x.call xL [.ptr w 0,.ptr h 0,.ptr m 0] S K:=by
 refine hx.call aIi fun y hy=>?_;rw [Ou];unfold UN;have hK:=hK _ rfl;have ln:∀{K:KV},aH (.ptr n 0) S K=K (ni (cC g.kind)) S:=cD r.rn rfl;have lh:∀{K:KV},aH (.ptr h 0) S K=K (.func dA [] [.ptr n 0]) S:=cD r.rh rfl;have lw:∀{K:KV},aH (.ptr w 0) S K=K (.func cT [] []) S:=cD r.rw rfl;have ll:∀{K:KV},aH (.ptr l 0) S K=K (ni (if oZ g.kind 1 then 1 else 0)) S:=cD r.rl rfl;have m0:∀{K:KV},aH (.ptr m 0) S K=K (n8 g.kind) S:=cD r.rm rfl;have m1:∀{K:KV},aH (.ptr m 1) S K=K (nz g.fr) S:=cD r.rm rfl;have m2:∀{K:KV},aH (.ptr m 2) S K=K (nz g.to) S:=cD r.rm rfl;have m3:∀{K:KV},aH (.ptr m 3) S K=K (nz g.ht) S:=cD r.rm rfl;have m4:∀{K:KV},aH (.ptr m 4) S K=K (nz g.rd) S:=cD r.rm rfl;have m5:∀{K:KV},aH (.ptr m 5) S K=K (nz g.vl) S:=cD r.rm rfl;have m6:∀{K:KV},aH (.ptr m 6) S K=K (nz g.ep) S:=cD r.rm rfl;have m7:∀{K:KV},aH (.ptr m 7) S K=K (nz g.dl) S:=cD r.rm rfl;have m8:∀{K:KV},aH (.ptr m 8) S K=K (nz g.id) S:=cD r.rm rfl;have m9:∀{K:KV},aH (.ptr m 9) S K=K (.str g.text) S:=cD r.rm rfl;have m10:∀{K:KV},aH (.ptr m 10) S K=K (.list O (g.nums.map fun n=>Dt.int .u64 (.ofNat n)) g.nums.length) S:=cD r.rm rfl;have nN:∀{k:V->Prop},aE PP .neq 3 (ni (cC g.kind)) (.int .i64 (.ofNat 0)) k=k (.bool (!decide (cC g.kind=0))):=fun {k}=>by show aE PP .neq 3 (ni (cC g.kind)) (ni 0) k=_;rw [zK]
 have sB:∀{k:V->Prop},aE PP .sub 3 (nz g.rd) (.int .i64 (.ofNat 1)) k=k (nz (dW .i64 (g.rd-1))):=fun {k}=>by rw [gQ];rfl
 have lN:∀{t:Tag} {cs:List Dt} {n:Nat} {k:V->Prop},dJ (.list t cs n) k=k (ni n):=fun {t cs n k}=>rfl;have lT:∀{t:List UInt8} {k:V->Prop},uD (.str t) k=k (ni t.length):=fun {t k}=>rfl;have eN:∀{k:V->Prop},aE PP .eql 3 (ni g.nums.length) (.int .i64 (.ofNat 0)) k=k (.bool (decide (g.nums.length=0))):=fun {k}=>by show aE PP .eql 3 (ni g.nums.length) (ni 0) k=_;rw [vU]
 have qT:∀{a b:Nat} {k:V->Prop},aE PP .leq 3 (ni a) (.int .i64 (.ofNat b)) k=k (.bool (decide (a<=b))):=fun {a b k}=>by rw [kS];congr 2;simp
 have tE:∀{k:V->Prop},aE PP .eql 9 (.str g.text) (.str []) k=k (.bool (decide (g.text=[]))):=fun {k}=>rfl;have tN:∀{k:V->Prop},aE PP .neq 9 (.str g.text) (.str []) k=k (.bool (!decide (g.text=[]))):=fun {k}=>rfl
 (repeat (first | rw [aP] | rw [aN] | rw [mW] | rw [nM] | rw [mC] | rw [gC] | rw [dO] | rw [aX] | rw [ln] | rw [lh] | rw [lw] | rw [ll] | rw [m0] | rw [m1] | rw [m2] | rw [m3] | rw [m4] | rw [m5] | rw [m6] | rw [m7] | rw [m8] | rw [m9] | rw [m10] | rw [nN] | rw [sB] | rw [lN] | rw [lT] | rw [eN] | rw [qT] | rw [tE] | rw [tN] | rw [iJ] | rw [yD] | rw [BP] | rw [fJ] | rw [fD] | dsimp only | refine KD (d:=d) hy r ?_ | refine rX (d:=d) hy ?_))
 exact aJ hK
theorem aIk:gT xM=none:=rfl
theorem aIl (hx:Deep PP cM gT M (d+2) x) (r:Ih S n h w l m O g) (hK:∀b,(JO g)[8]? =some b->K (.bool b) S):x.call xM [.ptr w 0,.ptr h 0,.ptr m 0] S K:=by
 refine hx.call aIk fun y hy=>?_;rw [Ov];unfold UO;have hK:=hK _ rfl;have ln:∀{K:KV},aH (.ptr n 0) S K=K (ni (cC g.kind)) S:=cD r.rn rfl;have lh:∀{K:KV},aH (.ptr h 0) S K=K (.func dA [] [.ptr n 0]) S:=cD r.rh rfl;have lw:∀{K:KV},aH (.ptr w 0) S K=K (.func cT [] []) S:=cD r.rw rfl;have ll:∀{K:KV},aH (.ptr l 0) S K=K (ni (if oZ g.kind 1 then 1 else 0)) S:=cD r.rl rfl;have m0:∀{K:KV},aH (.ptr m 0) S K=K (n8 g.kind) S:=cD r.rm rfl;have m1:∀{K:KV},aH (.ptr m 1) S K=K (nz g.fr) S:=cD r.rm rfl;have m2:∀{K:KV},aH (.ptr m 2) S K=K (nz g.to) S:=cD r.rm rfl;have m3:∀{K:KV},aH (.ptr m 3) S K=K (nz g.ht) S:=cD r.rm rfl;have m4:∀{K:KV},aH (.ptr m 4) S K=K (nz g.rd) S:=cD r.rm rfl;have m5:∀{K:KV},aH (.ptr m 5) S K=K (nz g.vl) S:=cD r.rm rfl;have m6:∀{K:KV},aH (.ptr m 6) S K=K (nz g.ep) S:=cD r.rm rfl;have m7:∀{K:KV},aH (.ptr m 7) S K=K (nz g.dl) S:=cD r.rm rfl;have m8:∀{K:KV},aH (.ptr m 8) S K=K (nz g.id) S:=cD r.rm rfl;have m9:∀{K:KV},aH (.ptr m 9) S K=K (.str g.text) S:=cD r.rm rfl;have m10:∀{K:KV},aH (.ptr m 10) S K=K (.list O (g.nums.map fun n=>Dt.int .u64 (.ofNat n)) g.nums.length) S:=cD r.rm rfl;have nN:∀{k:V->Prop},aE PP .neq 3 (ni (cC g.kind)) (.int .i64 (.ofNat 0)) k=k (.bool (!decide (cC g.kind=0))):=fun {k}=>by show aE PP .neq 3 (ni (cC g.kind)) (ni 0) k=_;rw [zK]
 have sB:∀{k:V->Prop},aE PP .sub 3 (nz g.rd) (.int .i64 (.ofNat 1)) k=k (nz (dW .i64 (g.rd-1))):=fun {k}=>by rw [gQ];rfl
 have lN:∀{t:Tag} {cs:List Dt} {n:Nat} {k:V->Prop},dJ (.list t cs n) k=k (ni n):=fun {t cs n k}=>rfl;have lT:∀{t:List UInt8} {k:V->Prop},uD (.str t) k=k (ni t.length):=fun {t k}=>rfl;have eN:∀{k:V->Prop},aE PP .eql 3 (ni g.nums.length) (.int .i64 (.ofNat 0)) k=k (.bool (decide (g.nums.length=0))):=fun {k}=>by show aE PP .eql 3 (ni g.nums.length) (ni 0) k=_;rw [vU]
 have qT:∀{a b:Nat} {k:V->Prop},aE PP .leq 3 (ni a) (.int .i64 (.ofNat b)) k=k (.bool (decide (a<=b))):=fun {a b k}=>by rw [kS];congr 2;simp
 have tE:∀{k:V->Prop},aE PP .eql 9 (.str g.text) (.str []) k=k (.bool (decide (g.text=[]))):=fun {k}=>rfl;have tN:∀{k:V->Prop},aE PP .neq 9 (.str g.text) (.str []) k=k (.bool (!decide (g.text=[]))):=fun {k}=>rfl
 (repeat (first | rw [aP] | rw [aN] | rw [mW] | rw [nM] | rw [mC] | rw [gC] | rw [dO] | rw [aX] | rw [ln] | rw [lh] | rw [lw] | rw [ll] | rw [m0] | rw [m1] | rw [m2] | rw [m3] | rw [m4] | rw [m5] | rw [m6] | rw [m7] | rw [m8] | rw [m9] | rw [m10] | rw [nN] | rw [sB] | rw [lN] | rw [lT] | rw [eN] | rw [qT] | rw [tE] | rw [tN] | rw [iJ] | rw [yD] | rw [BP] | rw [fJ] | rw [fD] | dsimp only | refine KD (d:=d) hy r ?_ | refine rX (d:=d) hy ?_))
 exact aJ hK
theorem aIm:gT xN=none:=rfl
theorem aIn (hx:Deep PP cM gT M (d+2) x) (r:Ih S n h w l m O g) (hK:∀b,(JO g)[9]? =some b->K (.bool b) S):x.call xN [.ptr h 0,.ptr m 0] S K:=by
 refine hx.call aIm fun y hy=>?_;rw [Ox];unfold UP;have hK:=hK _ rfl;have ln:∀{K:KV},aH (.ptr n 0) S K=K (ni (cC g.kind)) S:=cD r.rn rfl;have lh:∀{K:KV},aH (.ptr h 0) S K=K (.func dA [] [.ptr n 0]) S:=cD r.rh rfl;have lw:∀{K:KV},aH (.ptr w 0) S K=K (.func cT [] []) S:=cD r.rw rfl;have ll:∀{K:KV},aH (.ptr l 0) S K=K (ni (if oZ g.kind 1 then 1 else 0)) S:=cD r.rl rfl;have m0:∀{K:KV},aH (.ptr m 0) S K=K (n8 g.kind) S:=cD r.rm rfl;have m1:∀{K:KV},aH (.ptr m 1) S K=K (nz g.fr) S:=cD r.rm rfl;have m2:∀{K:KV},aH (.ptr m 2) S K=K (nz g.to) S:=cD r.rm rfl;have m3:∀{K:KV},aH (.ptr m 3) S K=K (nz g.ht) S:=cD r.rm rfl;have m4:∀{K:KV},aH (.ptr m 4) S K=K (nz g.rd) S:=cD r.rm rfl;have m5:∀{K:KV},aH (.ptr m 5) S K=K (nz g.vl) S:=cD r.rm rfl;have m6:∀{K:KV},aH (.ptr m 6) S K=K (nz g.ep) S:=cD r.rm rfl;have m7:∀{K:KV},aH (.ptr m 7) S K=K (nz g.dl) S:=cD r.rm rfl;have m8:∀{K:KV},aH (.ptr m 8) S K=K (nz g.id) S:=cD r.rm rfl;have m9:∀{K:KV},aH (.ptr m 9) S K=K (.str g.text) S:=cD r.rm rfl;have m10:∀{K:KV},aH (.ptr m 10) S K=K (.list O (g.nums.map fun n=>Dt.int .u64 (.ofNat n)) g.nums.length) S:=cD r.rm rfl;have nN:∀{k:V->Prop},aE PP .neq 3 (ni (cC g.kind)) (.int .i64 (.ofNat 0)) k=k (.bool (!decide (cC g.kind=0))):=fun {k}=>by show aE PP .neq 3 (ni (cC g.kind)) (ni 0) k=_;rw [zK]
 have sB:∀{k:V->Prop},aE PP .sub 3 (nz g.rd) (.int .i64 (.ofNat 1)) k=k (nz (dW .i64 (g.rd-1))):=fun {k}=>by rw [gQ];rfl
 have lN:∀{t:Tag} {cs:List Dt} {n:Nat} {k:V->Prop},dJ (.list t cs n) k=k (ni n):=fun {t cs n k}=>rfl;have lT:∀{t:List UInt8} {k:V->Prop},uD (.str t) k=k (ni t.length):=fun {t k}=>rfl;have eN:∀{k:V->Prop},aE PP .eql 3 (ni g.nums.length) (.int .i64 (.ofNat 0)) k=k (.bool (decide (g.nums.length=0))):=fun {k}=>by show aE PP .eql 3 (ni g.nums.length) (ni 0) k=_;rw [vU]
 have qT:∀{a b:Nat} {k:V->Prop},aE PP .leq 3 (ni a) (.int .i64 (.ofNat b)) k=k (.bool (decide (a<=b))):=fun {a b k}=>by rw [kS];congr 2;simp
 have tE:∀{k:V->Prop},aE PP .eql 9 (.str g.text) (.str []) k=k (.bool (decide (g.text=[]))):=fun {k}=>rfl;have tN:∀{k:V->Prop},aE PP .neq 9 (.str g.text) (.str []) k=k (.bool (!decide (g.text=[]))):=fun {k}=>rfl;have hK:K (.bool ((oZ g.kind 512 || decide (g.text=[]))&&(!oZ g.kind 256 || !decide (g.text=[])))) S:=hK;cases h1:oZ g.kind 512<;>cases h2:oZ g.kind 256<;>cases h3:decide (g.text=[])<;>rw [h1,h2,h3]at hK<;>(repeat (first | rw [aP] | rw [aN] | rw [mW] | rw [nM] | rw [mC] | rw [gC] | rw [dO] | rw [aX] | rw [ln] | rw [lh] | rw [lw] | rw [ll] | rw [m0] | rw [m1] | rw [m2] | rw [m3] | rw [m4] | rw [m5] | rw [m6] | rw [m7] | rw [m8] | rw [m9] | rw [m10] | rw [nN] | rw [sB] | rw [lN] | rw [lT] | rw [eN] | rw [qT] | rw [tE] | rw [tN] | rw [h1] | rw [h2] | rw [h3] | rw [iJ] | rw [yD] | rw [BP] | rw [fJ] | rw [fD] | dsimp only | refine KD (d:=d) hy r ?_ | refine rX (d:=d) hy ?_))<;>exact aJ hK
theorem aIo:gT xO=none:=rfl
theorem aIp (hx:Deep PP cM gT M (d+2) x) (r:Ih S n h w l m O g) (hK:∀b,(JO g)[10]? =some b->K (.bool b) S):x.call xO [.ptr h 0,.ptr m 0] S K:=by
 refine hx.call aIo fun y hy=>?_;rw [Oy];unfold UQ;have hK:=hK _ rfl;have ln:∀{K:KV},aH (.ptr n 0) S K=K (ni (cC g.kind)) S:=cD r.rn rfl;have lh:∀{K:KV},aH (.ptr h 0) S K=K (.func dA [] [.ptr n 0]) S:=cD r.rh rfl;have lw:∀{K:KV},aH (.ptr w 0) S K=K (.func cT [] []) S:=cD r.rw rfl;have ll:∀{K:KV},aH (.ptr l 0) S K=K (ni (if oZ g.kind 1 then 1 else 0)) S:=cD r.rl rfl;have m0:∀{K:KV},aH (.ptr m 0) S K=K (n8 g.kind) S:=cD r.rm rfl;have m1:∀{K:KV},aH (.ptr m 1) S K=K (nz g.fr) S:=cD r.rm rfl;have m2:∀{K:KV},aH (.ptr m 2) S K=K (nz g.to) S:=cD r.rm rfl;have m3:∀{K:KV},aH (.ptr m 3) S K=K (nz g.ht) S:=cD r.rm rfl;have m4:∀{K:KV},aH (.ptr m 4) S K=K (nz g.rd) S:=cD r.rm rfl;have m5:∀{K:KV},aH (.ptr m 5) S K=K (nz g.vl) S:=cD r.rm rfl;have m6:∀{K:KV},aH (.ptr m 6) S K=K (nz g.ep) S:=cD r.rm rfl;have m7:∀{K:KV},aH (.ptr m 7) S K=K (nz g.dl) S:=cD r.rm rfl;have m8:∀{K:KV},aH (.ptr m 8) S K=K (nz g.id) S:=cD r.rm rfl;have m9:∀{K:KV},aH (.ptr m 9) S K=K (.str g.text) S:=cD r.rm rfl;have m10:∀{K:KV},aH (.ptr m 10) S K=K (.list O (g.nums.map fun n=>Dt.int .u64 (.ofNat n)) g.nums.length) S:=cD r.rm rfl;have nN:∀{k:V->Prop},aE PP .neq 3 (ni (cC g.kind)) (.int .i64 (.ofNat 0)) k=k (.bool (!decide (cC g.kind=0))):=fun {k}=>by show aE PP .neq 3 (ni (cC g.kind)) (ni 0) k=_;rw [zK]
 have sB:∀{k:V->Prop},aE PP .sub 3 (nz g.rd) (.int .i64 (.ofNat 1)) k=k (nz (dW .i64 (g.rd-1))):=fun {k}=>by rw [gQ];rfl
 have lN:∀{t:Tag} {cs:List Dt} {n:Nat} {k:V->Prop},dJ (.list t cs n) k=k (ni n):=fun {t cs n k}=>rfl;have lT:∀{t:List UInt8} {k:V->Prop},uD (.str t) k=k (ni t.length):=fun {t k}=>rfl;have eN:∀{k:V->Prop},aE PP .eql 3 (ni g.nums.length) (.int .i64 (.ofNat 0)) k=k (.bool (decide (g.nums.length=0))):=fun {k}=>by show aE PP .eql 3 (ni g.nums.length) (ni 0) k=_;rw [vU]
 have qT:∀{a b:Nat} {k:V->Prop},aE PP .leq 3 (ni a) (.int .i64 (.ofNat b)) k=k (.bool (decide (a<=b))):=fun {a b k}=>by rw [kS];congr 2;simp
 have tE:∀{k:V->Prop},aE PP .eql 9 (.str g.text) (.str []) k=k (.bool (decide (g.text=[]))):=fun {k}=>rfl;have tN:∀{k:V->Prop},aE PP .neq 9 (.str g.text) (.str []) k=k (.bool (!decide (g.text=[]))):=fun {k}=>rfl;have hK:K (.bool (oZ g.kind 1024 || decide (g.nums.length=0))) S:=hK;cases h1:oZ g.kind 1024<;>cases h3:decide (g.nums.length=0)<;>rw [h1,h3]at hK<;>(repeat (first | rw [aP] | rw [aN] | rw [mW] | rw [nM] | rw [mC] | rw [gC] | rw [dO] | rw [aX] | rw [ln] | rw [lh] | rw [lw] | rw [ll] | rw [m0] | rw [m1] | rw [m2] | rw [m3] | rw [m4] | rw [m5] | rw [m6] | rw [m7] | rw [m8] | rw [m9] | rw [m10] | rw [nN] | rw [sB] | rw [lN] | rw [lT] | rw [eN] | rw [qT] | rw [tE] | rw [tN] | rw [h1] | rw [h3] | rw [iJ] | rw [yD] | rw [BP] | rw [fJ] | rw [fD] | dsimp only | refine KD (d:=d) hy r ?_ | refine rX (d:=d) hy ?_))<;>exact aJ hK
theorem aIq:gT xP=none:=rfl
theorem aIr (hx:Deep PP cM gT M (d+2) x) (r:Ih S n h w l m O g) (hK:∀b,(JO g)[11]? =some b->K (.bool b) S):x.call xP [.ptr m 0] S K:=by
 refine hx.call aIq fun y hy=>?_;rw [Oz];unfold UR;have hK:=hK _ rfl;have ln:∀{K:KV},aH (.ptr n 0) S K=K (ni (cC g.kind)) S:=cD r.rn rfl;have lh:∀{K:KV},aH (.ptr h 0) S K=K (.func dA [] [.ptr n 0]) S:=cD r.rh rfl;have lw:∀{K:KV},aH (.ptr w 0) S K=K (.func cT [] []) S:=cD r.rw rfl;have ll:∀{K:KV},aH (.ptr l 0) S K=K (ni (if oZ g.kind 1 then 1 else 0)) S:=cD r.rl rfl;have m0:∀{K:KV},aH (.ptr m 0) S K=K (n8 g.kind) S:=cD r.rm rfl;have m1:∀{K:KV},aH (.ptr m 1) S K=K (nz g.fr) S:=cD r.rm rfl;have m2:∀{K:KV},aH (.ptr m 2) S K=K (nz g.to) S:=cD r.rm rfl;have m3:∀{K:KV},aH (.ptr m 3) S K=K (nz g.ht) S:=cD r.rm rfl;have m4:∀{K:KV},aH (.ptr m 4) S K=K (nz g.rd) S:=cD r.rm rfl;have m5:∀{K:KV},aH (.ptr m 5) S K=K (nz g.vl) S:=cD r.rm rfl;have m6:∀{K:KV},aH (.ptr m 6) S K=K (nz g.ep) S:=cD r.rm rfl;have m7:∀{K:KV},aH (.ptr m 7) S K=K (nz g.dl) S:=cD r.rm rfl;have m8:∀{K:KV},aH (.ptr m 8) S K=K (nz g.id) S:=cD r.rm rfl;have m9:∀{K:KV},aH (.ptr m 9) S K=K (.str g.text) S:=cD r.rm rfl;have m10:∀{K:KV},aH (.ptr m 10) S K=K (.list O (g.nums.map fun n=>Dt.int .u64 (.ofNat n)) g.nums.length) S:=cD r.rm rfl;have nN:∀{k:V->Prop},aE PP .neq 3 (ni (cC g.kind)) (.int .i64 (.ofNat 0)) k=k (.bool (!decide (cC g.kind=0))):=fun {k}=>by show aE PP .neq 3 (ni (cC g.kind)) (ni 0) k=_;rw [zK]
 have sB:∀{k:V->Prop},aE PP .sub 3 (nz g.rd) (.int .i64 (.ofNat 1)) k=k (nz (dW .i64 (g.rd-1))):=fun {k}=>by rw [gQ];rfl
 have lN:∀{t:Tag} {cs:List Dt} {n:Nat} {k:V->Prop},dJ (.list t cs n) k=k (ni n):=fun {t cs n k}=>rfl;have lT:∀{t:List UInt8} {k:V->Prop},uD (.str t) k=k (ni t.length):=fun {t k}=>rfl;have eN:∀{k:V->Prop},aE PP .eql 3 (ni g.nums.length) (.int .i64 (.ofNat 0)) k=k (.bool (decide (g.nums.length=0))):=fun {k}=>by show aE PP .eql 3 (ni g.nums.length) (ni 0) k=_;rw [vU]
 have qT:∀{a b:Nat} {k:V->Prop},aE PP .leq 3 (ni a) (.int .i64 (.ofNat b)) k=k (.bool (decide (a<=b))):=fun {a b k}=>by rw [kS];congr 2;simp
 have tE:∀{k:V->Prop},aE PP .eql 9 (.str g.text) (.str []) k=k (.bool (decide (g.text=[]))):=fun {k}=>rfl;have tN:∀{k:V->Prop},aE PP .neq 9 (.str g.text) (.str []) k=k (.bool (!decide (g.text=[]))):=fun {k}=>rfl;have hK:K (.bool (decide (g.text.length<=2048)&&decide (g.nums.length<=1024))) S:=hK;cases h1:decide (g.text.length<=2048)<;>cases h2:decide (g.nums.length<=1024)<;>rw [h1,h2]at hK<;>(repeat (first | rw [aP] | rw [aN] | rw [mW] | rw [nM] | rw [mC] | rw [gC] | rw [dO] | rw [aX] | rw [ln] | rw [lh] | rw [lw] | rw [ll] | rw [m0] | rw [m1] | rw [m2] | rw [m3] | rw [m4] | rw [m5] | rw [m6] | rw [m7] | rw [m8] | rw [m9] | rw [m10] | rw [nN] | rw [sB] | rw [lN] | rw [lT] | rw [eN] | rw [qT] | rw [tE] | rw [tN] | rw [h1] | rw [h2] | rw [iJ] | rw [yD] | rw [BP] | rw [fJ] | rw [fD] | dsimp only | refine KD (d:=d) hy r ?_ | refine rX (d:=d) hy ?_))<;>exact aJ hK
end
def Aq (n h w l m:Nat):List V:=[.func AH [] [.ptr n 0],.func AI [] [.ptr w 0,.ptr h 0,.ptr m 0],.func AJ [] [.ptr w 0,.ptr h 0,.ptr m 0,.ptr l 0],.func AK [] [.ptr w 0,.ptr h 0,.ptr m 0],.func AL [] [.ptr w 0,.ptr h 0,.ptr m 0],.func AM [] [.ptr w 0,.ptr h 0,.ptr m 0],.func AN [] [.ptr w 0,.ptr h 0,.ptr m 0],.func xL [] [.ptr w 0,.ptr h 0,.ptr m 0],.func xM [] [.ptr w 0,.ptr h 0,.ptr m 0],.func xN [] [.ptr h 0,.ptr m 0],.func xO [] [.ptr h 0,.ptr m 0],.func xP [] [.ptr m 0]]
theorem aIs{o:Nat}{v:V}{ps:List (Nat×Nat×V)}{cs:List V}{k:List V->Prop} (ho:tO v=true) (hl:o+1<=cs.length) (hk:uT ps (cs.set o v) k):uT ((o,1,v)::ps) cs k:=by
 have e:aG o [v] cs=cs.set o v:=by
  rw [aDI,if_pos (by omega)];simp [aG]
 rw [<-e]at hk;unfold uT;unfold yW;cases v<;>first | (cases ho;done) | exact⟨rfl,hl,hk⟩
def Pn:Nat->List V->List (Nat×Nat×V)
 | _,[]=>[]
 | o,v::l=>(o,1,v)::Pn (o+1) l
theorem aDr:∀(new pre rest:List V) {k:List V->Prop},new.all tO=true->rest.length=new.length->k (pre++new)->uT (Pn pre.length new) (pre++rest) k:=by
 intro new;induction new with
 | nil=>
  intro pre rest k _ hl hk;obtain rfl:rest=[]:=lZ (by simpa using hl);exact hk
 | cons v new ih=>
  intro pre rest k ho hl hk;cases rest with
  | nil=>simp at hl
  | cons r rest=>
   simp only [VW,bT]at ho;refine aIs ho.1 (by simp) ?_;have e:(pre++r::rest).set pre.length v=(pre++[v])++rest:=by simp
   rw [e];have:=ih (pre++[v]) rest (k:=k) ho.2 (by simpa using hl) (by simpa using hk)
   rwa [bW]at this
theorem aAG{new rest:List V}{k:List V->Prop} (ho:new.all tO=true) (hl:rest.length=new.length) (hk:k new):uT (Pn 0 new) rest k:=aDr new [] rest ho hl hk
theorem Vs{el:TypeId}{n:Nat}{z0:Value}{u:V}{new:List V}{S:Hp}{K:KV} (hz:IZ [z0]=some [u]) (ho:new.all tO=true) (hl:new.length=n) (hk:∀j,S j=none->K (.own j 0 n n) (aR S j (.row new el))):cQ el n [z0] (Pn 0 new) S K:=by
 unfold cQ xF;rw [hz];refine aAG ho ?_ hk;simp [hl]
section
variable{M d:Nat}{x:VE}{S:Hp}{K:KV}{n h w l m:Nat}{O:Tag}{g:Ms}
theorem aNq (hx:Deep PP cM gT M (d+2) x) (r:Ih S n h w l m O g){i:Nat}{f:V} (hf:(Aq n h w l m)[i]? =some f) (hK:∀b,(JO g)[i]? =some b->K (.bool b) S):fF x f [] S K:=by
 match i,hf with
 | 0,hf=>injection hf with hf;subst hf;exact aLc hx r hK
 | 1,hf=>injection hf with hf;subst hf;exact aLe hx r hK
 | 2,hf=>injection hf with hf;subst hf;exact aLg hx r hK
 | 3,hf=>injection hf with hf;subst hf;exact aLi hx r hK
 | 4,hf=>injection hf with hf;subst hf;exact aLk hx r hK
 | 5,hf=>injection hf with hf;subst hf;exact aLm hx r hK
 | 6,hf=>injection hf with hf;subst hf;exact aLo hx r hK
 | 7,hf=>injection hf with hf;subst hf;exact aIj hx r hK
 | 8,hf=>injection hf with hf;subst hf;exact aIl hx r hK
 | 9,hf=>injection hf with hf;subst hf;exact aIn hx r hK
 | 10,hf=>injection hf with hf;subst hf;exact aIp hx r hK
 | 11,hf=>injection hf with hf;subst hf;exact aIr hx r hK
 | i+12,hf=>exact absurd (cZ.1 hf).1 (by rw [show(Aq n h w l m).length=12 from rfl];omega)
theorem aIt:gT nH=none:=rfl
theorem aLp:gT cE=none:=rfl
theorem aLq:gT cW=none:=rfl
theorem aLr:gT DA=none:=rfl
theorem aNr (hx:Deep PP cM gT M (d+3) x) (r:Ih S n h w l m O g){i:Nat}{f:V} (hf:(Aq n h w l m)[i]? =some f) (hK:∀b,(JO g)[i]? =some b->K (.bool (!b)) S):fF x (.func nH [] []) [f] S K:=by
 show x.call nH [f] S K;refine hx.call aIt fun y hy=>?_;rw [Pa];unfold US;refine aNq (d:=d) hy r hf fun b hb=>?_;rw [iJ];exact aJ (hK b hb)
theorem aLs (hM:100<M) (hx:Deep PP cM gT M (d+4) x) (r:Ih S n h w l m O g){j:Nat} (rj:S j=some (.row (Aq n h w l m) 24)) (hT:Pm g=true->K (.int .i64 (.negSucc 0)) S) (hF:Pm g=false->∀i:Nat,K (ni i) S):x.call cE [.own j 0 12 12,.func nH [] []] S K:=by
 refine hx.call aLp fun y hy=>?_;rw [qU];unfold kF;show bQ y y.most (.own j 0 12 12) (.func nH [] []) (ni 12) (ni 0) S K;rw [hy.most];have hlen:(JO g).length=12:=rfl
 have go:∀(q i k:Nat),i+q=12->q<k->((JO g).drop i).all id=Pm g->bQ y k (.own j 0 12 12) (.func nH [] []) (ni 12) (ni i) S K:=by
  intro q;induction q with
  | zero=>
   intro i k hi hk hE;obtain⟨k,rfl⟩:=eY (show k≠0 by omega);rw [iE];unfold eF;refine aQ ?_;rw [mV,VB (by omega),iF];rw [Ko (by omega)]at hE;exact aJ (hT hE.symm)
  | succ q ih=>
   intro i k hi hk hE;obtain⟨k,rfl⟩:=eY (show k≠0 by omega);rw [iE];unfold eF;refine aQ ?_;have DW:i<12:=by omega
   have aO8:i<(Aq n h w l m).length:=DW;rw [mV,dlt DW,jS];refine⟨DW,?_⟩;dsimp only;have ef:(Aq n h w l m)[i]? =some (Aq n h w l m)[i]:=aS aO8;have ef2:(Aq n h w l m)[0+i*1]? =some (Aq n h w l m)[i]:=by rw [fK,sA];exact ef
   rw [cD (o:=0+i*1) rj ef2];refine aNr (d:=d) hy r ef fun b hb=>?_;have aNs:i<(JO g).length:=DW;rw [aS aNs]at hb;injection hb with hb;rw [BB aNs,VW,hb]at hE;cases b with
   | true=>
    rw [fJ,iF,qO (by omega)];exact ih (i+1) k (by omega) (by omega) hE
   | false=>
    rw [fD,jS];exact aJ (hF hE.symm i)
 exact go 12 0 M rfl (by omega) rfl
theorem aLt (hM:100<M) (hx:Deep PP cM gT M (d+5) x) (r:Ih S n h w l m O g){j:Nat} (rj:S j=some (.row (Aq n h w l m) 24)) (hK:K (.bool (!Pm g)) S):x.call cW [.own j 0 12 12,.func nH [] []] S K:=by
 refine hx.call aLq fun y hy=>?_;rw [pQ];unfold jE;refine aLs (d:=d) hM hy r rj (fun e=>?_) (fun e i=>?_)
 ·rw [nS]
  rw [e]at hK;exact aJ hK
 ·show aE PP .geq 3 (ni i) (ni 0) _
  rw [aAF,bK (mP i)];rw [e]at hK;exact aJ hK
theorem Po{z0:Value}{u v:V}{t:TypeId}{k:V->Hp->Prop} (hz:IZ [z0]=some [u]) (hv:tO v=true) (hk:∀i,S i=none->k (.ptr i 0) (aR S i (.row [v] t))):gZ [z0] t S fun p S=>sU 1 p v S (k p):=by
 refine kV hz fun i hi=>?_;rw [Ig aD (show 0< [u].length from Nat.zero_lt_one) hv,fG];exact hk i hi
theorem aLu (hM:100<M) (hx:Deep PP cM gT M (d+6) x) (hk:g.kind<256) (hK:K (.bool (Pm g)) S):x.call DA [.agg (pC O g)] S K:=by
 refine hx.call aLr fun y hy=>?_;rw [aDa];unfold Jz;refine mB rfl fun m hm=>?_;have iM:gA S (aR S m (.row (pC O g) 37)):= .aT hm;have rm:aR S m (.row (pC O g) 37) m=some (.row (pC O g) 37):=aD;generalize aR S m (.row (pC O g) 37)=S1 at iM rm;rw [aX,cD (o:=0) (v:=n8 g.kind) rm rfl];refine aIh (n:=d+4) hy hk ?_;have st:∀{S S':Hp} {i:Nat} {v:V} {t:TypeId},S i=none->gA S (aR S i (.row [v] t)):=fun h=> .aT h;refine Po rfl rfl fun n hn=>?_;have pT:=st (S':=S1) (v:=ni (cC g.kind)) (t:=3) hn;have rn:aR S1 n (.row [ni (cC g.kind)] 3) n=some (.row [ni (cC g.kind)] 3):=aD;have rm:=pT _ _ rm;have pT:=iM.trans pT;generalize aR S1 n (.row [ni (cC g.kind)] 3)=S2 at pT rn rm;refine Po rfl rfl fun h hh=>?_;have EV:=st (S':=S2) (v:= .func dA [] [.ptr n 0]) (t:=109) hh;have rh:aR S2 h (.row [.func dA [] [.ptr n 0]] 109) h=some (.row [.func dA [] [.ptr n 0]] 109):=aD;have rm:=EV _ _ rm;have rn:=EV _ _ rn;have EV:=pT.trans EV;generalize aR S2 h (.row [.func dA [] [.ptr n 0]] 109)=S3 at EV rh rn rm;refine Po rfl rfl fun w hw=>?_;have He:=st (S':=S3) (v:= .func cT [] []) (t:=110) hw;have rw_:aR S3 w (.row [.func cT [] []] 110) w=some (.row [.func cT [] []] 110):=aD;have rm:=He _ _ rm;have rn:=He _ _ rn;have rh:=He _ _ rh;have He:=EV.trans He;generalize aR S3 w (.row [.func cT [] []] 110)=S4 at He rw_ rh rn rm;refine Po (v:=ni 0) rfl rfl fun l hl=>?_;have hl0:S l=none:=He.none hl;have rK:∀{i:Nat} {o:Ob} {v:V},S4 i=some o->aR S4 l (.row [v] 3) i=some o:=fun {i o v} e=>by rw [aF (fun c=>by rw [c,hl]at e;cases e)];exact e
 have leL:∀{v:V},gA S (aR S4 l (.row [v] 3)):=fun {v} i o e=>rK (He _ _ e);rw [cD (o:=0) (rK rh) rfl];show y.call dA [ni 1,.ptr n 0] _ _;refine aJu (n:=d+4) hy (rK rn) ?_
 have fin:∀S5,gA S S5->Ih S5 n h w l m O g->tY y (.ptr m 0) (.ptr n 0) (.ptr h 0) (.ptr w 0) (.ptr l 0) S5 K:=by
  intro S5 le5 r;rw [UM _ (by rw [hy.most];omega)];unfold xU;refine aQ ?_;refine Vs (new:=Aq n h w l m) rfl rfl rfl fun j hj=>?_;have le6:gA S5 (aR S5 j (.row (Aq n h w l m) 24)):= .aT hj;refine aLt (d:=d) hM hy (r.hle le6) aD ?_;rw [iJ,Bool.not_not];exact dZ (le5.trans le6) hK
 cases hb:oZ g.kind 1 with
 | true=>
  rw [jS];rw [Ig aD (show 0< [ni 0].length from Nat.zero_lt_one) rfl,fG];exact fin _ leL ⟨rK rn,rK rh,rK rw_,by rw [hb];exact aD,rK rm⟩
 | false=>
  rw [iF];exact fin _ leL ⟨rK rn,rK rh,rK rw_,by rw [hb];exact aD,rK rm⟩
end
def PT (x:VE) (S:Hp) (K:KV):Prop:=
 gZ [(.int .u64 (.ofNat 0)),(.int .u64 (.ofNat 0)),(.int .u64 (.ofNat 0)),(.int .u64 (.ofNat 0)),(.int .i64 (.ofNat 0)),(.int .i64 (.ofNat 0)),(.int .i64 (.ofNat 0)),(.int .i64 (.ofNat 0)),(.int .i64 (.ofNat 0)),(.int .i64 (.ofNat 0)),(.int .i64 (.ofNat 0)),(.int .i64 (.ofNat 0))] 31 S fun v0 S=>
 iQ [(.int .u64 (.ofNat 0)),(.int .u64 (.ofNat 0)),(.int .u64 (.ofNat 0)),(.int .u64 (.ofNat 0)),(.int .i64 (.ofNat 0)),(.int .i64 (.ofNat 0)),(.int .i64 (.ofNat 0)),(.int .i64 (.ofNat 0)),(.int .i64 (.ofNat 0)),(.int .i64 (.ofNat 0)),(.int .i64 (.ofNat 0)),(.int .i64 (.ofNat 0))] [(0,1,(.int .u64 (.ofNat 23))),(1,1,(.int .u64 (.ofNat 11))),(2,1,(.int .u64 (.ofNat 4))),(3,1,(.int .u64 (.ofNat 9))),(4,1,(.int .i64 (.ofNat 5))),(5,1,(.int .i64 (.ofNat 4))),(6,1,(.int .i64 (.ofNat 1))),(7,1,(.int .i64 (.ofNat 1))),(8,1,(.int .i64 (.ofNat 1))),(9,1,(.int .i64 (.ofNat 1))),(10,1,(.int .i64 (.ofNat 1))),(11,1,(.int .i64 (.ofNat 1)))] fun v1=>
 sU 12 v0 v1 S fun S=>
 iP 12 v0 S fun v2 _=>
 bD v2 S K
theorem Ib (x:VE) (S:Hp) (K:KV):pP PP cM zW x [] S K=PT x S K:=by kernel_rfl
def UJ (x:VE) (a0 a1 a2:V) (S:Hp) (K:KV):Prop:=
 gZ [(.int .u8 (.ofNat 0)),(.int .i64 (.ofNat 0)),(.int .i64 (.ofNat 0)),(.int .i64 (.ofNat 0)),(.int .i64 (.ofNat 0)),(.int .i64 (.ofNat 0)),(.int .i64 (.ofNat 0)),(.int .i64 (.ofNat 0)),(.int .i64 (.ofNat 0)),(.string ⟨⟨[]⟩⟩),(.slice none 0 0)] 37 S fun v0 S=>
 iQ [(.int .u8 (.ofNat 0)),(.int .i64 (.ofNat 0)),(.int .i64 (.ofNat 0)),(.int .i64 (.ofNat 0)),(.int .i64 (.ofNat 0)),(.int .i64 (.ofNat 0)),(.int .i64 (.ofNat 0)),(.int .i64 (.ofNat 0)),(.int .i64 (.ofNat 0)),(.string ⟨⟨[]⟩⟩),(.slice none 0 0)] [(0,1,(.int .u8 (.ofNat 5))),(1,1,a0),(2,1,(.int .i64 (.ofNat 5))),(3,1,a1),(9,1,a2)] fun v1=>
 sU 11 v0 v1 S fun S=>
 iP 11 v0 S fun v2 _=>
 bD v2 S K
theorem Oq (x:VE) (a0 a1 a2:V) (S:Hp) (K:KV):pP PP cM xK x [a0,a1,a2] S K=UJ x a0 a1 a2 S K:=by kernel_rfl
def UK (x:VE) (S:Hp) (K:KV):Prop:=
 cQ 3 4 [(.int .i64 (.ofNat 0))] [(0,1,(.int .i64 (.ofNat 1))),(1,1,(.int .i64 (.ofNat 2))),(2,1,(.int .i64 (.ofNat 3))),(3,1,(.int .i64 (.ofNat 4)))] S fun v0 S=>
 bD v0 S K
theorem Or (x:VE) (S:Hp) (K:KV):pP PP cM CN x [] S K=UK x S K:=by kernel_rfl
def ZJ (x:VE) (a0 a1:V) (S:Hp) (K:KV):Prop:=
 tW 31 a0 S fun v0 S=>
 iP 12 v0 S fun v1 S=>
 x.call ZI [v1] S fun v2 S=>
 NX .not v2 fun v3=>
 aC x.most (aB false v3 (fun k=>k a1 S) S fun v4 S=>aC x.most (aB false v3 (fun k=>aE PP .lss 3 v4 (.int .i64 (.ofNat 0)) fun v5=>k v5 S) S fun v6 S=>aC x.most (cK v3 (.bool true) v6 fun v7=>aC x.most (aB false v7 (fun k=>k a1 S) S fun v8 S=>aC x.most (aB false v7 (fun k=>aL 4 v0 fun v9=>k v9 S) S fun v10 S=>aC x.most (aB false v7 (fun k=>aH v10 S fun v11 S=>k v11 S) S fun v12 S=>aC x.most (aB false v7 (fun k=>aE PP .gtr 3 v8 v12 fun pB=>k pB S) S fun pU S=>aC x.most (cK v7 (.bool true) pU fun qS=>pA qS (bD (.tuple [.sD,(.int .i64 (.ofNat 1))]) S K) (iP 12 v0 S fun sV S=>iQ [(.int .u64 (.ofNat 0)),(.int .u64 (.ofNat 0)),(.int .u64 (.ofNat 0)),(.int .u64 (.ofNat 0)),(.int .i64 (.ofNat 0)),(.int .i64 (.ofNat 0)),(.int .i64 (.ofNat 0)),(.int .i64 (.ofNat 0)),(.int .i64 (.ofNat 0)),(.int .i64 (.ofNat 0)),(.int .i64 (.ofNat 0)),(.int .i64 (.ofNat 0)),(.int .i64 (.ofNat 0)),(.int .i64 (.ofNat 0)),(.string ⟨⟨[]⟩⟩),(.pointer none),(.slice none 0 0),(.slice none 0 0)] [(0,12,sV),(12,1,a1),(13,1,(.int .i64 (.ofNat 1)))] fun v17=>tW 82 v17 S fun xS S=>bD (.tuple [xS,(.int .i64 (.ofNat 0))]) S K)))))))))
theorem Ux (x:VE) (a0 a1:V) (S:Hp) (K:KV):pP PP cM FX x [a0,a1] S K=ZJ x a0 a1 S K:=by kernel_rfl
def EJ (x:VE) (a0 a1:V) (S:Hp) (K:KV):Prop:=
 tW 37 a1 S fun v0 S=>
 aE PP .eql 25 a0 .sD fun v1=>
 aC x.most (aB false v1 (fun k=>iP 11 v0 S fun v2 S=>k v2 S) S fun v3 S=>aC x.most (aB false v1 (fun k=>x.call DA [v3] S fun v4 S=>k v4 S) S fun v5 S=>aC x.most (aB false v1 (fun k=>NX .not v5 fun v6=>k v6 S) S fun v7 S=>aC x.most (cK v1 (.bool true) v7 fun v8=>aC x.most (aB false v8 (fun k=>aL 0 v0 fun v9=>k v9 S) S fun v10 S=>aC x.most (aB false v8 (fun k=>aH v10 S fun v11 S=>k v11 S) S fun v12 S=>aC x.most (aB false v8 (fun k=>aE PP .lss 5 v12 (.int .u8 (.ofNat 2)) fun pB=>k pB S) S fun pU S=>aC x.most (cK v8 (.bool true) pU fun qS=>aC x.most (aB false qS (fun k=>aL 0 v0 fun sV=>k sV S) S fun v17 S=>aC x.most (aB false qS (fun k=>aH v17 S fun xS S=>k xS S) S fun yH S=>aC x.most (aB false qS (fun k=>aE PP .gtr 5 yH (.int .u8 (.ofNat 5)) fun v20=>k v20 S) S fun v21 S=>aC x.most (cK qS (.bool true) v21 fun v22=>aC x.most (aB false v22 (fun k=>aL 3 v0 fun v23=>k v23 S) S fun v24 S=>aC x.most (aB false v22 (fun k=>aH v24 S fun v25 S=>k v25 S) S fun v26 S=>aC x.most (aB false v22 (fun k=>k a0 S) S fun CP S=>aC x.most (aB false v22 (fun k=>cP PP CP fun v28=>k v28 S) S fun JG S=>aC x.most (aB false v22 (fun k=>aL 13 JG fun v30=>k v30 S) S fun v31 S=>aC x.most (aB false v22 (fun k=>aH v31 S fun v32 S=>k v32 S) S fun v33 S=>aC x.most (aB false v22 (fun k=>aE PP .lss 3 v26 v33 fun BV=>k BV S) S fun v35 S=>aC x.most (cK v22 (.bool true) v35 fun KJ=>aC x.most (aB false KJ (fun k=>k a0 S) S fun v37 S=>aC x.most (aB false KJ (fun k=>cP PP v37 fun VF=>k VF S) S fun v39 S=>aC x.most (aB false KJ (fun k=>aL 17 v39 fun v40=>k v40 S) S fun v41 S=>aC x.most (aB false KJ (fun k=>aH v41 S fun Ic S=>k Ic S) S fun Id S=>aC x.most (aB false KJ (fun k=>k (.func mD [] [v0]) S) S fun v44 S=>aC x.most (aB false KJ (fun k=>x.call dM [Id,v44] S fun v45 S=>k v45 S) S fun v46 S=>aC x.most (nF false v22 v33 (fun k=>aH v31 S fun Bv _=>bH Bv v33 k) (aC x.most (nF false v22 v26 (fun k=>aH v24 S fun Jy _=>bH Jy v26 k) (aC x.most (nF false qS yH (fun k=>aH v17 S fun v49 _=>bH v49 yH k) (aC x.most (nF false v8 v12 (fun k=>aH v10 S fun v50 _=>bH v50 v12 k) (aC x.most (cK KJ (.bool true) v46 fun v51=>pA v51 (bD (.bool false) S K) (cP PP a0 fun v52=>aL 17 v52 fun v53=>aH v53 S fun v54 S=>iP 11 v0 S fun v55 S=>iP 11 v0 S fun v56 _=>bH v56 v55 (aH v53 S fun v57 _=>bH v57 v54 ((cQ 37 1 [(.int .u8 (.ofNat 0)),(.int .i64 (.ofNat 0)),(.int .i64 (.ofNat 0)),(.int .i64 (.ofNat 0)),(.int .i64 (.ofNat 0)),(.int .i64 (.ofNat 0)),(.int .i64 (.ofNat 0)),(.int .i64 (.ofNat 0)),(.int .i64 (.ofNat 0)),(.string ⟨⟨[]⟩⟩),(.slice none 0 0)] [(0,11,v55)] S fun v58 S=>True)/\(cQ 37 1 [(.int .u8 (.ofNat 0)),(.int .i64 (.ofNat 0)),(.int .i64 (.ofNat 0)),(.int .i64 (.ofNat 0)),(.int .i64 (.ofNat 0)),(.int .i64 (.ofNat 0)),(.int .i64 (.ofNat 0)),(.int .i64 (.ofNat 0)),(.int .i64 (.ofNat 0)),(.string ⟨⟨[]⟩⟩),(.slice none 0 0)] [(0,11,v55)] S fun v59 S=>sE 37 11 112 v54 v59 S fun v60 S=>cP PP a0 fun v61=>aL 17 v61 fun v62=>sU 1 v62 v60 S fun S=>bD (.bool true) S K)))))))))))))))))))))))))))))))))))))))
theorem RJ (x:VE) (a0 a1:V) (S:Hp) (K:KV):pP PP cM lK x [a0,a1] S K=EJ x a0 a1 S K:=by kernel_rfl
def AO (x:VE) (a0 a1:V) (S:Hp) (K:KV):Prop:=
 tW 37 a0 S fun v0 S=>
 iP 11 v0 S fun v1 S=>
 iP 11 a1 S fun v2 S=>
 x.call CO [v1,v2] S fun v3 S=>
 bD v3 S K
theorem NC (x:VE) (a0 a1:V) (S:Hp) (K:KV):pP PP cM mD x [a0,a1] S K=AO x a0 a1 S K:=by kernel_rfl
def UL (x:VE) (a0 a1:V) (S:Hp) (K:KV):Prop:=
 tW 37 a0 S fun v0 S=>
 tW 37 a1 S fun v1 S=>
 aL 1 v0 fun v2=>
 aH v2 S fun v3 S=>
 aL 1 v1 fun v4=>
 aH v4 S fun v5 S=>
 aE PP .eql 3 v3 v5 fun v6=>
 aC x.most (aB true v6 (fun k=>aL 3 v0 fun v7=>k v7 S) S fun v8 S=>aC x.most (aB true v6 (fun k=>aH v8 S fun v9 S=>k v9 S) S fun v10 S=>aC x.most (aB true v6 (fun k=>aL 3 v1 fun v11=>k v11 S) S fun v12 S=>aC x.most (aB true v6 (fun k=>aH v12 S fun pB S=>k pB S) S fun pU S=>aC x.most (aB true v6 (fun k=>aE PP .eql 3 v10 pU fun qS=>k qS S) S fun sV S=>aC x.most (cK v6 sV (.bool false) fun v17=>aC x.most (aB true v17 (fun k=>aL 4 v0 fun xS=>k xS S) S fun yH S=>aC x.most (aB true v17 (fun k=>aH yH S fun v20 S=>k v20 S) S fun v21 S=>aC x.most (aB true v17 (fun k=>aL 4 v1 fun v22=>k v22 S) S fun v23 S=>aC x.most (aB true v17 (fun k=>aH v23 S fun v24 S=>k v24 S) S fun v25 S=>aC x.most (aB true v17 (fun k=>aE PP .eql 3 v21 v25 fun v26=>k v26 S) S fun CP S=>aC x.most (cK v17 CP (.bool false) fun v28=>aC x.most (aB true v28 (fun k=>aL 0 v0 fun JG=>k JG S) S fun v30 S=>aC x.most (aB true v28 (fun k=>aH v30 S fun v31 S=>k v31 S) S fun v32 S=>aC x.most (aB true v28 (fun k=>aL 0 v1 fun v33=>k v33 S) S fun BV S=>aC x.most (aB true v28 (fun k=>aH BV S fun v35 S=>k v35 S) S fun KJ S=>aC x.most (aB true v28 (fun k=>aE PP .eql 5 v32 KJ fun v37=>k v37 S) S fun VF S=>aC x.most (cK v28 VF (.bool false) fun v39=>bD v39 S K))))))))))))))))))
theorem Ot (x:VE) (a0 a1:V) (S:Hp) (K:KV):pP PP cM CO x [a0,a1] S K=UL x a0 a1 S K:=by kernel_rfl
def HQ (x:VE) (a0 a1 a2 a3:V) (S:Hp) (K:KV):Prop:=
 x.call aI [a0,a1,a2,a3,(.func jM [] [])] S fun v0 S=>
 bD v0 S K
theorem XP (x:VE) (a0 a1 a2 a3:V) (S:Hp) (K:KV):pP PP cM tX x [a0,a1,a2,a3] S K=HQ x a0 a1 a2 a3 S K:=by kernel_rfl
def EK (x:VE) (a0:V) (S:Hp) (K:KV):Prop:=
 tW 25 a0 S fun v0 S=>
 aH v0 S fun v1 S=>
 aE PP .eql 25 v1 .sD fun v2=>
 aC x.most (aB false v2 (fun k=>aH v0 S fun v3 S=>k v3 S) S fun v4 S=>aC x.most (aB false v2 (fun k=>cP PP v4 fun v5=>k v5 S) S fun v6 S=>aC x.most (aB false v2 (fun k=>aL 14 v6 fun v7=>k v7 S) S fun v8 S=>aC x.most (aB false v2 (fun k=>aH v8 S fun v9 S=>k v9 S) S fun v10 S=>aC x.most (aB false v2 (fun k=>aE PP .eql 9 v10 (.str []) fun v11=>k v11 S) S fun v12 S=>aC x.most (cK v2 (.bool true) v12 fun pB=>pA pB (bD (.tuple [(.str []),(.bool false)]) S K) (aH v0 S fun pU S=>cP PP pU fun qS=>aL 14 qS fun sV=>aH sV S fun v17 S=>aH v0 S fun xS S=>aH v0 S fun yH S=>cP PP yH fun v20=>aL 0 v20 fun v21=>iP 12 v21 S fun v22 S=>aH v0 S fun v23 S=>cP PP v23 fun v24=>aL 12 v24 fun v25=>aH v25 S fun v26 S=>aH v0 S fun CP S=>cP PP CP fun v28=>aL 13 v28 fun JG=>aH JG S fun v30 S=>aE PP .add 3 v30 (.int .i64 (.ofNat 1)) fun v31=>aH v0 S fun v32 S=>cP PP v32 fun v33=>aL 17 v33 fun BV=>aH BV S fun v35 S=>x.call dP [v35] S fun KJ S=>aH v0 S fun v37 _=>bH v37 v32 (aH JG S fun VF _=>bH VF v30 (aH v0 S fun v39 _=>bH v39 CP (aH v25 S fun v40 _=>bH v40 v26 (aH v0 S fun v41 _=>bH v41 v23 (iP 12 v21 S fun Ic _=>bH Ic v22 (aH v0 S fun Id _=>bH Id yH (aH v0 S fun v44 _=>bH v44 xS (x.call aZ [KJ,(.func mE [] [v0])] S fun v45 S=>aH v0 S fun v46 _=>bH v46 v32 (aH JG S fun Bv _=>bH Bv v30 (aH v0 S fun Jy _=>bH Jy CP (aH v25 S fun v49 _=>bH v49 v26 (aH v0 S fun v50 _=>bH v50 v23 (iP 12 v21 S fun v51 _=>bH v51 v22 (aH v0 S fun v52 _=>bH v52 yH (aH v0 S fun v53 _=>bH v53 xS (iQ [(.int .u64 (.ofNat 0)),(.int .u64 (.ofNat 0)),(.int .u64 (.ofNat 0)),(.int .u64 (.ofNat 0)),(.int .i64 (.ofNat 0)),(.int .i64 (.ofNat 0)),(.int .i64 (.ofNat 0)),(.int .i64 (.ofNat 0)),(.int .i64 (.ofNat 0)),(.int .i64 (.ofNat 0)),(.int .i64 (.ofNat 0)),(.int .i64 (.ofNat 0)),(.int .i64 (.ofNat 0)),(.int .i64 (.ofNat 0)),(.string ⟨⟨[]⟩⟩),(.pointer none),(.slice none 0 0),(.slice none 0 0)] [(0,12,v22),(12,1,v26),(13,1,v31),(17,1,v45)] fun v54=>cP PP xS fun v55=>sU 18 v55 v54 S fun S=>bD (.tuple [v17,(.bool true)]) S K)))))))))))))))))))))))
theorem RK (x:VE) (a0:V) (S:Hp) (K:KV):pP PP cM rL x [a0] S K=EK x a0 S K:=by kernel_rfl
def AP (x:VE) (a0 a1:V) (S:Hp) (K:KV):Prop:=
 tW 37 a0 S fun v0 S=>
 aL 3 v0 fun v1=>
 aH v1 S fun v2 S=>
 aH a1 S fun v3 S=>
 cP PP v3 fun v4=>
 aL 13 v4 fun v5=>
 aH v5 S fun v6 S=>
 aE PP .leq 3 v2 v6 fun v7=>
 bD v7 S K
theorem ND (x:VE) (a0 a1:V) (S:Hp) (K:KV):pP PP cM mE x [a0,a1] S K=AP x a0 a1 S K:=by kernel_rfl
def kQ (x:VE) (a0 a1:V) (S:Hp) (K:KV):Prop:=
 x.call bL [a0,a1] S fun v0 S=>
 aE PP .geq 3 v0 (.int .i64 (.ofNat 0)) fun v1=>
 bD v1 S K
theorem rM (x:VE) (a0 a1:V) (S:Hp) (K:KV):pP PP cM dM x [a0,a1] S K=kQ x a0 a1 S K:=by kernel_rfl
def cA (x:VE) (m:Nat) (t0 t1 t7 t8:V) (S:Hp) (K:KV):Prop:=sL PP cM bL x [.r,.l,.r,.d] m [] [t0,t1,t7,t8] S K
def gN (x:VE) (a0 a1:V) (S:Hp) (K:KV):Prop:=
 dJ a0 fun v0=>
 cA x x.most a0 a1 v0 (.int .i64 (.ofNat 0)) S K
theorem lQ (x:VE) (a0 a1:V) (S:Hp) (K:KV):pP PP cM bL x [a0,a1] S K=gN x a0 a1 S K:=by kernel_rfl
def bZ (x:VE) (m0:Nat) (t0 t1 t7 t8:V) (S:Hp) (K:KV):Prop:=
 jC S fun S=>
 aE PP .lss 3 t8 t7 fun v0=>
 pA v0 (kX 11 t0 t8 fun v1=>iP 11 v1 S fun v2 S=>fF x t1 [v2] S fun v3 S=>pA v3 (bD t8 S K) (aE PP .add 3 t8 (.int .i64 (.ofNat 1)) fun v4=>cA x m0 t0 t1 t7 v4 S K)) (bD (.int .i64 (.negSucc 0)) S K)
theorem dB (x:VE) (m0:Nat) (t0 t1 t7 t8:V) (S:Hp) (K:KV):cA x (m0+1) t0 t1 t7 t8 S K=bZ x m0 t0 t1 t7 t8 S K:=by kernel_rfl
def cU (x:VE) (m:Nat) (t0 t1 t5 t6:V) (S:Hp) (K:KV):Prop:=sL PP cM aZ x [.r,.r,.r,.l,.r,.d] m [] [t0,t1,t5,t6] S K
def dY (x:VE) (m0:Nat) (t0 t1 t5 t6:V) (S:Hp) (K:KV):Prop:=EC PP cM aZ x [.r,.r,.r,.l,.r,.d,.d,.r,.r] [m0] [t0,t1,t5,t6] S K
def lG (x:VE) (a0 a1:V) (S:Hp) (K:KV):Prop:=
 x.call bL [a0,a1] S fun v0 S=>
 aE PP .eql 3 v0 (.int .i64 (.negSucc 0)) fun v1=>
 pA v1 (bD a0 S K) (aE PP .add 3 v0 (.int .i64 (.ofNat 1)) fun v2=>cU x x.most a0 a1 v0 v2 S K)
theorem sF (x:VE) (a0 a1:V) (S:Hp) (K:KV):pP PP cM aZ x [a0,a1] S K=lG x a0 a1 S K:=by kernel_rfl
def eQ (x:VE) (m0:Nat) (t0 t1 t5 t6:V) (S:Hp) (K:KV):Prop:=
 jC S fun S=>
 dJ t0 fun v0=>
 aE PP .lss 3 t6 v0 fun v1=>
 pA v1 (kX 11 t0 t6 fun v2=>iP 11 v2 S fun v3 S=>gZ [(.int .u8 (.ofNat 0)),(.int .i64 (.ofNat 0)),(.int .i64 (.ofNat 0)),(.int .i64 (.ofNat 0)),(.int .i64 (.ofNat 0)),(.int .i64 (.ofNat 0)),(.int .i64 (.ofNat 0)),(.int .i64 (.ofNat 0)),(.int .i64 (.ofNat 0)),(.string ⟨⟨[]⟩⟩),(.slice none 0 0)] 37 S fun v4 S=>sU 11 v4 v3 S fun S=>iP 11 v4 S fun v5 S=>fF x t1 [v5] S fun v6 S=>NX .not v6 fun v7=>pA v7 (iP 11 v4 S fun v8 S=>kX 11 t0 t5 fun v9=>sU 11 v9 v8 S fun S=>aE PP .add 3 t5 (.int .i64 (.ofNat 1)) fun v10=>dY x m0 t0 t1 v10 t6 S K) (dY x m0 t0 t1 t5 t6 S K)) (JB 37 11 t0 (some t5) none none S fun v11=>MS [(.int .u8 (.ofNat 0)),(.int .i64 (.ofNat 0)),(.int .i64 (.ofNat 0)),(.int .i64 (.ofNat 0)),(.int .i64 (.ofNat 0)),(.int .i64 (.ofNat 0)),(.int .i64 (.ofNat 0)),(.int .i64 (.ofNat 0)),(.int .i64 (.ofNat 0)),(.string ⟨⟨[]⟩⟩),(.slice none 0 0)] v11 S fun S=>JB 37 11 t0 none (some t5) none S fun v12=>bD v12 S K)
theorem iN (x:VE) (m0:Nat) (t0 t1 t5 t6:V) (S:Hp) (K:KV):cU x (m0+1) t0 t1 t5 t6 S K=eQ x m0 t0 t1 t5 t6 S K:=by kernel_rfl
def cF (x:VE) (m0:Nat) (t0 t1 t5 t6:V) (S:Hp) (K:KV):Prop:=
 jC S fun S=>
 aE PP .add 3 t6 (.int .i64 (.ofNat 1)) fun v0=>
 cU x m0 t0 t1 t5 v0 S K
theorem nJ (x:VE) (m0:Nat) (t0 t1 t5 t6:V) (S:Hp) (K:KV):BU PP cM aZ x [.r,.r,.r,.l,.r,.d,.d,.r,.r] [m0] [t0,t1,t5,t6] S K=cF x m0 t0 t1 t5 t6 S K:=by kernel_rfl
theorem gS (x:VE) (hm:x.most≠0) (m0:Nat) (t0 t1 t5 t6:V) (S:Hp) (K:KV):dY x m0 t0 t1 t5 t6 S K=cF x m0 t0 t1 t5 t6 S K:=(tP (hm:=hm) ..).trans (nJ x m0 t0 t1 t5 t6 S K)
def nO (x:VE) (a0:V) (S:Hp) (K:KV):Prop:=
 aE PP .eql 23 a0 .nil fun v0=>
 pA v0 (bD .nil S K) (cQ 37 0 [(.int .u8 (.ofNat 0)),(.int .i64 (.ofNat 0)),(.int .i64 (.ofNat 0)),(.int .i64 (.ofNat 0)),(.int .i64 (.ofNat 0)),(.int .i64 (.ofNat 0)),(.int .i64 (.ofNat 0)),(.int .i64 (.ofNat 0)),(.int .i64 (.ofNat 0)),(.string ⟨⟨[]⟩⟩),(.slice none 0 0)] [] S fun v1 S=>sE 37 11 112 v1 a0 S fun v2 S=>bD v2 S K)
theorem uV (x:VE) (a0:V) (S:Hp) (K:KV):pP PP cM dP x [a0] S K=nO x a0 S K:=by kernel_rfl
def Gn (a b:Ms):Bool:=((decide (a.fr=b.fr)&&decide (a.ht=b.ht))&&decide (a.rd=b.rd))&&decide (a.kind=b.kind)
def ZV (m:Ms):List Dt:=[.int .u8 (.ofNat m.kind),.int .i64 m.fr,.int .i64 m.to,.int .i64 m.ht,.int .i64 m.rd,.int .i64 m.vl,.int .i64 m.ep,.int .i64 m.dl,.int .i64 m.id,.str m.text,.list (m.nums.map fun n=>Dt.int .u64 (.ofNat n)) m.nums.length]
section
variable{M d:Nat}{x:VE}{S:Hp}{K:KV}{O O':Tag}{g g':Ms}
theorem aLv:gT CO=none:=rfl
theorem aIu:gT mD=none:=rfl
theorem aLw (hx:Deep PP cM gT M (d+1) x) (hK:K (.bool (Gn g g')) S):x.call CO [.agg (pC O g),.agg (pC O' g')] S K:=by
 refine hx.call aLv fun y hy=>?_;rw [Ot];unfold UL;refine mB rfl fun a ha=>?_;have iM:gA S (aR S a (.row (pC O g) 37)):= .aT ha;have ra:aR S a (.row (pC O g) 37) a=some (.row (pC O g) 37):=aD;generalize aR S a (.row (pC O g) 37)=S1 at iM ra;refine mB rfl fun b hb=>?_;have pT:gA S1 (aR S1 b (.row (pC O' g') 37)):= .aT hb;have rb:aR S1 b (.row (pC O' g') 37) b=some (.row (pC O' g') 37):=aD;have ra:=pT _ _ ra;have le:=iM.trans pT;generalize aR S1 b (.row (pC O' g') 37)=S2 at le ra rb;have a0:∀{K:KV},aH (.ptr a 0) S2 K=K (n8 g.kind) S2:=cD ra rfl;have a1:∀{K:KV},aH (.ptr a 1) S2 K=K (nz g.fr) S2:=cD ra rfl;have a3:∀{K:KV},aH (.ptr a 3) S2 K=K (nz g.ht) S2:=cD ra rfl;have a4:∀{K:KV},aH (.ptr a 4) S2 K=K (nz g.rd) S2:=cD ra rfl;have b0:∀{K:KV},aH (.ptr b 0) S2 K=K (n8 g'.kind) S2:=cD rb rfl;have b1:∀{K:KV},aH (.ptr b 1) S2 K=K (nz g'.fr) S2:=cD rb rfl;have b3:∀{K:KV},aH (.ptr b 3) S2 K=K (nz g'.ht) S2:=cD rb rfl;have b4:∀{K:KV},aH (.ptr b 4) S2 K=K (nz g'.rd) S2:=cD rb rfl;have e1:∀{k:V->Prop},aE PP .eql 3 (nz g.fr) (nz g'.fr) k=k (.bool (decide (g.fr=g'.fr))):=fun {k}=>by rw [fB]
 have e3:∀{k:V->Prop},aE PP .eql 3 (nz g.ht) (nz g'.ht) k=k (.bool (decide (g.ht=g'.ht))):=fun {k}=>by rw [fB]
 have e4:∀{k:V->Prop},aE PP .eql 3 (nz g.rd) (nz g'.rd) k=k (.bool (decide (g.rd=g'.rd))):=fun {k}=>by rw [fB]
 have e0:∀{k:V->Prop},aE PP .eql 5 (n8 g.kind) (n8 g'.kind) k=k (.bool (decide (g.kind=g'.kind))):=fun {k}=>by rw [fB];congr 2;simp;omega
 unfold Gn at hK;generalize decide (g.fr=g'.fr)=p1 at e1 hK;generalize decide (g.ht=g'.ht)=p3 at e3 hK;generalize decide (g.rd=g'.rd)=p4 at e4 hK;generalize decide (g.kind=g'.kind)=p0 at e0 hK;cases p1<;>cases p3<;>cases p4<;>cases p0<;>(repeat (first | rw [aP] | rw [aN] | rw [mW] | rw [nM] | rw [mC] | rw [gC] | rw [dO] | rw [aX] | rw [a0] | rw [a1] | rw [a3] | rw [a4] | rw [b0] | rw [b1] | rw [b3] | rw [b4] | rw [e0] | rw [e1] | rw [e3] | rw [e4] | dsimp only))<;>exact dZ le hK
theorem aIv (hx:Deep PP cM gT M (d+2) x){m:Nat} (rm:S m=some (.row (pC O' g') 37)) (hK:K (.bool (Gn g g')) S):x.call mD [.agg (pC O g),.ptr m 0] S K:=by
 refine hx.call aIu fun y hy=>?_;rw [NC];unfold AO;refine mB rfl fun a ha=>?_;have iM:gA S (aR S a (.row (pC O g) 37)):= .aT ha;have ra:aR S a (.row (pC O g) 37) a=some (.row (pC O g) 37):=aD;have rm1:=iM _ _ rm;generalize aR S a (.row (pC O g) 37)=S1 at iM ra rm1;refine jD (n:=11) (i:=a) ra rfl ?_;refine jD (n:=11) (i:=m) rm1 rfl ?_;refine aLw (d:=d) hy ?_;exact dZ iM hK
end
theorem aNt (t:Tag) (d:Dt):tO (T t d)=true:=by cases d<;>rfl
theorem vc1{v:V}{p:List V->Prop} (h:tO v=true):yW v p=p [v]:=by cases v<;>first | rfl | cases h
def qQ (v:V) (j:Nat):Prop:=match v with
 | .acc i _=>i=j
 | .pO i _ _ _ _=>i=j
 | .own i _ _ _=>i=j
 | _=>False
def BQ (vs:List V) (ds:List Dt):Prop:=∀(j:Nat) (d:Dt),ds[j]? =some d->∃t,vs[j]? =some (T t d)
inductive SL (el:TypeId) (k:Nat) (S0 S:Hp):V->List Dt->Nat->Prop
 | nil:SL el k S0 S .nil [] 0
 | acc {i n:Nat} {vs:List V} {ds:List Dt} (h0:S0 i=none) (h:S i=some (.jK vs el n)) (hl:vs.length=n*k) (hd:ds.length=n*k) (hv:BQ vs ds):SL el k S0 S (.acc i n) ds n
 | pO {i m n:Nat} {vs:List V} {ds:List Dt} (h0:S0 i=none) (h:S i=some (.jK vs el m)) (hl:vs.length=m*k) (hn:n<=m) (hd:ds.length=n*k) (hv:BQ vs ds):SL el k S0 S (.pO i m 0 n m) ds n
 | own {i:Nat} (h0:S0 i=none) (h:S i=some (.row [] el)):SL el k S0 S (.own i 0 0 0) [] 0
section
variable{el:TypeId}{k:Nat}{S0 S S':Hp}{v:V}{ds:List Dt}{n:Nat}
theorem SL.len (h:SL el k S0 S v ds n){K:V->Prop}:dJ v K=K (ni n):=by cases h<;>rfl
theorem SL.one (h:SL el k S0 S v ds n):tO v=true:=by cases h<;>rfl
theorem SL.same (h:SL el k S0 S v ds n):XD v=true:=by cases h<;>rfl
theorem SL.up (h:SL el k S0 S v ds n) (hle:gA S S'):SL el k S0 S' v ds n:=by
 cases h with
 | nil=>exact .nil
 | acc h0 h hl hd hv=>exact .acc h0 (hle _ _ h) hl hd hv
 | pO h0 h hl hn hd hv=>exact .pO h0 (hle _ _ h) hl hn hd hv
 | own h0 h=>exact .own h0 (hle _ _ h)
theorem SL.base{S1:Hp} (h:SL el k S1 S v ds n) (hle:gA S0 S1):SL el k S0 S v ds n:=by
 cases h with
 | nil=>exact .nil
 | acc h0 h hl hd hv=>exact .acc (hle.none h0) h hl hd hv
 | pO h0 h hl hn hd hv=>exact .pO (hle.none h0) h hl hn hd hv
 | own h0 h=>exact .own (hle.none h0) h
theorem SL.but (h:SL el k S0 S v ds n) (hs:∀j o,qQ v j->S j=some o->S' j=some o):SL el k S0 S' v ds n:=by
 cases h with
 | nil=>exact .nil
 | acc h0 h hl hd hv=>exact .acc h0 (hs _ _ rfl h) hl hd hv
 | pO h0 h hl hn hd hv=>exact .pO h0 (hs _ _ rfl h) hl hn hd hv
 | own h0 h=>exact .own h0 (hs _ _ rfl h)
theorem SL.set (h:SL el k S0 S v ds n){i:Nat}{o:Ob} (hi:¬qQ v i):SL el k S0 (aR S i o) v ds n:=h.but fun j p h1 h2=>by
 rw [aF (fun c:j=i=>hi (by subst c;exact h1))];exact h2
theorem SL.Vu (h:SL el k S0 S v ds n){b:Nat} (hb:S b=none):¬qQ v b:=fun e=>by
 cases h with
 | nil=>cases e
 | acc h0 h hl hd hv=>cases e;rw [hb]at h;cases h
 | pO h0 h hl hn hd hv=>cases e;rw [hb]at h;cases h
 | own h0 h=>cases e;rw [hb]at h;cases h
theorem SL.nat (h:SL el k S0 S v ds n){b:Nat}{c:V}{cs:List V}{t:TypeId} (hb:S b=some (.row (c::cs) t)):¬qQ v b:=fun e=>by
 cases h with
 | nil=>cases e
 | acc h0 h hl hd hv=>cases e;rw [h]at hb;cases hb
 | pO h0 h hl hn hd hv=>cases e;rw [h]at hb;cases hb
 | own h0 h=>cases e;rw [h]at hb;cases hb
theorem SL.at' (h:SL el k S0 S v ds n){b m:Nat}{cs:List V}{t:TypeId} (hb:S b=some (.row cs t)) (hc:cs.length=m+1):¬qQ v b:=by
 cases cs with
 | nil=>cases hc
 | cons c cs=>exact h.nat hb
theorem SL.at (h:SL el k S0 S v ds n){b:Nat} (e:qQ v b):S0 b=none/\(S b=some (.row [] el)\/∃cs m,S b=some (.jK cs el m)):=by
 cases h with
 | nil=>cases e
 | acc h0 h hl hd hv=>cases e;exact⟨h0,.inr ⟨_,_,h⟩⟩
 | pO h0 h hl hn hd hv=>cases e;exact⟨h0,.inr ⟨_,_,h⟩⟩
 | own h0 h=>cases e;exact⟨h0,.inl h⟩
def uO (us:List V) (new:List Dt):Prop:=us.length=new.length/\∀(j:Nat) (d:Dt),new[j]? =some d->∃t,us[j]? =some (T t d)
theorem uO.one{us:List V}{new:List Dt} (h:uO us new):us.all tO=true:=by
 rw [dL];intro u hu;obtain⟨j,hj,rfl⟩:=KU hu;have YH:j<new.length:=by rw [<-h.1];exact hj
 obtain⟨t,q⟩:=h.2 j _ (aS YH);rw [aS hj]at q;injection q with q;rw [q];exact aNt t _
theorem uO.nil:uO [] []:=⟨rfl,fun j d e=>by cases e⟩
theorem uO.cons{us:List V}{new:List Dt} (t:Tag) (d:Dt) (h:uO us new):uO (T t d::us) (d::new):=⟨by simp [h.1],fun j e q=>by match j with | 0=>injection q with q;subst q;exact⟨t,rfl⟩ | j+1=>exact h.2 j e q⟩
theorem uO.app{us ws:List V}{ds es:List Dt} (h:uO us ds) (g:uO ws es):uO (us++ws) (ds++es):=⟨by simp [h.1,g.1],fun j e q=>by
 have hl:=h.1;rcases yL j ds.length with hj | hj
 ·rw [fQ hj]at q
  rw [fQ (by omega)];exact h.2 j e q
 ·rw [iO hj]at q
  rw [iO (by omega),hl];exact g.2 _ e q⟩
theorem aNu (O:Tag):∀(ds:List Dt) (o:Nat),uO (Tl O o ds) ds:=by
 intro ds;induction ds with
 | nil=>intro o;exact .nil
 | cons d ds ih=>intro o;exact .cons _ d (ih _)
theorem BQ.take{vs:List V}{ds:List Dt} (h:BQ vs ds) (hl:ds.length<=vs.length):uO (vs.take ds.length) ds:=⟨by rw [iX];omega,fun j d e=>by
 obtain⟨t,q⟩:=h j d e;exact⟨t,by rw [kZ,if_pos (cZ.1 e).1];exact q⟩⟩
theorem BQ.app{vs us:List V}{ds new:List Dt} (h:BQ vs ds) (hl:vs.length=ds.length) (hu:uO us new):BQ (vs++us) (ds++new):=(uO.app ⟨hl,h⟩ hu).2
theorem BQ.aG{vs us:List V}{ds new:List Dt} (h:BQ vs ds) (hl:ds.length+us.length<=vs.length) (hu:uO us new):BQ (aG ds.length us vs) (ds++new):=fun j d e=>by
 rw [fL _ _ _ hl];have Wo:=hu.1;rcases yL j ds.length with hq | hq
 ·rw [fQ hq]at e
  rw [if_neg (by omega)];exact h j d e
 ·rw [iO hq]at e
  have:=(cZ.1 e).1;rw [if_pos (by omega)];exact hu.2 _ d e
theorem JP{o:Nat}{us vs:List V} (h:o+us.length<=vs.length):(aG o us vs).length=vs.length:=by unfold aG;simp;omega
theorem SL.src (h:SL el k S0 S v ds n){K:Nat->List V->Prop} (hk:∀us,uO us ds->K n us):HJ k v S K:=by
 cases h with
 | nil=>exact hk _ .nil
 | acc h0 h hl hd hv=>
  unfold HJ;simp only [h];exact⟨trivial,hl,hk _ ⟨hl.trans hd.symm,hv⟩⟩
 | @pO i m n vs ds h0 h hl hn hd hv=>
  have:=oQ k hn;unfold HJ;simp only [h];refine⟨trivial,?_⟩;rw [qG (by omega)];rw [DE,<-hd];exact hk _ (hv.take (by omega))
 | own h0 h=>
  unfold HJ;simp only [h];rw [qG (by simp)];rw [GG];exact hk _ .nil
theorem SL.apps (h:SL el k S0 S v ds n) (hs:gA S0 S) (hl:n<=1000000){us:List V}{new:List Dt}{m:Nat} (hm:m<1000000) (hu:uO us new) (Wo:new.length=(m+1)*k) (h1:m=0\/∀i q o c,v≠ .pO i q o n c){b:Nat} (hb:b<=200){x:V} (hx:∀{K:Nat->List V->Prop},K (m+1) us->HJ k x S K){K:KV}
 (hk:∀u S',gA S0 S'->(∀j o,S j=some o->¬qQ v j->S' j=some o)->(∀j,qQ u j->qQ v j\/S j=none)->SL el k S0 S' u (ds++new) (n+(m+1))->((∀i q o n c,v≠ .pO i q o n c)->∀i q o n c,u≠ .pO i q o n c)->K u S'):sE el k b v x S K:=by
 have aDs:us.length=(m+1)*k:=by rw [hu.1,Wo]
 have hmb:(n+(m+1))*b<=140737488355328/\n+(m+1)<=140737488355328:=by
  have:(n+(m+1))*b<=2000000*200:=Nat.mul_le_mul (by omega) hb;omega
 unfold sE;refine hx ?_;refine⟨hu.one,?_⟩;cases h with
 | nil=>
  refine⟨by simpa using hmb,fun i hi=>?_⟩;have Pu:gA S (aR S i (.jK us el (m+1))):= .aT hi;have:=hk (.acc i (m+1)) _ (hs.trans Pu) (fun q o e _=>Pu _ _ e) (fun q e=> .inr (by cases e;exact hi)) (by rw [QA,fK];exact .acc (hs.none hi) aD aDs Wo hu.2) (fun _ _ _ _ _ _ e=>by cases e);exact this
 | @acc i _ vs _ h0 h Gz hd hv=>
  simp only [h];have el1:(vs++us).length=(n+(m+1))*k:=by rw [bW,Gz,aDs,<-kJ]
  refine⟨trivial,trivial,Gz,hmb,?_⟩;have Pu:∀q o,q≠i->S q=some o->aR S i (.jK (vs++us) el (n+(m+1))) q=some o:=fun q o hq e=>by rw [aF hq];exact e
  exact hk _ _ (fun q o e=>Pu q o (fun c=>by rw [c,h0]at e;cases e) (hs _ _ e)) (fun q o e CH=>Pu q o (fun c=>CH (show i=q from c.symm)) e) (fun q e=> .inl (by cases e;exact rfl)) (.acc h0 aD el1 (by rw [bW,hd,Wo,<-kJ]) (hv.app (Gz.trans hd.symm) hu)) (fun _ _ _ _ _ _ e=>by cases e)
 | @pO i q _ vs _ h0 h Gz hn hd hv=>
  obtain rfl:m=0:=h1.resolve_right fun c=>absurd rfl (c i q 0 q);simp only [h];refine⟨trivial,trivial,hmb,fun hc=>?_,fun hc=>?_⟩
  ·have e3:=oQ k hc
   rw [kJ]at e3;have e4:0+n*k=ds.length:=by omega
   refine⟨by omega,?_⟩;have Pu:∀p o,p≠i->S p=some o->aR S i (.jK (aG (0+n*k) us vs) el q) p=some o:=fun p o hp e=>by rw [aF hp];exact e
   refine hk _ _ (fun p o e=>Pu p o (fun c=>by rw [c,h0]at e;cases e) (hs _ _ e)) (fun p o e CH=>Pu p o (fun c=>CH (show i=p from c.symm)) e) (fun p e=> .inl (by cases e;exact rfl)) (.pO h0 aD ?_ hc ?_ ?_) (fun c=>absurd rfl (c _ _ _ _ _))
   ·rw [JP (by omega)];exact Gz
   ·rw [bW,hd,Wo,<-kJ]
   ·rw [e4];exact hv.aG (by omega) hu
  ·have:n=q:=by omega
   subst this;have el1:(vs++us).length=(n+(0+1))*k:=by rw [bW,Gz,aDs,<-kJ]
   refine⟨by trivial,by trivial,by trivial,Gz,?_⟩;have Pu:∀p o,p≠i->S p=some o->aR S i (.jK (vs++us) el (n+(0+1))) p=some o:=fun p o hp e=>by rw [aF hp];exact e
   exact hk _ _ (fun p o e=>Pu p o (fun c=>by rw [c,h0]at e;cases e) (hs _ _ e)) (fun p o e CH=>Pu p o (fun c=>CH (show i=p from c.symm)) e) (fun p e=> .inl (by cases e;exact rfl)) (.acc h0 aD el1 (by rw [bW,hd,Wo,<-kJ]) (hv.app (Gz.trans hd.symm) hu)) (fun _ _ _ _ _ _ e=>by cases e)
 | @own i h0 h=>
  simp only [h];refine⟨by simpa using hmb,by simp,fun c=>absurd c (by omega),fun _ j hj=>?_⟩;have Pu:gA S (aR S j (.jK us el (0+(m+1)))):= .aT hj;have:=hk (.acc j (0+(m+1))) _ (hs.trans Pu) (fun q o e _=>Pu _ _ e) (fun q e=> .inr (by cases e;exact hj)) (by rw [QA];exact .acc (hs.none hj) aD (by rw [fK];exact aDs) (by rw [fK];exact Wo) hu.2) (fun _ _ _ _ _ _ e=>by cases e);simpa using this
theorem SL.app (h:SL el k S0 S v ds n) (hs:gA S0 S) (hl:n<=1000000){zs:List Value}{zv us:List V}{new:List Dt} (hz:IZ zs=some zv) (Ps:zv.length=k) (hu:uO us new) (Wo:new.length=k){b:Nat} (hb:b<=200){K:KV}
 (hk:∀u S',gA S0 S'->(∀j o,S j=some o->¬qQ v j->S' j=some o)->(∀j,qQ u j->qQ v j\/S j=none)->SL el k S0 S' u (ds++new) (n+1)->K u S'):cQ el 1 zs [(0,k,.agg us)] S fun v2 S=>sE el k b v v2 S K:=by
 have aDs:us.length=k:=by rw [hu.1,Wo]
 refine FR hz Ps aDs hu.one fun j hj=>?_;have De:gA S (aR S j (.row us el)):= .aT hj;have nj:=h.Vu hj;refine(h.up De).apps (m:=0) (new:=new) (hs.trans De) hl (by omega) hu (by omega) (.inl rfl) hb (fun {K} hK=>HM (m:=1) aD (by rw [Nat.one_mul];omega) hK) fun u S' e1 e2 e3 e4 _=>?_;exact hk u S' e1 (fun q o e CH=>e2 q o (De _ _ e) CH) (fun q e=>(e3 q e).elim .inl fun c=> .inr (De.none c)) e4
theorem SL.ldn (h:SL el k S0 S v ds n){i:Nat} (hi:i<n):∃us,uO us ((ds.drop (i*k)).take k)/\∀{K:KV},(kX k v (ni i) fun p=>iP k p S K)=K (.agg us) S:=by
 have hle:i*k+k<=n*k:=by
  have:=oQ k hi
  rwa [Nat.succ_mul]at this
 have part:∀{vs:List V},n*k<=vs.length->ds.length=n*k->BQ vs ds->uO ((vs.drop (i*k)).take k) ((ds.drop (i*k)).take k):=fun {vs} h1 h2 hv=>⟨by rw [iX,mO,iX,mO];omega,fun j d e=>by
  rw [kZ]at e;split at e
  ·rename_i hj
   rw [kI]at e;obtain⟨t,q⟩:=hv _ _ e;exact⟨t,by rw [kZ,if_pos hj,kI];exact q⟩
  ·cases e⟩
 cases h with
 | nil=>omega
 | own=>omega
 | @acc b _ vs _ h0 h hl hd hv=>
  refine⟨_,part (by omega) hd hv,fun {K}=>?_⟩;have e1:(kX k (.acc b n) (ni i) fun p=>iP k p S K)=(i<n/\iP k (.nZ b n (i*k)) S K):=rfl;rw [e1]
  have e2:iP k (.nZ b n (i*k)) S K=K (.agg ((vs.drop (i*k)).take k)) S:=by
   unfold iP;simp only [h];rw [qG (by omega)];simp
  rw [e2];exact propext ⟨fun q=>q.2,fun q=>⟨hi,q⟩⟩
 | @pO b m _ vs _ h0 h hl hn hd hv=>
  have:=oQ k hn;refine⟨_,part (by omega) hd hv,fun {K}=>?_⟩;have e1:(kX k (.pO b m 0 n m) (ni i) fun p=>iP k p S K)=(i<n/\iP k (.nZ b m (0+i*k)) S K):=rfl;rw [e1,fK]
  have e2:iP k (.nZ b m (i*k)) S K=K (.agg ((vs.drop (i*k)).take k)) S:=by
   unfold iP;simp only [h];rw [qG (by omega)];simp
  rw [e2];exact propext ⟨fun q=>q.2,fun q=>⟨hi,q⟩⟩
end
def pI (l:List Ms):List Dt:=l.flatMap ZV
theorem VC (m:Ms):(ZV m).length=11:=rfl
theorem zY (l:List Ms):(pI l).length=l.length*11:=by
 induction l with
 | nil=>rfl
 | cons a l ih=>show(ZV a++pI l).length=_;rw [bW,ih,VC,rZ];omega
theorem JQ (l m:List Ms):pI (l++m)=pI l++pI m:=by unfold pI;rw [Xf]
theorem XU{l:List Ms}:∀{i:Nat} {m:Ms},l[i]? =some m->((pI l).drop (i*11)).take 11=ZV m:=by
 induction l with
 | nil=>intro i m h;cases h
 | cons a l ih=>
  intro i m h;have e:pI (a::l)=ZV a++pI l:=rfl
  match i,h with
  | 0,h=>injection h with h;subst h;rw [e,GG,DE];exact List.take_left' (VC a)
  | i+1,h=>rw [e,show(i+1)*11=11+i*11 by omega,<-IH,List.drop_left' (VC a)];exact ih h
theorem XV{us:List V}{m:Ms} (h:uO us (ZV m)):∃t,us=pC t m:=by
 obtain⟨hl,h⟩:=h;have hl:us.length=11:=hl
 match us,hl with
 | [a0,a1,a2,a3,a4,a5,a6,a7,a8,a9,a10],_=>
  obtain⟨t0,e0⟩:=h 0 _ rfl;obtain⟨t1,e1⟩:=h 1 _ rfl;obtain⟨t2,e2⟩:=h 2 _ rfl;obtain⟨t3,e3⟩:=h 3 _ rfl;obtain⟨t4,e4⟩:=h 4 _ rfl;obtain⟨t5,e5⟩:=h 5 _ rfl;obtain⟨t6,e6⟩:=h 6 _ rfl;obtain⟨t7,e7⟩:=h 7 _ rfl;obtain⟨t8,e8⟩:=h 8 _ rfl;obtain⟨t9,e9⟩:=h 9 _ rfl;obtain⟨t10,e10⟩:=h 10 _ rfl;injection e0 with e0;injection e1 with e1;injection e2 with e2;injection e3 with e3;injection e4 with e4;injection e5 with e5;injection e6 with e6;injection e7 with e7;injection e8 with e8;injection e9 with e9;injection e10 with e10;subst e0 e1 e2 e3 e4 e5 e6 e7 e8 e9 e10;exact⟨t10,rfl⟩
section
variable{M d:Nat}{x:VE}{S:Hp}{K:KV}{S0:Hp}{v f:V}{l:List Ms}{p:Ms->Bool}
theorem aGc:gT bL=none:=rfl
theorem aLx:gT dM=none:=rfl
theorem aLy (hM:100000<M) (hx:Deep PP cM gT M (d+1) x) (h:SL 37 11 S0 S v (pI l) l.length) (hl:l.length<100000)
 (hf:∀y,Deep PP cM gT M d y->∀a∈l,∀t,∀K:KV,K (.bool (p a)) S->fF y f [.agg (pC t a)] S K) (hT:∀i,l.any p=true->K (ni i) S) (hF:l.any p=false->K (.int .i64 (.negSucc 0)) S):x.call bL [v,f] S K:=by
 refine hx.call aGc fun y hy=>?_;rw [lQ];unfold gN;rw [h.len,hy.most]
 have go:∀(q i k:Nat),i+q=l.length->q<k->(l.drop i).any p=l.any p->cA y k v f (ni l.length) (ni i) S K:=by
  intro q;induction q with
  | zero=>
   intro i k hi hk hE;obtain⟨k,rfl⟩:=eY (show k≠0 by omega);rw [dB];unfold bZ;refine aQ ?_;rw [mV,VB (by omega),iF];rw [Ko (by omega)]at hE;exact aJ (hF hE.symm)
  | succ q ih=>
   intro i k hi hk hE;obtain⟨k,rfl⟩:=eY (show k≠0 by omega);rw [dB];unfold bZ;refine aQ ?_;have DW:i<l.length:=by omega
   obtain⟨us,Br,Aw⟩:=h.ldn DW;rw [XU (aS DW)]at Br;obtain⟨t,rfl⟩:=XV Br;rw [mV,dlt DW,jS,Aw];refine hf y hy _ (sW DW) t _ ?_;rw [BB DW,Lc]at hE;cases e:p l[i]with
   | true=>
    rw [e]at hE;rw [jS];exact aJ (hT i hE.symm)
   | false=>
    rw [e]at hE;rw [iF,qO (by omega)];exact ih (i+1) k (by omega) (by omega) hE
 exact go l.length 0 M (by omega) (by omega) rfl
theorem aLz (hM:100000<M) (hx:Deep PP cM gT M (d+2) x) (h:SL 37 11 S0 S v (pI l) l.length) (hl:l.length<100000)
 (hf:∀y,Deep PP cM gT M d y->∀a∈l,∀t,∀K:KV,K (.bool (p a)) S->fF y f [.agg (pC t a)] S K) (hK:K (.bool (l.any p)) S):x.call dM [v,f] S K:=by
 refine hx.call aLx fun y hy=>?_;rw [rM];unfold kQ;refine aLy (d:=d) hM hy h hl hf (fun i e=>?_) (fun e=>?_)
 ·show aE PP .geq 3 (ni i) (ni 0) _
  rw [aAF,bK (mP i)];rw [e]at hK;exact aJ hK
 ·rw [nS]
  rw [e]at hK;exact aJ hK
end
def XW (ht:Int) (l:List Ms) (m:Ms):Bool:=Pm m&& !(decide (m.kind<2))&& !(decide (5<m.kind))&& !(decide (m.ht<ht))&& !(l.any fun a=>Gn a m)
section
variable{M d:Nat}{x:VE}{S:Hp}{K:KV}{S0:Hp}{l:List Ms}{O:Tag}{m:Ms}
theorem aLA:gT lK=none:=rfl
theorem aNv:PO PP 25=some .ptr:=by kernel_rfl
theorem aBR{b:Nat}{k:V->Prop}:aE PP .eql 25 (.ptr b 0) .sD k=k (.bool false):=propext ⟨fun h=>h.2.2.2.2,fun h=>⟨rfl,aNv,.inr rfl,fun e=>absurd e (by decide),h⟩⟩
theorem aIw{p:Prop}:bH (.agg (pC O m)) (.agg (pC O m)) p=p:=mZ rfl
theorem aLB (hM:100000<M) (hx:Deep PP cM gT M (d+7) x){b:Nat}{cs:List V}{ht:Int}{kv:V} (rb:S b=some (.row cs 82)) (vL:cs.length=18) (h13:cs[13]? =some (nz ht)) (h17:cs[17]? =some kv) (hb0:S0 b=none) (hs:gA S0 S) (hk:SL 37 11 S0 S kv (pI l) l.length) (hl:l.length<90000) (pS:m.kind<256)
 (hF:XW ht l m=false->K (.bool false) S)
 (hT:XW ht l m=true->∀u S',gA S0 S'->(∀j o,j≠b->S j=some o->¬qQ kv j->S' j=some o)->S' b=some (.row (cs.set 17 u) 82)->(∀j,qQ u j->qQ kv j\/S j=none)->SL 37 11 S0 S' u (pI (l++[m])) (l.length+1)->K (.bool true) S'):
 x.call lK [.ptr b 0,.agg (pC O m)] S K:=by
 refine hx.call aLA fun y hy=>?_;rw [RJ];unfold EJ;refine mB rfl fun a ha=>?_;have iM:gA S (aR S a (.row (pC O m) 37)):= .aT ha;have ra:aR S a (.row (pC O m) 37) a=some (.row (pC O m) 37):=aD;have rb1:=iM _ _ rb;have Yb:=hk.up iM;have hab:a≠b:=fun c=>by rw [c,rb]at ha;cases ha
 generalize aR S a (.row (pC O m) 37)=S1 at iM ra rb1 Yb;have lm:∀{K:KV},iP 11 (.ptr a 0) S1 K=K (.agg (pC O m)) S1:=fun {K}=>by rw [Zu ra,qG (bE rfl)];rfl
 have l0:∀{K:KV},aH (.ptr a 0) S1 K=K (n8 m.kind) S1:=cD ra rfl;have l3:∀{K:KV},aH (.ptr a 3) S1 K=K (nz m.ht) S1:=cD ra rfl;have lh:∀{K:KV},aH (.ptr b 13) S1 K=K (nz ht) S1:=cD rb1 h13;have lk:∀{K:KV},aH (.ptr b 17) S1 K=K kv S1:=cD rb1 h17;have smk:∀{p:Prop},bH kv kv p=p:=fun {p}=>mZ hk.same;have q2:∀{k:V->Prop},aE PP .lss 5 (n8 m.kind) (.int .u8 (.ofNat 2)) k=k (.bool (decide (m.kind<2))):=fun {k}=>by rw [cI];congr 2;simp;omega
 have q5:∀{k:V->Prop},aE PP .gtr 5 (n8 m.kind) (.int .u8 (.ofNat 5)) k=k (.bool (decide (5<m.kind))):=fun {k}=>by rw [nR];congr 2;simp;omega
 have qh:∀{k:V->Prop},aE PP .lss 3 (nz m.ht) (nz ht) k=k (.bool (decide (m.ht<ht))):=fun {k}=>by rw [cI]
 unfold XW at hF hT;rw [aBR];rw [aP,aN,lm];try dsimp only
 rw [aP,aN];try dsimp only
 refine aLu (d:=d) (by omega) hy pS ?_;generalize Pm m=p1 at hF hT;generalize decide (m.kind<2)=p2 at hF hT q2;generalize decide (5<m.kind)=p3 at hF hT q5;generalize decide (m.ht<ht)=p4 at hF hT qh;cases p1<;>cases p2<;>cases p3<;>cases p4<;>(repeat (first | rw [aP] | rw [aN] | rw [mW] | rw [nM] | rw [mC] | rw [gC] | rw [dO] | rw [rY] | rw [vT] | rw [yX] | rw [XJ] | rw [aX] | rw [bG] | rw [l0] | rw [l3] | rw [lh] | rw [lk] | rw [q2] | rw [q5] | rw [qh] | rw [iJ] | rw [yD] | rw [smk] | rw [fJ] | rw [fD] | dsimp only))
 all_goals first
  | (rw [jS];exact dZ iM (hF rfl))
  | skip
 refine aLz (d:=d+4) (p:=fun a=>Gn a m) (f:= .func mD [] [.ptr a 0]) hM hy Yb (by omega) (fun z hz g hg t K hK=>aIv (d:=d+2) hz ra hK) ?_;generalize (l.any fun a=>Gn a m)=p5 at hF hT;cases p5<;>(repeat (first | rw [aP] | rw [aN] | rw [mW] | rw [nM] | rw [mC] | rw [gC] | rw [dO] | rw [rY] | rw [vT] | rw [yX] | rw [XJ] | rw [aX] | rw [bG] | rw [l0] | rw [l3] | rw [lh] | rw [lk] | rw [q2] | rw [q5] | rw [qh] | rw [iJ] | rw [yD] | rw [smk] | rw [fJ] | rw [fD] | dsimp only))
 all_goals first
  | (rw [jS];exact dZ iM (hF rfl))
  | skip
 rw [iF];rw [lm,lm,aIw,lk,smk];have ts:uO (pC O m) (ZV m):= .cons O _ (.cons O _ (.cons O _ (.cons O _ (.cons O _ (.cons O _ (.cons O _ (.cons O _ (.cons O _ (.cons O _ (.cons O _ .nil))))))))));have zr:IZ [(.int .u8 (.ofNat 0)),(.int .i64 (.ofNat 0)),(.int .i64 (.ofNat 0)),(.int .i64 (.ofNat 0)),(.int .i64 (.ofNat 0)),(.int .i64 (.ofNat 0)),(.int .i64 (.ofNat 0)),(.int .i64 (.ofNat 0)),(.int .i64 (.ofNat 0)),(.string ⟨⟨[]⟩⟩),(.slice none 0 0)]=some [n8 0,ni 0,ni 0,ni 0,ni 0,ni 0,ni 0,ni 0,ni 0,.str [],.nil]:=rfl;refine⟨FR zr rfl rfl ts.one fun _ _=>trivial,?_⟩;refine Yb.app (hs.trans iM) (by omega) zr rfl ts rfl (by decide) fun u S2 aKQ kp DV sl=>?_;have nb:¬qQ kv b:=Yb.at' rb1 vL;have rb2:=kp _ _ rb1 nb;rw [bG,aX,Ig rb2 (by rw [vL];decide) sl.one];refine aJ (hT rfl u _ (fun j o e=>by rw [aF (fun c=>by rw [c,hb0]at e;cases e)];exact aKQ _ _ e) (fun j o h1 h2 h3=>by rw [aF h1];exact kp _ _ (iM _ _ h2) h3) aD (fun j hj=>(DV j hj).imp id iM.none) ?_);have e:pI (l++[m])=pI l++ZV m:=by rw [JQ];show pI l++(ZV m++[])=_;rw [vJ]
 rw [e];exact sl.set (fun c=>(DV b c).elim nb fun c=>by rw [rb1]at c;cases c)
end
theorem aBS:PO PP 23=some .slice:=by kernel_rfl
theorem aLC{v:V}{k:V->Prop} (h:TY v=some (.slice,false)) (hv:aE PP .eql 23 v .nil k=Fa PP .eql 23 v .nil k):aE PP .eql 23 v .nil k=k (.bool false):=by
 rw [hv];unfold Fa;rw [h];exact propext ⟨fun h=>h.2.2.2.2,fun h=>⟨rfl,aBS,.inr rfl,fun e=>absurd e (by decide),h⟩⟩
def zM:List Value:=[(.int .u8 (.ofNat 0)),(.int .i64 (.ofNat 0)),(.int .i64 (.ofNat 0)),(.int .i64 (.ofNat 0)),(.int .i64 (.ofNat 0)),(.int .i64 (.ofNat 0)),(.int .i64 (.ofNat 0)),(.int .i64 (.ofNat 0)),(.int .i64 (.ofNat 0)),(.string ⟨⟨[]⟩⟩),(.slice none 0 0)]
section
variable{M d:Nat}{x:VE}{S:Hp}{K:KV}{S0:Hp}{v f:V}{l:List Ms}
theorem aGd:gT dP=none:=rfl
theorem aLD:gT aZ=none:=rfl
theorem Vv (hx:Deep PP cM gT M (d+1) x) (hs:gA S0 S) (h:SL 37 11 S0 S v (pI l) l.length) (hl:l.length<1000000)
 (hK:∀u S',gA S S'->SL 37 11 S S' u (pI l) l.length->(∀i q o n c,u≠ .pO i q o n c)->K u S'):x.call dP [v] S K:=by
 refine hx.call aGd fun y hy=>?_;rw [uV];unfold nO
 have go:(cQ 37 0 zM [] S fun v1 S=>sE 37 11 112 v1 v S fun v2 S=>bD v2 S K):=by
  intro j hj;have hle:gA S (aR S j (.row [] 37)):= .aT hj;have own:SL 37 11 S (aR S j (.row [] 37)) (.own j 0 0 0) [] 0:= .own hj aD;have src:∀{K:Nat->List V->Prop},(∀us,uO us (pI l)->K l.length us)->HJ 11 v (aR S j (.row [] 37)) K:=fun {K} hK=>(h.up hle).src hK;show sE 37 11 112 (.own j 0 0 0) v (aR S j (.row [] 37)) _;cases hl0:l.length with
  | zero=>
   have e0:l=[]:=lZ hl0;subst e0;unfold sE;refine src fun us hu=>?_;exact⟨bN _,aJ (hK _ _ hle own fun _ _ _ _ _ e=>by cases e)⟩
  | succ q=>
   unfold sE;refine src fun us hu=>?_;rw [hl0];refine⟨hu.one,?_⟩;simp only [aD];refine⟨by omega,by simp,fun c=>absurd c (by omega),fun _ i hi=>?_⟩;have e2:(List.take (0*11) (List.drop 0 ([]:List V)))++us=us:=by simp
   rw [e2,show 0+(q+1)=l.length by omega];refine aJ (hK _ _ (hle.trans (.aT hi)) (.acc (hle.none hi) aD ?_ (zY l) hu.2) fun _ _ _ _ _ e=>by cases e);rw [hu.1,zY]
 have ne:∀{w:V},TY w=some (.slice,false)->(aE PP .eql 23 w .nil fun v0=>pA v0 (bD .nil S K) (cQ 37 0 zM [] S fun v1 S=>sE 37 11 112 v1 v S fun v2 S=>bD v2 S K)):=fun {w} hw=>by
  rw [aLC hw (by cases w<;>first | rfl | cases hw)];exact go
 generalize hn:l.length=n at h;generalize hd:pI l=ds at h;cases h with
 | nil=>
  have e0:l=[]:=lZ hn;subst e0;exact⟨rfl,aBS,.inr rfl,(fun _ _ e=>by cases e),aJ (hK _ _ (.refl S) .nil fun _ _ _ _ _ e=>by cases e)⟩
 | acc h0 h hl hd hv=>exact ne rfl
 | pO h0 h hl hn hd hv=>exact ne rfl
 | own h0 h=>exact ne rfl
end
structure aGk (M d:Nat) (f:V) (p:Ms->Bool) (l:List Ms) (v:V) (J:List Ms->Hp->Prop):Prop where
 ask:∀(y:VE),Deep PP cM gT M d y->∀(pre:List Ms) (a:Ms),(∃suf,l=pre++a::suf)->∀(t:Tag) (S:Hp) (K:KV),J pre S->(∀S',J (pre++[a]) S'->(∀j o,qQ v j->S j=some o->S' j=some o)->(∀r t' a',S r=some (.row (pC t' a') 37)->S' r=some (.row (pC t' a') 37))->K (.bool (p a)) S')->fF y f [.agg (pC t a)] S K
 own:∀(pre:List Ms) (S:Hp) (vs vs':List V) (n j:Nat),qQ v j->J pre S->S j=some (.jK vs 37 n)->J pre (aR S j (.jK vs' 37 n))
 new:∀(pre:List Ms) (S:Hp) (i:Nat) (o:Ob),J pre S->S i=none->J pre (aR S i o)
theorem GB{l:List Ms}{p:Ms->Bool}{j:Nat} (h:j<l.length):(l.take (j+1)).filter p=(l.take j).filter p++(if p l[j]then [l[j]]else []):=by
 rw [GE,aS h,Cj]
 congr 1
 simp only [Option.toList,VT,La]
theorem BQ.pre{vs:List V}{ds es:List Dt} (h:BQ vs (ds++es)):BQ vs ds:=fun j d e=>h j d (by rw [fQ (cZ.1 e).1];exact e)
theorem BQ.drop{vs:List V}{ds:List Dt} (h:BQ vs ds) (k:Nat):BQ (vs.drop k) (ds.drop k):=fun j d e=>by
 rw [kI]at e;obtain⟨t,q⟩:=h _ _ e;exact⟨t,by rw [kI];exact q⟩
theorem Gq (l:List Ms):∀(j:Nat),pI (l.drop j)=(pI l).drop (j*11):=by
 induction l with
 | nil=>intro j;cases j<;>rfl
 | cons a l ih=>
  intro j;cases j with
  | zero=>rw [GG];rfl
  | succ j=>
   rw [List.drop_succ_cons,ih];show _=(ZV a++pI l).drop _;rw [show(j+1)*11=11+j*11 by omega,<-IH,List.drop_left' (VC a)]
section
variable{M d:Nat}{x:VE}{S:Hp}{K:KV}{S0:Hp}{v f:V}{l:List Ms}{p:Ms->Bool}{n:Nat}{J:List Ms->Hp->Prop}
theorem aLH (hM:100000<M) (hx:Deep PP cM gT M (d+1) x) (h:SL 37 11 S0 S v (pI l) l.length) (hl:l.length<100000) (A:aGk M d f p l v J) (hJ:J [] S)
 (hT:∀i S',(hi:i<l.length)->(l.take i).filter p=[]->p l[i]=true->J (l.take (i+1)) S'->(∀j o,qQ v j->S j=some o->S' j=some o)->K (ni i) S') (hF:∀S',l.filter p=[]->J l S'->(∀j o,qQ v j->S j=some o->S' j=some o)->K (.int .i64 (.negSucc 0)) S'):x.call bL [v,f] S K:=by
 refine hx.call aGc fun y hy=>?_;rw [lQ];unfold gN;rw [h.len,hy.most]
 have go:∀(q i k:Nat) (S':Hp),i+q=l.length->q<k->(l.take i).filter p=[]->J (l.take i) S'->(∀j o,qQ v j->S j=some o->S' j=some o)->cA y k v f (ni l.length) (ni i) S' K:=by
  intro q;induction q with
  | zero=>
   intro i k S' hi hk hE hj he;obtain⟨k,rfl⟩:=eY (show k≠0 by omega);rw [dB];unfold bZ;refine aQ ?_;rw [mV,VB (by omega),iF];rw [uG (by omega)]at hE hj;exact aJ (hF S' hE hj he)
  | succ q ih=>
   intro i k S' hi hk hE hj he;obtain⟨k,rfl⟩:=eY (show k≠0 by omega);rw [dB];unfold bZ;refine aQ ?_;have DW:i<l.length:=by omega
   obtain⟨us,Br,Aw⟩:=(h.but fun j o h1 h2=>he j o h1 h2:SL 37 11 S0 S' v (pI l) l.length).ldn DW;rw [XU (aS DW)]at Br;obtain⟨t,rfl⟩:=XV Br;rw [mV,dlt DW,jS,Aw];have es:l=l.take i++l[i]::l.drop (i+1):=by rw [<-BB DW,IE]
   have et:l.take i++[l[i]]=l.take (i+1):=by rw [GE,aS DW];rfl
   refine A.ask y hy _ _ ⟨_,es⟩ t S' _ hj fun S2 Bb OO _=>?_;rw [et]at Bb;cases e:p l[i]with
   | true=>
    rw [jS];exact aJ (hT i S2 DW hE e Bb (fun j o h e=>OO j o h (he j o h e)))
   | false=>
    rw [iF,qO (by omega)];exact ih (i+1) k S2 (by omega) (by omega) (by rw [GB DW,hE,e];rfl) Bb (fun j o h e=>OO j o h (he j o h e))
 exact go l.length 0 M S (by omega) (by omega) rfl hJ (fun _ _ _ e=>e)
theorem aGl (hM:100000<M) (hx:Deep PP cM gT M (d+2) x) (h:SL 37 11 S0 S v (pI l) l.length) (hl:l.length<100000) (ha:∀i q c,v≠ .pO i q 0 l.length c) (A:aGk M d f p l v J) (A1:aGk M (d+1) f p l v J) (hJ:J [] S)
 (hK:∀u S',J l S'->(∀j,qQ u j->qQ v j)->SL 37 11 S0 S' u (pI (l.filter fun a=> !p a)) (l.filter fun a=> !p a).length->K u S'):x.call aZ [v,f] S K:=by
 refine hx.call aLD fun y hy=>?_;rw [sF];unfold lG;refine aLH (d:=d) hM hy h hl A hJ (fun i S1 hi hE hp hj he=>?_) fun S1 hE hj he=>?_
 ·rw [fB,show decide ((Int.ofNat i:Int)= .negSucc 0)=false from rfl,iF,qO (by omega),hy.most]
  generalize hd:pI l=ds at h;generalize hn:l.length=n at h ha;cases h with
  | nil=>omega
  | own h0 h=>omega
  | pO h0 h hl hn hd hv=>exact absurd rfl (ha _ _ _)
  | @acc b' _ vs _ h0 h Ac Ae hv=>
   have hlen:∀{K:V->Prop},dJ (.acc b' n) K=K (ni n):=fun {K}=>rfl
   have go:∀(q i j k:Nat) (S':Hp) (vs:List V),j+q=n->q<k->i<j->((l.take j).filter fun a=> !p a).length=i->J (l.take j) S'->S' b'=some (.jK vs 37 n)->vs.length=n*11->BQ vs (pI ((l.take j).filter fun a=> !p a))->BQ (vs.drop (j*11)) (pI (l.drop j))->
    cU y k (.acc b' n) f (ni i) (ni j) S' K:=by
    intro q;induction q with
    | zero=>
     intro i j k S' vs hj hk KE hi hJ he Ac h1 h2;obtain⟨k,rfl⟩:=eY (show k≠0 by omega);rw [iN];unfold eQ;refine aQ ?_;rw [hlen,mV,VB (by omega),iF];refine UC he (by omega) ?_;have zl:(List.replicate (n-i) [n8 0,ni 0,ni 0,ni 0,ni 0,ni 0,ni 0,ni 0,ni 0,.str [],.nil]).flatten.length=(n-i)*11:=by simp
     have e11:i*11+(n-i)*11=n*11:=by rw [<-kJ];congr 1;omega
     refine Fh (z:=[n8 0,ni 0,ni 0,ni 0,ni 0,ni 0,ni 0,ni 0,ni 0,.str [],.nil]) he rfl (by omega) (by rw [zl];omega) ?_;refine Nt aD (by omega) (by omega) ?_;rw [uG (by omega)]at hi hJ h1;refine aJ (hK _ _ (A.own _ _ _ _ _ _ rfl hJ he) (fun j e=>e) ?_);rw [hi];refine .pO h0 aD ?_ (by omega) (by rw [zY,hi]) fun j' d e=>?_
     ·rw [JP (by rw [zl];omega)];exact Ac
     ·have hlt:=(cZ.1 e).1
      rw [zY,hi]at hlt;rw [fL _ _ _ (by rw [zl];omega),if_neg (by omega)];exact h1 _ _ e
    | succ q ih=>
     intro i j k S' vs hj hk KE hi hJ he Ac h1 h2;obtain⟨k,rfl⟩:=eY (show k≠0 by omega);rw [iN];unfold eQ;refine aQ ?_;have PF:j<l.length:=by omega
     have aPz:j*11+11<=n*11:=by
      have:=oQ 11 (show j+1<=n by omega);omega
     rw [hlen,mV,dlt (by omega),jS,uU (by omega)]
     have Br:uO ((vs.drop (j*11)).take 11) (ZV l[j]):=by
      have h3:BQ (vs.drop (j*11)) (ZV l[j]++pI (l.drop (j+1))):=by
       rw [BB PF]at h2;exact h2
      exact h3.pre.take (by rw [VC,mO];omega)
     obtain⟨t,ht⟩:=XV Br
     have ld:∀{K:KV},iP 11 (.nZ b' n (j*11)) S' K=K (.agg (pC t l[j])) S':=fun {K}=>by
      unfold iP;simp only [he];rw [qG (by omega),ht];simp
     rw [ld];intro r hr;have rr:aR S' r (.row [n8 0,ni 0,ni 0,ni 0,ni 0,ni 0,ni 0,ni 0,ni 0,.str [],.nil] 37) r=some (.row [n8 0,ni 0,ni 0,ni 0,ni 0,ni 0,ni 0,ni 0,ni 0,.str [],.nil] 37):=aD;refine nG (cs:=pC t l[j]) rr rfl rfl (by rfl) ?_;rw [fG];have hrb:r≠b':=fun c=>by rw [c,he]at hr;cases hr
     have rr:aR S' r (.row (pC t l[j]) 37) r=some (.row (pC t l[j]) 37):=aD;have hJ1:=A1.new _ _ r (.row (pC t l[j]) 37) hJ hr;have Me:aR S' r (.row (pC t l[j]) 37) b'=some (.jK vs 37 n):=by rw [aF hrb.symm];exact he
     generalize aR S' r (.row (pC t l[j]) 37)=S1 at rr hJ1 Me;refine jD (n:=11) (i:=r) rr rfl ?_;have es:l=l.take j++l[j]::l.drop (j+1):=by rw [<-BB PF,IE]
     have et:l.take j++[l[j]]=l.take (j+1):=by rw [GE,aS PF];rfl
     refine A1.ask y hy _ _ ⟨_,es⟩ t S1 _ hJ1 fun S2 Bb OO hr2=>?_;rw [et]at Bb;have rr2:=hr2 _ _ _ rr;have he2:=OO b' _ rfl Me
     have hd1:BQ (vs.drop ((j+1)*11)) (pI (l.drop (j+1))):=by
      have:=h2.drop 11;rw [IH]at this;rw [Gq]at this ⊢;rw [IH]at this;rw [show(j+1)*11=j*11+11 by omega];exact this
     have hft:=GB (p:=fun a=> !p a) PF;rw [show ∀{b:Bool} {k:V->Prop},NX .not (.bool b) k=k (.bool (!b))from fun {b k}=>rfl];cases e:p l[j]with
     | true=>
      rw [e]at hft;rw [fJ];have hft:(l.take (j+1)).filter (fun a=> !p a)=(l.take j).filter fun a=> !p a:=hft.trans (vJ ((l.take j).filter fun a=> !p a));rw [iF,gS _ (by rw [hy.most];omega)];unfold cF;refine aQ ?_;rw [qO (by omega)];exact ih i (j+1) k S2 vs (by omega) (by omega) (by omega) (by rw [hft];exact hi) Bb he2 Ac (by rw [hft];exact h1) hd1
     | false=>
      rw [e]at hft;rw [fD];have hft:(l.take (j+1)).filter (fun a=> !p a)=((l.take j).filter fun a=> !p a)++[l[j]]:=hft;rw [jS];refine jD (n:=11) (i:=r) rr2 rfl ?_;rw [uU (by omega)]
      have aPA:i*11+11<=j*11:=by
       have:=oQ 11 (show i+1<=j by omega);omega
      have st:∀{k:Hp->Prop},k (aR S2 b' (.jK (aG (i*11) (pC t l[j]) vs) 37 n))->sU 11 (.nZ b' n (i*11)) (.agg (pC t l[j])) S2 k:=fun {k} hk=>by
       unfold sU;simp only [he2];exact⟨trivial,rfl,rfl,by omega,hk⟩
      refine st ?_;rw [qO (by omega),gS _ (by rw [hy.most];omega)];unfold cF;refine aQ ?_;rw [qO (by omega)];have KA:(pI ((l.take j).filter fun a=> !p a)).length=i*11:=by rw [zY,hi]
      have aPB:(pC t l[j]).length=11:=rfl;refine ih (i+1) (j+1) k _ _ (by omega) (by omega) (by omega) (by rw [hft,bW,hi];rfl) (A.own _ _ _ _ _ _ rfl Bb he2) aD (by rw [JP (by omega)];exact Ac) ?_ ?_
      ·rw [hft,JQ,<-KA]
       refine h1.aG (by omega) ?_;have:pI [l[j]]=ZV l[j]:=by show ZV l[j]++[]=_;rw [vJ]
       rw [this,<-ht];exact Br
      ·intro j' d' e'
       obtain⟨t',q'⟩:=hd1 j' d' e';refine⟨t',?_⟩;rw [kI]at q' ⊢;rw [fL _ _ _ (by omega),if_neg (by omega)];exact q'
   have hv1:=hv;rw [<-hd]at hv1;refine go (n-(i+1)) i (i+1) M S1 vs (by omega) (by omega) (by omega) ?_ hj (he b' _ rfl h) Ac ?_ ?_
   ·have:(l.take (i+1)).filter (fun a=> !p a)=l.take i:=by
     rw [GB hi,hp];show _++[]=_;rw [vJ,Ku];intro a ha;cases e:p a with
     | false=>rfl
     | true=>
      have:a∈(l.take i).filter p:=dU.2 ⟨ha,e⟩;rw [hE]at this;cases this
    rw [this,iX];omega
   ·have:(l.take (i+1)).filter (fun a=> !p a)=l.take i:=by
     rw [GB hi,hp];show _++[]=_;rw [vJ,Ku];intro a ha;cases e:p a with
     | false=>rfl
     | true=>
      have:a∈(l.take i).filter p:=dU.2 ⟨ha,e⟩;rw [hE]at this;cases this
    rw [this];have e3:pI l=pI (l.take i)++pI (l.drop i):=by rw [<-JQ,IE]
    rw [e3]at hv1;exact hv1.pre
   ·rw [Gq];exact hv1.drop _
 ·rw [fB,show decide ((.negSucc 0:Int)= .negSucc 0)=true from rfl,jS]
  have:(l.filter fun a=> !p a)=l:=by
   rw [Ku];intro a ha;cases e:p a with
   | false=>rfl
   | true=>
    have:a∈l.filter p:=dU.2 ⟨ha,e⟩;rw [hE]at this;cases this
  refine aJ (hK v S1 hj (fun j e=>e) ?_);rw [this];exact h.but fun j o h1 h2=>he j o h1 h2
end
abbrev PK:Hp:=fun _=>none
structure Bd where
 me:Int
 ht:Int
 dec:List UInt8
 qP:Option Ba
 told:List (Int×List UInt8)
 kept:List Ms
def toC (p:Int×List UInt8):List Dt:=[.int .i64 p.1,.str p.2]
def Gr (l:List (Int×List UInt8)):List Dt:=l.flatMap toC
def pJ (B:Bd) (bv tv kv:V):List V:=[nu 23,nu 11,nu 4,nu 9,ni 5,ni 4,ni 1,ni 1,ni 1,ni 1,ni 1,ni 1,nz B.me,nz B.ht,.str B.dec,bv,tv,kv]
inductive Ar (S:Hp):V->Option Ba->(Nat->Prop)->Prop
 | no:Ar S .sD none (fun _=>False)
 | is {q t m:Nat} {a:Ba} (k:zJ S q t m 124 a):Ar S (.ptr q 0) (some a) (fun j=>j=q\/j=t\/j=m)
structure Brd (S:Hp) (b:Nat) (B:Bd) (bv tv kv:V) (SB:Nat->Prop):Prop where
 row:S b=some (.row (pJ B bv tv kv) 82)
 told:SL 75 2 PK S tv (Gr B.told) B.told.length
 kept:SL 37 11 PK S kv (pI B.kept) B.kept.length
 qP:Ar S bv B.qP SB
 nb:¬SB b
 tna:∀i q o n c,tv≠ .pO i q o n c
def Own (b:Nat) (tv kv:V) (SB:Nat->Prop) (j:Nat):Prop:=j=b\/qQ tv j\/qQ kv j\/SB j
def vA (S:Hp) (b:Nat) (B:Bd) (sd:Nat->Prop):Prop:=∃bv tv kv SB,Brd S b B bv tv kv SB/\sd=Own b tv kv SB
structure Ca (sd:Nat->Prop) (S S':Hp) (KN:Nat->Prop):Prop where
 rK:∀j o,¬sd j->S j=some o->S' j=some o
 new:∀j,KN j->sd j\/S j=none
theorem Ca.refl (sd:Nat->Prop) (S:Hp):Ca sd S S sd:=⟨fun _ _ _ h=>h,fun _ h=> .inl h⟩
theorem Ca.trans{sd Vw sd2:Nat->Prop}{S S1 S2:Hp} (h:Ca sd S S1 Vw) (k:Ca Vw S1 S2 sd2):Ca sd S S2 sd2:=by
 refine⟨fun j o hn hj=>k.rK j o (fun c=>?_) (h.rK j o hn hj),fun j hj=>?_⟩
 ·rcases h.new j c with c | c
  ·exact hn c
  ·rw [hj]at c;cases c
 ·rcases k.new j hj with c | c
  ·exact h.new j c
  ·by_cases e:sd j
   ·exact .inl e
   ·right
    cases q:S j with
    | none=>rfl
    | some o=>rw [h.rK j o e q]at c;cases c
theorem Ca.le{sd:Nat->Prop}{S S1:Hp} (h:gA S S1):Ca sd S S1 sd:=⟨fun j o _ e=>h j o e,fun _ h=> .inl h⟩
section
variable{S S':Hp}{b:Nat}{B:Bd}{bv tv kv:V}{SB sd:Nat->Prop}
theorem Ar.up{o:Option Ba} (h:Ar S bv o SB) (hle:gA S S'):Ar S' bv o SB:=by
 cases h with
 | no=>exact .no
 | is k=>exact .is (k.le hle)
theorem zJ.but{q t m:Nat}{a:Ba} (k:zJ S q t m 124 a) (hs:∀j o,(j=q\/j=t\/j=m)->S j=some o->S' j=some o):zJ S' q t m 124 a:=by
 obtain⟨l0,h1,h2⟩:=k.Pi;exact⟨hs _ _ (.inl rfl) k.row,⟨l0,⟨hs _ _ (.inr (.inl rfl)) h1.row,hs _ _ (.inr (.inr rfl)) h1.map⟩,h2⟩,k.inv,k.bt,k.bm,k.tm⟩
theorem Ar.but{o:Option Ba} (h:Ar S bv o SB) (hs:∀j p,SB j->S j=some p->S' j=some p):Ar S' bv o SB:=by
 cases h with
 | no=>exact .no
 | is k=>exact .is (k.but hs)
theorem Ar.sh{o:Option Ba} (h:Ar S bv o SB){j:Nat} (hj:SB j):(∃c cs t,S j=some (.row (c::cs) t))\/∃es,S j=some (.map es):=by
 cases h with
 | no=>cases hj
 | is k=>
  obtain⟨l0,h1,h2⟩:=k.Pi;rcases hj with rfl | rfl | rfl
  ·exact .inl ⟨_,_,_,k.row⟩
  ·exact .inl ⟨_,_,_,h1.row⟩
  ·exact .inr ⟨_,h1.map⟩
theorem SL.aDw{el:TypeId}{k:Nat}{S0:Hp}{v:V}{ds:List Dt}{n:Nat} (h:SL el k S0 S v ds n){o:Option Ba} (hb:Ar S bv o SB){j:Nat} (hj:qQ v j):¬SB j:=fun c=>by
 rcases hb.sh c with ⟨a,cs,t,e⟩ | ⟨es,e⟩
 ·exact h.nat e hj
 ·rcases(h.at hj).2 with e2 | ⟨cs,m,e2⟩
  ·rw [e]at e2;cases e2
  ·rw [e]at e2;cases e2
theorem SL.ne2{el el2:TypeId}{k k2:Nat}{S0 S1:Hp}{v w:V}{ds es:List Dt}{n m:Nat} (h:SL el k S0 S v ds n) (g:SL el2 k2 S1 S w es m) (uR:el≠el2){j:Nat} (h1:qQ v j):¬qQ w j:=fun h2=>by
 rcases(h.at h1).2 with e | ⟨cs,q,e⟩<;>rcases(g.at h2).2 with e2 | ⟨cs2,q2,e2⟩<;>(rw [e]at e2;cases e2;try exact uR rfl)
theorem Brd.up (h:Brd S b B bv tv kv SB) (hle:gA S S'):Brd S' b B bv tv kv SB:=⟨hle _ _ h.row,h.told.up hle,h.kept.up hle,h.qP.up hle,h.nb,h.tna⟩
theorem Brd.some_ (h:Brd S b B bv tv kv SB){j:Nat} (hj:Own b tv kv SB j):∃o,S j=some o:=by
 rcases hj with rfl | hj | hj | hj
 ·exact⟨_,h.row⟩
 ·rcases(h.told.at hj).2 with e | ⟨_,_,e⟩<;>exact⟨_,e⟩
 ·rcases(h.kept.at hj).2 with e | ⟨_,_,e⟩<;>exact⟨_,e⟩
 ·rcases h.qP.sh hj with ⟨_,_,_,e⟩ | ⟨_,e⟩<;>exact⟨_,e⟩
theorem Brd.but (h:Brd S b B bv tv kv SB) (hs:∀j o,Own b tv kv SB j->S j=some o->S' j=some o):Brd S' b B bv tv kv SB:=
 ⟨hs _ _ (.inl rfl) h.row,h.told.but fun j o h1 h2=>hs j o (.inr (.inl h1)) h2,h.kept.but fun j o h1 h2=>hs j o (.inr (.inr (.inl h1))) h2,h.qP.but fun j o h1 h2=>hs j o (.inr (.inr (.inr h1))) h2,h.nb,h.tna⟩
theorem vA.up (h:vA S b B sd) (hle:gA S S'):vA S' b B sd:=by
 obtain⟨bv,tv,kv,SB,h1,h2⟩:=h;exact⟨bv,tv,kv,SB,h1.up hle,h2⟩
theorem Brd.setRow (h:Brd S b B bv tv kv SB){B':Bd} (e1:B'.told=B.told) (e2:B'.kept=B.kept) (e3:B'.qP=B.qP):Brd (aR S b (.row (pJ B' bv tv kv) 82)) b B' bv tv kv SB:=by
 have n1:¬qQ tv b:=h.told.nat h.row;have n2:¬qQ kv b:=h.kept.nat h.row;refine⟨aD,by rw [e1];exact h.told.set n1,by rw [e2];exact h.kept.set n2,?_,h.nb,h.tna⟩;rw [e3];exact h.qP.but fun j p h1 h2=>by rw [aF (fun c=>h.nb (by rw [<-c];exact h1))];exact h2
end
def Bd.next (B:Bd):Bd:={me:=B.me,ht:=B.ht+1,dec:=[],qP:=none,told:=[],kept:=B.kept.filter fun a=> !decide (a.ht<=B.ht)}
section
variable{M d:Nat}{x:VE}{S:Hp}{K:KV}{b:Nat}{B:Bd}{sd:Nat->Prop}
theorem aLI:gT rL=none:=rfl
theorem aIA:gT mE=none:=rfl
theorem aIB (hx:Deep PP cM gT M (d+1) x){bv tv kv:V}{i:Nat}{t:Tag}{g:Ms} (rb:S b=some (.row (pJ B bv tv kv) 82)) (ri:S i=some (.row [.ptr b 0] 25)) (hK:K (.bool (decide (g.ht<=B.ht))) S):x.call mE [.agg (pC t g),.ptr i 0] S K:=by
 refine hx.call aIA fun y hy=>?_;rw [ND];unfold AP;refine mB rfl fun a ha=>?_;have iM:gA S (aR S a (.row (pC t g) 37)):= .aT ha;have ra:aR S a (.row (pC t g) 37) a=some (.row (pC t g) 37):=aD;have rb:=iM _ _ rb;have ri:=iM _ _ ri;generalize aR S a (.row (pC t g) 37)=S1 at iM ra rb ri;have l3:∀{K:KV},aH (.ptr a 3) S1 K=K (nz g.ht) S1:=cD ra rfl;have li:∀{K:KV},aH (.ptr i 0) S1 K=K (.ptr b 0) S1:=cD ri rfl;have lb:∀{K:KV},aH (.ptr b 13) S1 K=K (nz B.ht) S1:=cD rb rfl;rw [aX,l3,li,bG,aX,lb,kS];exact dZ iM hK
theorem aGm (hM:100000<M) (hx:Deep PP cM gT M (d+4) x) (h:vA S b B sd) (hl:B.kept.length<90000) (hht:0<=B.ht/\B.ht<1000000)
 (h0:B.dec=[]->K (.tuple [.str [],.bool false]) S)
 (h1:B.dec≠[]->∀S' KN,vA S' b B.next KN->Ca sd S S' KN->K (.tuple [.str B.dec,.bool true]) S'):x.call rL [.ptr b 0] S K:=by
 obtain⟨bv,tv,kv,SB,h,rfl⟩:=h;refine hx.call aLI fun y hy=>?_;rw [RK];unfold EK;intro i hi;have iM:gA S (aR S i (.row [.ptr b 0] 25)):= .aT hi;have ri:aR S i (.row [.ptr b 0] 25) i=some (.row [.ptr b 0] 25):=aD;have g:=h.up iM;generalize aR S i (.row [.ptr b 0] 25)=S1 at iM ri g
 have ld:∀{S2:Hp},gA S1 S2->(∀{K:KV},aH (.ptr i 0) S2 K=K (.ptr b 0) S2)/\(∀{K:KV},aH (.ptr b 12) S2 K=K (nz B.me) S2)/\(∀{K:KV},aH (.ptr b 13) S2 K=K (nz B.ht) S2)/\(∀{K:KV},aH (.ptr b 14) S2 K=K (.str B.dec) S2)/\(∀{K:KV},aH (.ptr b 17) S2 K=K kv S2)/\(∀{K:KV},iP 12 (.ptr b 0) S2 K=K (.agg [nu 23,nu 11,nu 4,nu 9,ni 5,ni 4,ni 1,ni 1,ni 1,ni 1,ni 1,ni 1]) S2):=fun {S2} le=>
  ⟨cD (le _ _ ri) rfl,cD (le _ _ g.row) rfl,cD (le _ _ g.row) rfl,cD (le _ _ g.row) rfl,cD (le _ _ g.row) rfl,fun {K}=>by rw [Zu (le _ _ g.row),qG (bE rfl)];rfl⟩
 obtain⟨l0,Qa,Kf,Qb,l17,lp⟩:=ld (.refl S1);have sp:∀{p:Prop} {a:Nat},bH (.ptr a 0) (.ptr a 0) p=p:=fun {p a}=>mZ rfl;have sz:∀{p:Prop} {z:Int},bH (nz z) (nz z) p=p:=fun {p z}=>mZ rfl;have sa:∀{p:Prop},bH (.agg [nu 23,nu 11,nu 4,nu 9,ni 5,ni 4,ni 1,ni 1,ni 1,ni 1,ni 1,ni 1]) (.agg [nu 23,nu 11,nu 4,nu 9,ni 5,ni 4,ni 1,ni 1,ni 1,ni 1,ni 1,ni 1]) p=p:=fun {p}=>mZ rfl;have q9:∀{k:V->Prop},aE PP .eql 9 (.str B.dec) (.str []) k=k (.bool (decide (B.dec=[]))):=fun {k}=>rfl
 have ad:∀{k:V->Prop},aE PP .add 3 (nz B.ht) (.int .i64 (.ofNat 1)) k=k (nz (B.ht+1)):=fun {k}=>by
  rw [kU]
  congr 2
  exact wrap_small (by simp only [jZ];omega) (by simp only [jZ];omega)
 cases hd:decide (B.dec=[])with
 | true=>
  rw [hd]at q9
  repeat (first | rw [aP] | rw [aN] | rw [aBR] | rw [l0] | rw [Qb] | rw [bG] | rw [aX] | rw [q9] | rw [dO] | rw [jS] | dsimp only)
  exact dZ iM (h0 (BD hd))
 | false=>
  rw [hd]at q9
  repeat (first | rw [aP] | rw [aN] | rw [aBR] | rw [l0] | rw [Qb] | rw [Qa] | rw [Kf] | rw [l17] | rw [lp] | rw [ad] | rw [bG] | rw [aX] | rw [q9] | rw [dO] | rw [iF] | dsimp only)
  have aIC:B.dec≠[]:=KW hd;have Pw:gA PK S1:=fun j o e=>by cases e
  refine Vv (d:=d+2) hy Pw g.kept (by omega) fun u S2 pT sl nas=>?_;obtain⟨m0,m12,m13,m14,m17,mp⟩:=ld pT
  repeat (first | rw [m0] | rw [m12] | rw [m13] | rw [mp] | rw [sp] | rw [sz] | rw [sa])
  have na:∀i q c,u≠ .pO i q 0 B.kept.length c:=fun i q c=>nas _ _ _ _ _
  have ask:∀d',aGk M (d'+1) (.func mE [] [.ptr i 0]) (fun a=>decide (a.ht<=B.ht)) B.kept u fun _ S'=>gA S1 S':=fun d'=>
   ⟨fun z hz pre a _ t S' K hJ hK=>aIB (B:=B) (bv:=bv) (tv:=tv) (kv:=kv) (d:=d') hz (hJ _ _ g.row) (hJ _ _ ri) (hK S' hJ (fun _ _ _ e=>e) fun _ _ _ e=>e),
    fun pre S' vs vs' n j hj hJ he k o e=>by rw [aF (fun c=>by rw [c,(sl.at hj).1]at e;cases e)];exact hJ _ _ e,
    fun pre S' j o hJ hj=>hJ.trans (.aT hj)⟩
  refine aGl (d:=d+1) (J:=fun _ S'=>gA S1 S') hM hy sl (by omega) na (ask d) (ask (d+1)) pT fun w S3 EV DV sw=>?_;obtain⟨n0,n12,n13,n14,n17,np⟩:=ld EV
  repeat (first | rw [n0] | rw [n12] | rw [n13] | rw [np] | rw [sp] | rw [sz] | rw [sa])
  have r3:=EV _ _ g.row
  have fin:∀{k:V->Prop},k (.agg (pJ B.next .sD .nil w))->iQ [(.int .u64 (.ofNat 0)),(.int .u64 (.ofNat 0)),(.int .u64 (.ofNat 0)),(.int .u64 (.ofNat 0)),(.int .i64 (.ofNat 0)),(.int .i64 (.ofNat 0)),(.int .i64 (.ofNat 0)),(.int .i64 (.ofNat 0)),(.int .i64 (.ofNat 0)),(.int .i64 (.ofNat 0)),(.int .i64 (.ofNat 0)),(.int .i64 (.ofNat 0)),(.int .i64 (.ofNat 0)),(.int .i64 (.ofNat 0)),(.string ⟨⟨[]⟩⟩),(.pointer none),(.slice none 0 0),(.slice none 0 0)] [(0,12,.agg [nu 23,nu 11,nu 4,nu 9,ni 5,ni 4,ni 1,ni 1,ni 1,ni 1,ni 1,ni 1]),(12,1,nz B.me),(13,1,nz (B.ht+1)),(17,1,w)] k:=fun {k} hk=>by
   show uT _ _ _;refine⟨rfl,rfl,bE rfl,?_⟩;refine⟨rfl,bE rfl,rfl,bE rfl,?_⟩;show yW w _;rw [vc1 sw.one];exact⟨rfl,bE rfl,hk⟩
  refine fin ?_;rw [bG];refine nG (cs:=pJ B.next .sD .nil w) r3 ?_ rfl rfl ?_
  ·have:=sw.one
   unfold pJ;simp only [VW,List.all_nil,this];rfl
  refine aJ (h1 aIC _ (Own b .nil w fun _=>False) ⟨.sD,.nil,w,fun _=>False,⟨aD,.nil,?_,.no,(fun c=>c),fun _ _ _ _ _ e=>by cases e⟩,rfl⟩ ⟨fun j o hn e=>?_,fun j hj=>?_⟩)
  ·have:¬qQ w b:=fun c=>by have:=(sw.at c).1;rw [g.row]at this;cases this
   exact(sw.base Pw).set this
  ·rw [aF (fun c=>hn (.inl c))];exact EV _ _ (iM _ _ e)
  ·rcases hj with hj | hj | hj | hj
   ·exact .inl (.inl hj)
   ·cases hj
   ·exact .inr (iM.none (sw.at hj).1)
   ·cases hj
end
def As (l:List Int):List Dt:=l.map (Dt.int .i64)
def zvs (l:List Int):List V:=l.map (V.int .i64)
theorem aBU (l:List Int):(As l).length=l.length:=DD _
theorem aID (l:List Int):(zvs l).all tO=true:=by rw [dL];intro v hv;obtain⟨n,_,rfl⟩:=mA.1 hv;rfl
theorem aLJ (O:Tag) (l:List Int):∀o,Tl O o (As l)=zvs l:=by
 induction l with
 | nil=>intro o;rfl
 | cons a l ih=>intro o;show T (.sub O o) (.int .i64 a)::Tl O (o+1) (As l)=_;rw [ih];rfl
inductive ZC (S S':Hp):V->List Int->Prop
 | nil:ZC S S' .nil []
 | own {j:Nat}:ZC S S' (.own j 0 0 0) []
 | acc {i:Nat} {l:List Int} (h0:S i=none) (hl:0<l.length) (h:S' i=some (.jK (zvs l) 3 l.length)):ZC S S' (.acc i l.length) l
section
variable{M n:Nat}{x:VE}{S:Hp}{K:KV}
theorem aGn:gT jV=none:=rfl
theorem Kh:PO PP 33=some .slice:=by kernel_rfl
theorem aGo (hx:Deep PP cM gT M (n+1) x){O:Tag}{l:List Int} (hl:l.length<1000000) (hK:∀w S',gA S S'->ZC S S' w l->K w S'):x.call jV [.list O (As l) l.length] S K:=by
 refine hx.call aGn fun y hy=>?_;rw [CQ];unfold sM
 have rest:(cQ 3 0 [(.int .i64 (.ofNat 0))] [] S fun v1 S=>sE 3 1 8 v1 (.list O (As l) l.length) S fun v2 S=>bD v2 S K):=by
  intro j hj;have hle:gA S (aR S j (.row [] 3)):= .aT hj;show sE 3 1 8 (.own j 0 0 0) (.list O (As l) l.length) (aR S j (.row [] 3)) _;refine⟨by rw [aBU];omega,?_⟩;rw [uG (by rw [aBU];omega),aLJ];cases hl0:l.length with
  | zero=>
   have e0:l=[]:=lZ hl0;subst e0;exact⟨bN _,aJ (hK _ _ hle .own)⟩
  | succ q=>
   refine⟨aID l,?_⟩;simp only [aD];refine⟨by omega,by simp,fun c=>absurd c (by omega),fun _ i hi=>?_⟩;have e2:(List.take (0*1) (List.drop 0 ([]:List V)))++zvs l=zvs l:=by simp
   rw [e2,show 0+(q+1)=l.length by omega];exact aJ (hK _ _ (hle.trans (.aT hi)) (.acc (hle.none hi) (by omega) aD))
 cases l with
 | nil=>exact⟨Kh,aJ (hK _ _ (.refl S) .nil),rest⟩
 | cons a l=>exact⟨rfl,Kh,.inr rfl,(fun e=>by cases e),rest⟩
end
section
variable{M n:Nat}{x:VE}{S S0:Hp}{K:KV}{w:V}{l:List Int}
theorem aIE (hx:Deep PP cM gT M (n+1) x) (h:ZC S0 S w l) (hs:gA S0 S) (hl:l.length<1000000) (hK:∀S',gA S0 S'->ZC S0 S' w (sR l)->(∀j,(∀m,w≠ .acc j m)->S' j=S j)->K (.tuple []) S'):x.call oA [w] S K:=by
 have e0:sR []=[]:=by unfold sR;simp
 cases h with
 | nil=>exact hx.GL (g:=Gp) rfl (.inl ⟨rfl,hK S hs (by rw [e0];exact .nil) fun _ _=>rfl⟩)
 | @own j=>exact hx.GL (g:=Gp) rfl (.inr (.inl ⟨j,0,0,rfl,hK S hs (by rw [e0];exact .own) fun _ _=>rfl⟩))
 | @acc i _ h0 hp h=>
  refine hx.GL (g:=Gp) rfl (.inr (.inr ⟨i,l,rfl,hp,h,hl,hK _ (fun q o e=>?_) ?_ fun q hq=>aF fun c=>by subst c;exact hq _ rfl⟩))
  ·rw [aF (fun c=>by rw [c,h0]at e;cases e)];exact hs q o e
  ·have el:(sR l).length=l.length:=EA l
   have:=ZC.acc (l:=sR l) h0 (by omega) (S':=aR S i (.jK (zvs (sR l)) 3 l.length)) (by rw [el];exact aD);rw [el]at this;exact this
end
theorem aIF (zs:List Int) (j:Nat):∀m,(dq zs (j+m)).length<=(dq zs j).length+m:=by
 intro m;induction m with
 | zero=>exact bN _
 | succ m ih=>
  show(if kp zs (j+m)then dq zs (j+m)++[zs.getD (j+m) 0]else dq zs (j+m)).length<=_;split
  ·rw [bW];simp;omega
  ·omega
section
variable{x:VE}{K:KV}{zs:List Int}{i n:Nat}{S':Hp}
theorem aLK (hn:zs.length=n) (hM:n<x.most) (hb:n<1000000000) (hs:S' i=none) (hk:(dd zs).length≠n->∀O,K (.list O (pV (dd zs)) (dd zs).length) S'){S:Hp} (hle:gA S' S) (hi:S i=some (.jK (ints zs) 3 n)) (tC:(dd zs).length=n->K (.acc i n) S):
 ∀(m k:Nat),1<=k->k<=n->n<=k+m->dq zs k=zs.take k->dR x (m+1) (.acc i n) (.int .i64 (.ofNat k)) S K:=by
 have fin:∀k,n=k->dq zs k=zs.take k->bD (.acc i n) S K:=by
  intro k h1 h2;subst h1;have e4:dd zs=zs:=by unfold dd;rw [hn,h2,<-hn,VQ]
  exact aJ (tC (by rw [e4];exact hn))
 intro m;induction m with
 | zero=>
  intro k h1 h2 h3 h4;rw [fI];unfold dH;refine aQ ?_;rw [yY,cI,bR,if_neg (by simp;omega)];exact fin k (by omega) h4
 | succ m ih=>
  intro k h1 h2 h3 h4;rw [fI];unfold dH;refine aQ ?_;rw [yY,cI,bR];by_cases hlt:k<n
  ·rw [if_pos (by simp;omega),uU hlt]
   refine Fg hi (yC (by omega)) ?_;rw [gQ,aAs (by omega) (by omega),uU (by omega)];refine Fg hi (yC (by omega)) ?_;rw [fB,bR,sA,sA];have hz:¬k=0:=by omega
   by_cases hd:zs.getD k 0=zs.getD (k-1) 0
   ·rw [if_pos (by simp only [hd];simp)]
    refine UC hi hlt ?_;obtain⟨p,hp⟩:=eY (show x.most≠0 by omega);rw [hp];have e5:dq zs (k+1)=zs.take k:=(Pe (by omega) hd).trans h4;have e6:(dq zs (k+1)).length=k:=by rw [e5,iX];omega
    have e7:(dd zs).length≠n:=by
     have:=aIF zs (k+1) (n-(k+1));rw [show k+1+(n-(k+1))=zs.length by omega]at this;unfold dd;omega
    exact aJm hn hM hb hs (hk e7) (m+1) h1 p 1 k S zs hle hi hn (bN _) (by omega) (by omega) e6.symm (by omega) e5.symm rfl
   ·rw [if_neg (by rw [bM hd];simp),kU,MU (by omega)]
    refine ih (k+1) (by omega) (by omega) (by omega) ?_;rw [aAr hd,GE,aS (by omega),h4,NL (by omega)];rfl
  ·rw [if_neg (by simp;omega)]
   exact fin k (by omega) h4
end
section
variable{M d i n:Nat}{x:VE}{S S':Hp}{K:KV}{zs:List Int}
theorem aIG:gT aU=none:=rfl
theorem aAI (hx:Deep PP cM gT M (d+1) x) (hn:zs.length=n) (hM:n<M) (hb:n<1000000000) (hs:S' i=none) (hle:gA S' S) (h1:2<=n) (hi:S i=some (.jK (ints zs) 3 n)) (hk:(dd zs).length≠n->∀O,K (.list O (pV (dd zs)) (dd zs).length) S') (tC:(dd zs).length=n->K (.acc i n) S):x.call aU [.acc i n] S K:=by
 refine hx.call aIG fun y hy=>?_;rw [mF];unfold iT;have hm:y.most=M:=hy.most;rw [yY,cI,bR]
 have one:dq zs 1=zs.take 1:=by
  cases zs with
  | nil=>simp at hn;omega
  | cons a l=>rfl
 rw [if_neg (by simp;omega)];obtain⟨p,hp⟩:=eY (show y.most≠0 by omega);rw [hp];exact aLK hn (by omega) hb hs hk hle hi tC p 1 (bN _) (by omega) (by omega) one
end
def GC (l:List Int):Bool:=decide (l.length=4)&&(decide ((dd (sR l)).length=4)&&(decide (1<=(sR l).getD 0 0)&&decide ((sR l).getD 3 0<=5)))
section
variable{M d:Nat}{x:VE}{S:Hp}{K:KV}{b:Nat}{B:Bd}{bv tv kv:V}
theorem Vx:gT mM=none:=rfl
theorem Vy (hM:100000<M) (hx:Deep PP cM gT M (d+2) x){O:Tag}{l:List Int} (hl:l.length<100000) (rb:S b=some (.row (pJ B bv tv kv) 82)) (hK:K (.bool (GC l)) S):x.call mM [.ptr b 0,.list O (As l) l.length] S K:=by
 refine hx.call Vx fun y hy=>?_;rw [HR];unfold wF;refine aGo hy (by omega) fun w S2 pT hw=>?_;refine aIE hy hw pT (by omega) fun S3 EV hw3 _=>?_;have rb3:=EV _ _ rb;have l5:∀{K:KV},aH (.ptr b 5) S3 K=K (ni 4) S3:=cD rb3 rfl;have l4:∀{K:KV},aH (.ptr b 4) S3 K=K (ni 5) S3:=cD rb3 rfl;have l5':∀{K:KV},aH (.ptr b 5) S K=K (ni 4) S:=cD rb rfl;have si:∀{p:Prop} {n:Nat},bH (ni n) (ni n) p=p:=fun {p n}=>mZ rfl;rw [show ∀k:V->Prop,dJ (.list O (As l) l.length) k=k (ni l.length)from fun _=>rfl,bG,aX,aX,l5,vU];by_cases e:l.length=4
 ·have es:(sR l).length=4:=by rw [EA];exact e
  have ec:GC l=(decide ((dd (sR l)).length=4)&&(decide (1<=(sR l).getD 0 0)&&decide ((sR l).getD 3 0<=5))):=by unfold GC;rw [bK e];rfl
  rw [ec]at hK;rw [bK e]
  repeat (first | rw [aP] | rw [aN] | rw [bG] | rw [aX] | rw [l5] | dsimp only)
  generalize sR l=zs at hw3 es hK;cases hw3 with
  | nil=>simp at es
  | own=>simp at es
  | @acc i _ h0 hp h=>
   refine aAI (d:=d) (zs:=zs) (n:=zs.length) (S':=S) hy rfl (by omega) (by omega) h0 EV (by omega) h (fun e2 t2=>?_) fun e2=>?_
   ·rw [bM (by omega:¬(dd zs).length=4),Cl]at hK
    have g5:∀{k:V->Prop},dJ (.list t2 (pV (dd zs)) (dd zs).length) k=k (ni (dd zs).length):=fun {k}=>rfl;have q5:∀{t:TypeId} {k:V->Prop},aE PP .eql t (ni (dd zs).length) (ni 4) k=k (.bool false):=fun {t k}=>by rw [vU,bM (by omega)]
    repeat (first | rw [aP] | rw [aN] | rw [rY] | rw [vT] | rw [mW] | rw [gC] | rw [dO] | rw [si] | rw [l5'] | rw [g5] | rw [q5] | dsimp only)
    exact aJ hK
   ·rw [bK (by omega:(dd zs).length=4),QD]at hK
    have hz:zs.length=4:=es;have g5:∀{k:V->Prop},dJ (.acc i zs.length) k=k (ni 4):=fun {k}=>by rw [hz];rfl
    have q5:∀{t:TypeId} {k:V->Prop},aE PP .eql t (ni 4) (ni 4) k=k (.bool true):=fun {t k}=>by rw [vU];rfl
    have at_:∀(p:Nat),p<4->∀{K:KV},aH (.nZ i zs.length (p*1)) S3 K=K (nz (zs.getD p 0)) S3:=fun p hp {K}=>by
     unfold aH;simp only [h];have:=yC (l:=zs) (p:=p) (by omega);rw [lJ (show(zvs zs)[p*1]? =some (nz (zs.getD p 0))by rw [sA];exact this)];exact propext ⟨fun q=>q.2,fun q=>⟨trivial,q⟩⟩
    have a0:∀{K:KV},aH (.nZ i zs.length (0*1)) S3 K=K (nz (zs.getD 0 0)) S3:=at_ 0 (by omega);have a3:∀{K:KV},aH (.nZ i zs.length (3*1)) S3 K=K (nz (zs.getD 3 0)) S3:=at_ 3 (by omega);have x0:∀{k:V->Prop},kX 1 (.acc i zs.length) (.int .i64 (.ofNat 0)) k=k (.nZ i zs.length (0*1)):=fun {k}=>uU (by omega);have x3:∀{k:V->Prop},kX 1 (.acc i zs.length) (ni 3) k=k (.nZ i zs.length (3*1)):=fun {k}=>uU (by omega);have s1:∀{t:TypeId} {k:V->Prop},aE PP .sub t (ni 4) (.int .i64 (.ofNat 1)) k=k (ni 3):=fun {t k}=>by rw [gQ];rfl
    have c0:∀{t:TypeId} {k:V->Prop},aE PP .geq t (nz (zs.getD 0 0)) (.int .i64 (.ofNat 1)) k=k (.bool (decide (1<=zs.getD 0 0))):=fun {t k}=>by rw [nS];rfl
    have c3:∀{t:TypeId} {k:V->Prop},aE PP .leq t (nz (zs.getD 3 0)) (ni 5) k=k (.bool (decide (zs.getD 3 0<=5))):=fun {t k}=>by rw [kS];rfl
    generalize decide (1<=zs.getD 0 0)=p0 at hK c0;generalize decide (zs.getD 3 0<=5)=p3 at hK c3;cases p0<;>(repeat (first | rw [aP] | rw [aN] | rw [rY] | rw [vT] | rw [mW] | rw [gC] | rw [dO] | rw [bG] | rw [aX] | rw [si] | rw [l5] | rw [l4] | rw [g5] | rw [q5] | rw [x0] | rw [x3] | rw [a0] | rw [a3] | rw [s1] | rw [c0] | rw [c3] | dsimp only))<;>exact dZ EV hK
 ·have ec:GC l=false:=by unfold GC;rw [bM e];rfl
  rw [ec]at hK;rw [bM e]
  repeat (first | rw [aP] | rw [mW] | rw [dO] | rw [vT] | rw [si] | rw [l5] | dsimp only)
  exact dZ EV hK
def uP (l:List Int) (z:Int):Int:=match l.findIdx? (fun a=>decide (z=a))with
 | some i=> .ofNat i
 | none=> .negSucc 0
theorem aLL:gT dN=none:=rfl
theorem aAJ (hx:Deep PP cM gT M (d+1) x){O:Tag}{l:List Int} (hl:l.length<M) (Gz:l.length<1000000000){z:Int} (hK:K (nz (uP l z)) S):x.call dN [.list O (As l) l.length,nz z] S K:=by
 refine hx.call aLL fun y hy=>?_;rw [CR];unfold sN;rw [show ∀k:V->Prop,dJ (.list O (As l) l.length) k=k (ni l.length)from fun _=>rfl,hy.most]
 have go:∀(q i k:Nat),i+q=l.length->q<k->(l.take i).any (fun a=>decide (z=a))=false->gJ y k (.list O (As l) l.length) (nz z) (ni l.length) (ni i) S K:=by
  intro q;induction q with
  | zero=>
   intro i k hi hk hE;obtain⟨k,rfl⟩:=eY (show k≠0 by omega);rw [oO];unfold kC;refine aQ ?_;rw [mV,VB (by omega),iF];rw [uG (by omega)]at hE
   have:uP l z= .negSucc 0:=by
    unfold uP;rw [List.findIdx?_eq_none_iff.2 (fun a ha=>by simpa using(Kw.1 hE a ha))]
   rw [this]at hK;exact aJ hK
  | succ q ih=>
   intro i k hi hk hE;obtain⟨k,rfl⟩:=eY (show k≠0 by omega);rw [oO];unfold kC;refine aQ ?_;have DW:i<l.length:=by omega
   rw [mV,dlt DW,jS,RD DW,ZE,sA];have:(As l)[i]? =some (.int .i64 l[i]):=by unfold As;rw [lA,aS DW];rfl
   rw [lJ this];show aE PP .eql 3 (nz z) (nz l[i]) _;rw [fB];by_cases e:z=l[i]
   ·rw [bK e,jS]
    have:uP l z= .ofNat i:=by
     unfold uP
     rw [Kj.2 ⟨DW,by simpa using e,fun j hj=>by
      have:=Kw.1 hE l[j] (by rw [List.mem_take_iff_getElem];exact⟨j,by omega,rfl⟩);simpa using this⟩]
    rw [this]at hK;exact aJ hK
   ·rw [bM e,iF,qO (by omega)]
    refine ih (i+1) k (by omega) (by omega) ?_;rw [GE,aS DW,List.any_append,hE];simp [e]
 exact go l.length 0 M (by omega) (by omega) rfl
end
def iC (x:VE) (m:Nat) (t0 t2 t8 t37 t38 t39:V) (S:Hp) (K:KV):Prop:=sL PP cM oB x [.r,.r,.r,.r,.l,.r,.d] m [] [t0,t2,t8,t37,t38,t39] S K
def EM (x:VE) (a0 a1 a2:V) (S:Hp) (K:KV):Prop:=
 cP PP a0 fun v0=>
 aL 16 v0 fun v1=>
 aH v1 S fun v2 S=>
 x.call bC [v2,a1,(.func iB [] [])] S fun v3 S=>
 pY 0 v3 fun v4=>
 pY 1 v3 fun v5=>
 pA v5 (bD (.tuple []) S K) (cP PP a0 fun v6=>aL 16 v6 fun v7=>aH v7 S fun v8 S=>iQ [(.int .i64 (.ofNat 0)),(.string ⟨⟨[]⟩⟩)] [(0,1,a1),(1,1,a2)] fun v9=>cQ 75 1 [(.int .i64 (.ofNat 0)),(.string ⟨⟨[]⟩⟩)] [(0,2,v9)] S fun v10 S=>x.call kO [v8,v4,v10] S fun v11 S=>cP PP a0 fun v12=>aL 16 v12 fun pB=>sU 1 pB v11 S fun S=>cP PP a0 fun pU=>aL 16 pU fun qS=>aH qS S fun sV S=>dJ sV fun v17=>iC x x.most a0 a2 (.int .i64 (.ofNat 0)) sV v17 (.int .i64 (.ofNat 0)) S K)
theorem RN (x:VE) (a0 a1 a2:V) (S:Hp) (K:KV):pP PP cM oB x [a0,a1,a2] S K=EM x a0 a1 a2 S K:=by kernel_rfl
def nK (x:VE) (m0:Nat) (t0 t2 t8 t37 t38 t39:V) (S:Hp) (K:KV):Prop:=
 jC S fun S=>
 aE PP .lss 3 t39 t38 fun v0=>
 pA v0 (kX 2 t37 t39 fun v1=>iP 2 v1 S fun v2 S=>gZ [(.int .i64 (.ofNat 0)),(.string ⟨⟨[]⟩⟩)] 75 S fun v3 S=>sU 2 v3 v2 S fun S=>aL 1 v3 fun v4=>aH v4 S fun v5 S=>aE PP .eql 9 v5 t2 fun v6=>pA v6 (aE PP .add 3 t8 (.int .i64 (.ofNat 1)) fun v7=>aE PP .add 3 t39 (.int .i64 (.ofNat 1)) fun v8=>iC x m0 t0 t2 v7 t37 t38 v8 S K) (aE PP .add 3 t39 (.int .i64 (.ofNat 1)) fun v9=>iC x m0 t0 t2 t8 t37 t38 v9 S K)) (cP PP t0 fun v10=>aL 0 v10 fun v11=>aL 6 v11 fun v12=>aH v12 S fun pB S=>aE PP .gtr 3 t8 pB fun pU=>pA pU (cP PP t0 fun qS=>aL 14 qS fun sV=>sU 1 sV t2 S fun S=>bD (.tuple []) S K) (bD (.tuple []) S K))
theorem sO (x:VE) (m0:Nat) (t0 t2 t8 t37 t38 t39:V) (S:Hp) (K:KV):iC x (m0+1) t0 t2 t8 t37 t38 t39 S K=nK x m0 t0 t2 t8 t37 t38 t39 S K:=by kernel_rfl
def AS (x:VE) (a0 a1:V) (S:Hp) (K:KV):Prop:=
 tW 75 a0 S fun v0 S=>
 aL 0 v0 fun v1=>
 aH v1 S fun v2 S=>
 aE PP .sub 3 v2 a1 fun v3=>
 bD v3 S K
theorem NF (x:VE) (a0 a1:V) (S:Hp) (K:KV):pP PP cM iB x [a0,a1] S K=AS x a0 a1 S K:=by kernel_rfl
def aW (x:VE) (m:Nat) (t0 t1 t2 t8 t9 t10:V) (S:Hp) (K:KV):Prop:=sL PP cM bC x [.r,.r,.r,.l,.d] m [] [t0,t1,t2,t8,t9,t10] S K
def fP (x:VE) (a0 a1 a2:V) (S:Hp) (K:KV):Prop:=
 dJ a0 fun v0=>
 aW x x.most a0 a1 a2 v0 (.int .i64 (.ofNat 0)) v0 S K
theorem mG (x:VE) (a0 a1 a2:V) (S:Hp) (K:KV):pP PP cM bC x [a0,a1,a2] S K=fP x a0 a1 a2 S K:=by kernel_rfl
def cH (x:VE) (m0:Nat) (t0 t1 t2 t8 t9 t10:V) (S:Hp) (K:KV):Prop:=
 jC S fun S=>
 aE PP .lss 3 t9 t10 fun v0=>
 pA v0 (aE PP .add 3 t9 t10 fun v1=>GK .u64 v1 fun v2=>aE PP .shr 40 v2 (.int .u64 (.ofNat 1)) fun v3=>GK .i64 v3 fun v4=>kX 2 t0 v4 fun v5=>iP 2 v5 S fun v6 S=>fF x t2 [v6,t1] S fun v7 S=>aE PP .lss 3 v7 (.int .i64 (.ofNat 0)) fun v8=>pA v8 (aE PP .add 3 v4 (.int .i64 (.ofNat 1)) fun v9=>aW x m0 t0 t1 t2 t8 v9 t10 S K) (aW x m0 t0 t1 t2 t8 t9 v4 S K)) (aE PP .lss 3 t9 t8 fun v10=>aC x.most (aB true v10 (fun k=>k t2 S) S fun v11 S=>aC x.most (aB true v10 (fun k=>k t0 S) S fun v12 S=>aC x.most (aB true v10 (fun k=>k t9 S) S fun pB S=>aC x.most (aB true v10 (fun k=>kX 2 v12 pB fun pU=>k pU S) S fun qS S=>aC x.most (aB true v10 (fun k=>iP 2 qS S fun sV S=>k sV S) S fun v17 S=>aC x.most (aB true v10 (fun k=>k t1 S) S fun xS S=>aC x.most (aB true v10 (fun k=>fF x v11 [v17,xS] S fun yH S=>k yH S) S fun v20 S=>aC x.most (aB true v10 (fun k=>aE PP .eql 3 v20 (.int .i64 (.ofNat 0)) fun v21=>k v21 S) S fun v22 S=>aC x.most (cK v10 v22 (.bool false) fun v23=>bD (.tuple [t9,v23]) S K))))))))))
theorem eS (x:VE) (m0:Nat) (t0 t1 t2 t8 t9 t10:V) (S:Hp) (K:KV):aW x (m0+1) t0 t1 t2 t8 t9 t10 S K=cH x m0 t0 t1 t2 t8 t9 t10 S K:=by kernel_rfl
end Go.Am
