/- A ballot, as it is meant: rules on plain data. -/
import Derived.Test.YtpcbceaggaddfaaGreatDoorGe
import Derived.Test.YtpcbceaggaddfaaGreatDoorGd

noncomputable section
set_option maxRecDepth 100000
set_option linter.unusedVariables false
namespace Go.Am
variable{ov:Qj}{M n b t:Nat}{x:VE}{S:Hp}{K:KV}{s:Bs}{ty:TypeId}
def EK(tx:List UInt8)(r now:Int):Bool:=decide (tx.length<=2048)&&decide (-1<=r)&&decide (r<=now)&&decide (decide (tx=[])=decide (r= -1))
theorem aEq:Ic PP 4=true:=by kernel_rfl
theorem Qw{P:Program}{t:TypeId}{x y:Bool}{K:V->Prop}(h:Ic P t=true):aD P .eql t (.bool x) (.bool y) K=K (.bool (decide (x=y))):=by simp [aD,aEd,h]
theorem aEr(hf:ov vG=none)(hx:Deep PP fT ov M (n+1) x){tx:List UInt8}{r now:Int}(hk:K (.bool (EK tx r now)) S):x.call vG [.str tx,.int .i64 r,.int .i64 now] S K:=by
 refine hx.call hf λy hy=>?_;rw [Mo];unfold RR rW BD gQ;have fin:∀{bb:Bool},EK tx r now=bb->aQ (.bool bb) S K:=λe=>aF (by rw [<-e];exact hk);simp only [CQ,yR,aL];by_cases c1:tx.length<=2048
 ·simp only [show decide (Int.ofNat tx.length<=Int.ofNat 2048)=true from aU (by simp;omega),aI,kG,aX,if_true]
  by_cases c2: -1<=r
  ·simp only [show decide (Int.negSucc 0<=r)=true from aU c2,aI,yR,aX,if_true]
   by_cases c3:r<=now
   ·simp only [aU c3,aI,tK,cV,Qw aEq,if_true]
    refine fin ?_;have:(decide (r= -1))=decide (r=Int.negSucc 0):=rfl;simp [EK,c1,c2,c3,this]
   ·simp only [aR c3,qC,bQ,if_false]
    refine fin ?_;simp [EK,c3]
  ·simp only [show decide (Int.negSucc 0<=r)=false from aR c2,qC,aX,bQ,if_false]
   refine fin ?_;simp [EK,c2]
 ·simp only [show decide (Int.ofNat tx.length<=Int.ofNat 2048)=false from aR (by simp;omega),qC,aX,bQ,if_false]
  refine fin ?_;simp [EK,c1]
theorem EL:RA PP 80=some .ptr:=by kernel_rfl
theorem aNg(hf:ov kH=none)(hx:Deep PP fT ov M (n+1) x)(hb:S b=some (.row (lM s t) ty))(hk:K (.tuple [.str s.dec,.bool (!decide (s.dec=[]))]) S):x.call kH [.ptr b 0] S K:=by
 refine hx.call hf λy hy=>?_;rw [RM];unfold DK gG gM;refine JD EL ?_;rw [bG,if_neg (by simp),aV,gW,gW];refine kN hb rfl ?_;rw [aV,gW,gW];refine kN hb rfl ?_;rw [LO];exact aF hk
structure Mg where
 kd:Nat
 h:Int
 r:Int
 vl:Int
 tx:List UInt8
structure Ba where
 s:Bs
 l:List Vo
abbrev R3:=Ba×List Mg×Bool
namespace Ba
def put(a:Ba)(v:Vo):Ba:=if a.s.takes a.l v then⟨a.s,Hc v a.l⟩else a
def to(a:Ba)(z:Int):Ba:=⟨{a.s with st:=z,LY:=0},a.l⟩
def gP(a:Ba)(r:Int):Ba:=⟨{a.s with st:=1,LY:=0,rd:=r,prop:=false,seen:=false},a.l⟩
def say(a:Ba)(k:Nat)(vl:Int)(tx:List UInt8):Ba×List Mg:=(a.put ⟨a.s.me,a.s.rd,k,vl,tx⟩,[⟨k,a.s.h,a.s.rd,vl,tx⟩])
def pr(a:Ba)(r:Int):Option Vo:=a.l.find? λv=>v.at r (a.s.pro r) 2
def zD(a:Ba)(r:Int)(k:Nat)(tx:List UInt8):Nat:=Hd (λv=>decide (v.rd=r)&&decide (v.kd=k)&&decide (v.tx=tx)) a.s.n.toNat a.l
def all(a:Ba)(r:Int)(k:Nat):Nat:=Hd (λv=>decide (v.rd=r)&&decide (v.kd=k)) a.s.n.toNat a.l
def aM6(a:Ba)(r:Int):Nat:=Hd (λv=>decide (v.rd=r)) a.s.n.toNat a.l
def IC(a:Ba)(r:Int)(k:Nat)(tx:List UInt8):Bool:=decide (a.s.n-a.s.t<=(a.zD r k tx:Int))
def rounds(a:Ba):List Int:=dd (a.l.map (·.rd))
def no(a:Ba):R3:=(a,[],false)
def yes(p:Ba×List Mg):R3:=(p.1,p.2,true)
def BM(a:Ba)(r:Int):Option (List UInt8):=match a.pr r with
 | some v=>if a.IC r 4 v.tx then some v.tx else none
 | none=>none
def xP(a:Ba):R3:=match a.rounds.findSome? a.BM with
 | some tx=>(⟨{a.s with dec:=tx},a.l⟩,[],true)
 | none=>a.no
def AU(a:Ba)(r:Int):Bool:=decide (a.s.rd<r)&&decide (a.s.t<(a.aM6 r:Int))
def skip(a:Ba):R3:=match a.rounds.reverse.find? a.AU with
 | some r=>(a.gP r,[],true)
 | none=>a.no
def lZ(a:Ba)(tx:List UInt8)(free:Bool):Ba×List Mg:=(a.to 2).say 3 0 (if !free&& !decide (a.s.lock=tx)then []else tx)
def fresh(a:Ba)(may:List (List UInt8)):R3:=match a.pr a.s.rd with
 | some v=>if decide (a.s.st=1)&&decide (v.vl= -1)&&may.contains v.tx then yes (a.lZ v.tx (decide (a.s.lock=[])))else a.no
 | none=>a.no
def old(a:Ba):R3:=match a.pr a.s.rd with
 | some v=>if decide (a.s.st=1)&& !decide (v.vl= -1)&&a.IC v.vl 3 v.tx then yes (a.lZ v.tx (decide (a.s.yZ<=v.vl)))else a.no
 | none=>a.no
def lock(a:Ba):R3:=match a.pr a.s.rd with
 | some v=>if !decide (a.s.st=1)&& !a.s.seen&&a.IC a.s.rd 3 v.tx then
  (if a.s.st=3 then(⟨{a.s with seen:=true,valid:=v.tx,nU:=a.s.rd},a.l⟩,[],true)
   else yes ((⟨{a.s with seen:=true,valid:=v.tx,nU:=a.s.rd,lock:=v.tx,yZ:=a.s.rd,st:=3,LY:=0},a.l⟩:Ba).say 4 0 v.tx))
  else a.no
 | none=>a.no
def nothing(a:Ba):R3:=if decide (a.s.st=2)&&a.IC a.s.rd 3 []then yes ((a.to 3).say 4 0 [])else a.no
def wants(a:Ba)(want:List UInt8):List UInt8×Int:=if a.s.valid=[]then(want,-1)else(a.s.valid,a.s.nU)
def vZ(a:Ba)(want:List UInt8):R3:=
 if decide (a.s.st=1)&& !a.s.prop&&decide (a.s.pro a.s.rd=a.s.me)&& !decide ((a.wants want).1=[])then yes ((⟨{a.s with prop:=true},a.l⟩:Ba).say 2 (a.wants want).2 (a.wants want).1)else a.no
def BB(a:Ba)(want:List UInt8)(may:List (List UInt8)):Nat->R3
 | 0=>a.xP
 | 1=>a.skip
 | 2=>a.fresh may
 | 3=>a.old
 | 4=>a.lock
 | 5=>a.nothing
 | _=>a.vZ want
def from_(a:Ba)(want:List UInt8)(may:List (List UInt8)):Nat->Nat->R3
 | 0,_=>a.no
 | n+1,i=>if(a.BB want may i).2.2 then a.BB want may i else from_ a want may n (i+1)
def He(a:Ba):Nat:=if a.s.me=0 then 1 else 7
def run(want:List UInt8)(may:List (List UInt8)):Nat->Ba->List Mg->Ba×List Mg
 | 0,a,out=>(a,out)
 | n+1,a,out=>if a.s.dec=[]then(if(a.from_ want may a.He 0).2.2 then run want may n (a.from_ want may a.He 0).1 (out++(a.from_ want may a.He 0).2.1)else(a,out))else(a,out)
def UI(a:Ba)(want:List UInt8)(may:List (List UInt8)):Ba×List Mg:=run want may 1000 a []
def late(a:Ba):Ba×List Mg:=
 if a.s.st=1 then(a.to 2).say 3 0 []
 else if a.s.st=2 then(if decide (a.s.n-a.s.t<=(a.all a.s.rd 3:Int))then(a.to 3).say 4 0 []else(a,[]))
 else if decide (a.s.n-a.s.t<=(a.all a.s.rd 4:Int))&&decide (a.s.rd<99)then(a.gP (a.s.rd+1),[])else(a,[])
def Ge(a:Ba)(want:List UInt8):Bool:= !decide (a.s.me=0)&&decide (a.s.dec=[])&&(!decide (want=[]) || decide (0<a.rounds.length))
def xG(a:Ba):Ba:=⟨{a.s with LY:=min (a.s.LY+1) 1099511627776},a.l⟩
def AV(a:Ba)(want:List UInt8):Ba×List Mg:=if a.Ge want then(if 4+2*a.s.rd<=a.xG.s.LY then a.xG.late else(a.xG,[]))else(a,[])
def tick(a:Ba)(want:List UInt8)(may:List (List UInt8)):Ba×List Mg:=(((a.AV want).1.UI want may).1,(a.AV want).2++((a.AV want).1.UI want may).2)
def WT(a:Ba)(fr:Int)(k:Nat)(h r vl:Int)(tx:List UInt8):Ba:=if decide (h=a.s.h)&&decide (2<=k)&&decide (k<=4)&&decide (r<100)then a.put ⟨fr,r,k,vl,tx⟩else a
end Ba
structure gY(a:Ba):Prop where
 ok:bOk a.s.h a.s.n a.s.t a.s.me
 rd:0<=a.s.rd/\a.s.rd<=99
 st:1<=a.s.st/\a.s.st<=3
 LY:0<=a.s.LY/\a.s.LY<=1099511627776
 lk:EK a.s.lock a.s.yZ a.s.rd=true
 vl:EK a.s.valid a.s.nU a.s.rd=true
 dec:a.s.dec.length<=2048
 OJ:a.l.Pairwise λu v=>u.lt v=true
 vs:∀v∈a.l,v.may a.s.n=true/\(v.kd=2->v.fr=a.s.pro v.rd)
theorem lt_iff(a b:Vo):a.lt b=true↔(a.rd<b.rd\/(a.rd=b.rd/\(a.fr<b.fr\/(a.fr=b.fr/\a.kd<b.kd)))):=by unfold Vo.lt;simp
theorem Dk(v:Vo)(r f:Int)(k:Nat):v.at r f k=true↔(v.rd=r/\v.fr=f/\v.kd=k):=by unfold Vo.at;simp [and_assoc]
theorem JT(v:Vo)(n:Int):v.may n=true↔(1<=v.fr/\v.fr<=n/\0<=v.rd/\v.rd<100/\v.tx.length<=2048)/\((v.kd=2/\v.tx≠[]/\ -1<=v.vl/\v.vl<v.rd)\/((v.kd=3\/v.kd=4)/\v.vl=0)):=by
 unfold Vo.may;simp only [bW,xR,Bool.or_eq_false_iff,Iq];by_cases h2:v.kd=2
 ·rw [if_pos h2]
  simp only [bW,decide_eq_true_eq,xR,Iq];constructor
  ·rintro⟨⟨⟨⟨⟨q1,q2⟩,q3⟩,q4⟩,q5⟩,⟨⟨q6,q7⟩,q8⟩⟩
   exact⟨⟨by omega,by omega,by omega,by omega,by omega⟩,.inl ⟨h2,q6,q7,q8⟩⟩
  ·rintro⟨⟨q1,q2,q3,q4,q5⟩,⟨_,q6,q7,q8⟩ | ⟨q6,_⟩⟩
   ·exact⟨⟨⟨⟨⟨by omega,by omega⟩,by omega⟩,by omega⟩,by omega⟩,⟨⟨q6,q7⟩,q8⟩⟩
   ·omega
 ·rw [if_neg h2]
  by_cases h3:v.kd=3\/v.kd=4
  ·rw [if_pos h3]
   simp only [decide_eq_true_eq];constructor
   ·rintro⟨⟨⟨⟨⟨q1,q2⟩,q3⟩,q4⟩,q5⟩,q6⟩
    exact⟨⟨by omega,by omega,by omega,by omega,by omega⟩,.inr ⟨h3,q6⟩⟩
   ·rintro⟨⟨q1,q2,q3,q4,q5⟩,⟨q6,_⟩ | ⟨_,q6⟩⟩
    ·exact absurd q6 h2
    ·exact⟨⟨⟨⟨⟨by omega,by omega⟩,by omega⟩,by omega⟩,by omega⟩,q6⟩
  ·rw [if_neg h3]
   simp only [bQ,and_false,false_iff]
   rintro⟨_,⟨q6,_⟩ | ⟨q6,_⟩⟩
   ·exact h2 q6
   ·exact h3 q6
theorem SU(v:Vo)(l:List Vo):(Hc v l).Perm (l++[v]):=by
 induction l with
 | nil=>exact .refl _
 | cons u l ih=>
  unfold Hc;split
  ·exact(List.perm_append_comm (l₁:=[v]) (l₂:=u::l))
  ·exact ih.cons u
theorem Mq(l:List Vo):(sortV l).Perm l:=by
 induction l with
 | nil=>exact .refl _
 | cons v l ih=>
  unfold sortV;exact(SU v _).trans (List.perm_append_comm.trans (ih.cons v))
theorem aM7{u v:Vo}(h:¬(u.rd=v.rd/\u.fr=v.fr/\u.kd=v.kd)):u.lt v=true\/v.lt u=true:=by
 rw [lt_iff,lt_iff];omega
theorem aA9{v:Vo}{l:List Vo}(h:l.Pairwise λu v=>u.lt v=true)(hf:v.free l=true):(Hc v l).Pairwise λu v=>u.lt v=true:=by
 have wC:∀u∈l,¬(u.rd=v.rd/\u.fr=v.fr/\u.kd=v.kd):=by
  intro u hu e;unfold Vo.free at hf;rw [Im,UR]at hf;exact hf u hu ((Dk _ _ _ _).2 e)
 clear hf;induction l with
 | nil=>exact aBB _ _
 | cons u l ih=>
  rw [tN]at h;unfold Hc;split
  ·rename_i hlt
   rw [tN];refine⟨λw hw=>?_,tN.2 h⟩;rcases dA.1 hw with rfl | hw
   ·exact hlt
   ·have:=h.1 w hw
    rw [lt_iff]at hlt this ⊢;omega
  ·rename_i hlt
   rw [tN];refine⟨λw hw=>?_,ih h.2 λw hw=>wC w (.tail _ hw)⟩;rcases uP.1 ((SU v l).mem_iff.1 hw)with hw | hw
   ·exact h.1 w hw
   ·simp at hw;subst hw
    rcases aM7 (wC u (.head _))with q | q
    ·exact q
    ·exact absurd q hlt
theorem aM8:∀{l l':List Vo},l.Pairwise (λu v=>u.lt v=true)->l'.Pairwise (λu v=>u.lt v=true)->l.Perm l'->l=l':=by
 intro l;induction l with
 | nil=>intro l' _ _ p;exact(List.nil_perm.1 p).symm
 | cons a l ih=>
  intro l' h h' p;cases l' with
  | nil=>exact absurd p (by intro p;have:=p.length_eq;simp at this)
  | cons b l'=>
   rw [tN]at h h';have irr:∀v:Vo,¬v.lt v=true:=λv q=>by rw [lt_iff]at q;omega
   have e:a=b:=by
    rcases dA.1 (p.mem_iff.1 (.head l))with q | q
    ·exact q
    ·rcases dA.1 (p.symm.mem_iff.1 (.head l'))with q2 | q2
     ·exact q2.symm
     ·have h1:=h'.1 a q
      have h2:=h.1 b q2;rw [lt_iff]at h1 h2;omega
   subst e;rw [ih h.2 h'.2 p.cons_inv]
theorem aM9{l:List Vo}(h:l.Pairwise λu v=>u.lt v=true){u v:Vo}(hu:u∈l)(hv:v∈l)(e:u.rd=v.rd/\u.fr=v.fr/\u.kd=v.kd):u=v:=by
 induction l with
 | nil=>cases hu
 | cons a l ih=>
  rw [tN]at h;rcases dA.1 hu with rfl | hu'
  ·rcases dA.1 hv with rfl | hv
   ·rfl
   ·have:=h.1 v hv;rw [lt_iff]at this;omega
  ·rcases dA.1 hv with e2 | FG
   ·subst e2;have:=h.1 u hu';rw [lt_iff]at this;omega
   ·exact ih h.2 hu' FG
theorem Qt{l l':List Vo}(h:l.Pairwise λu v=>u.lt v=true)(p:l'.Perm l)(r f:Int)(k:Nat):(l'.find? λv=>v.at r f k)=l.find? λv=>v.at r f k:=by
 cases e:l.find? λv=>v.at r f k with
 | none=>
  rw [UR]at e ⊢;exact λv hv=>e v (p.mem_iff.1 hv)
 | some u=>
  cases e':l'.find? λv=>v.at r f k with
  | none=>
   rw [UR]at e';exact absurd (UU (p:=λv:Vo=>v.at r f k) e) (e' u (p.mem_iff.2 (Io e)))
  | some u'=>
   congr 1
   have h1:=(Dk _ _ _ _).1 (UU (p:=λv:Vo=>v.at r f k) e);have h2:=(Dk _ _ _ _).1 (UU (p:=λv:Vo=>v.at r f k) e');exact aM9 h (p.mem_iff.1 (Io e')) (Io e) (by omega)
theorem aIF{l l':List Vo}(p:l'.Perm l)(f:Vo->Bool):l'.any f=l.any f:=by
 rw [qU,Ix,Ix];exact⟨λ⟨v,h1,h2⟩=>⟨v,p.mem_iff.1 h1,h2⟩,λ⟨v,h1,h2⟩=>⟨v,p.mem_iff.2 h1,h2⟩⟩
theorem Dl{l l':List Vo}(p:l'.Perm l)(f:Vo->Bool)(n:Nat):Hd f n l'=Hd f n l:=by
 unfold Hd
 congr 2
 funext i
 exact aIF p _
theorem Mr{s:Bs}{l l':List Vo}(h:l.Pairwise λu v=>u.lt v=true)(p:l'.Perm l)(v:Vo):s.takes l' v=s.takes l v:=by
 unfold Bs.takes Vo.free;rw [Qt h p]
theorem Dm{l l':List Vo}(h:l.Pairwise λu v=>u.lt v=true)(p:l'.Perm l):sortV l'=l:=by
 refine aM8 ?_ h ((Mq l').trans p)
 have hk:∀l2:List Vo,(l2.Pairwise λu v=>¬(u.rd=v.rd/\u.fr=v.fr/\u.kd=v.kd))->(sortV l2).Pairwise λu v=>u.lt v=true:=by
  intro l2;induction l2 with
  | nil=>intro _;exact .nil
  | cons v l2 ih=>
   intro q;rw [tN]at q;unfold sortV;refine aA9 (ih q.2) ?_;unfold Vo.free;rw [Im,UR];intro u hu e;have e:=(Dk _ _ _ _).1 e;exact q.1 u ((Mq l2).mem_iff.1 hu) (by omega)
 refine hk l' ?_;refine(p.symm.pairwise_iff (R:=λu v:Vo=>¬(u.rd=v.rd/\u.fr=v.fr/\u.kd=v.kd)) (λ{a b} q=>by omega)).1 (h.imp λ{a b} q=>?_);rw [lt_iff]at q;omega
theorem RU{l:List Vo}{n:Int}(h:l.Pairwise λu v=>u.lt v=true)(hn:n<=7)(hv:∀v∈l,v.may n=true):l.length<=2400:=by
 let code:Vo->Nat:=λv=>(v.rd.toNat*8+v.fr.toNat)*3+(v.kd-2)
 have hb:∀v∈l,code v<2400:=λv hm=>by
  obtain⟨⟨a1,a2,a3,a4,_⟩,q⟩:=(JT v n).1 (hv v hm);show(v.rd.toNat*8+v.fr.toNat)*3+(v.kd-2)<2400;rcases q with ⟨q,_⟩ | ⟨q,_⟩<;>omega
 have hp:l.Pairwise λu v=>code u<code v:=by
  refine List.Pairwise.imp_of_mem ?_ h;intro u v hu Sw q;obtain⟨⟨a1,a2,a3,a4,_⟩,q1⟩:=(JT u n).1 (hv u hu);obtain⟨⟨b1,b2,b3,b4,_⟩,q2⟩:=(JT v n).1 (hv v Sw);rw [lt_iff]at q;show(u.rd.toNat*8+u.fr.toNat)*3+(u.kd-2)<(v.rd.toNat*8+v.fr.toNat)*3+(v.kd-2);rcases q1 with ⟨q1,_⟩ | ⟨q1,_⟩<;>rcases q2 with ⟨q2,_⟩ | ⟨q2,_⟩<;>omega
 have go:∀(l:List Vo) (a:Nat),(l.Pairwise λu v=>code u<code v)->(∀v∈l,a<=code v/\code v<2400)->l.length+a<=2400\/l=[]:=by
  intro l;induction l with
  | nil=>intro a _ _;exact .inr rfl
  | cons v l ih=>
   intro a hp hb;rw [tN]at hp;have hv:=hb v (.head _);rcases ih (code v+1) hp.2 (λu hu=>⟨hp.1 u hu,(hb u (.tail _ hu)).2⟩)with q | q
   ·left;simp;omega
   ·subst q;left;simp;omega
 rcases go l 0 hp (λv hv=>⟨gF _,hb v hv⟩)with q | q
 ·omega
 ·subst q;simp
theorem vM(tx:List UInt8)(r now:Int):EK tx r now=true↔(tx.length<=2048/\ -1<=r/\r<=now/\(tx=[]↔r= -1)):=by
 unfold EK;simp only [bW,decide_eq_true_eq,decide_eq_decide,and_assoc]
theorem Qu(s:Bs)(l:List Vo)(v:Vo):s.takes l v=true↔(¬(v.kd=2/\(v.rd<0\/v.fr≠s.pro v.rd))/\v.may s.n=true/\v.free l=true):=by
 unfold Bs.takes;simp only [bW,xR,Bool.and_eq_false_iff,Bool.or_eq_false_iff,Iq,Bool.not_eq_false',decide_eq_true_eq];constructor
 ·rintro⟨h,h2,h3⟩
  refine⟨λ⟨q1,q2⟩=>?_,h2,h3⟩;rcases h with h | ⟨h4,h5⟩
  ·exact h q1
  ·rcases q2 with q2 | q2
   ·exact h4 q2
   ·exact q2 h5
 ·rintro⟨h,h2,h3⟩
  refine⟨?_,h2,h3⟩;by_cases q:v.kd=2
  ·refine .inr ⟨λq2=>h ⟨q,.inl q2⟩,?_⟩
   by_cases q3:v.fr=s.pro v.rd
   ·exact q3
   ·exact absurd ⟨q,.inr q3⟩ h
  ·exact .inl q
namespace gY
variable{a:Ba}
theorem put(i:gY a)(v:Vo):gY (a.put v):=by
 unfold Ba.put;by_cases h:a.s.takes a.l v=true
 ·rw [if_pos h]
  obtain⟨h1,h2,h3⟩:=(Qu _ _ _).1 h;refine⟨i.ok,i.rd,i.st,i.LY,i.lk,i.vl,i.dec,aA9 i.OJ h3,λu hu=>?_⟩;rcases uP.1 ((SU v a.l).mem_iff.1 hu)with hu | hu
  ·exact i.vs u hu
  ·simp at hu;subst hu
   refine⟨h2,λq=>?_⟩;by_cases e:u.fr=a.s.pro u.rd
   ·exact e
   ·exact absurd ⟨q,.inr e⟩ h1
 ·rw [if_neg h];exact i
theorem Qv(a:Ba)(v:Vo):(a.put v).s=a.s:=by
 unfold Ba.put;split<;>rfl
theorem to(i:gY a){z:Int}(h1:1<=z)(h2:z<=3):gY (a.to z):=
 ⟨i.ok,i.rd,⟨h1,h2⟩,⟨Je _,by show(0:Int)<=1099511627776;decide⟩,i.lk,i.vl,i.dec,i.OJ,i.vs⟩
theorem gP(i:gY a){r:Int}(h1:a.s.rd<=r)(h2:r<=99):gY (a.gP r):=by
 refine⟨i.ok,⟨?_,h2⟩,⟨by show(1:Int)<=1;decide,by show(1:Int)<=3;decide⟩,⟨Je _,by show(0:Int)<=1099511627776;decide⟩,?_,?_,i.dec,i.OJ,i.vs⟩
 ·show 0<=r;have:=i.rd;omega
 ·have:=(vM _ _ _).1 i.lk
  exact(vM _ _ _).2 ⟨this.1,this.2.1,Int.le_trans this.2.2.1 h1,this.2.2.2⟩
 ·have:=(vM _ _ _).1 i.vl
  exact(vM _ _ _).2 ⟨this.1,this.2.1,Int.le_trans this.2.2.1 h1,this.2.2.2⟩
theorem say(i:gY a)(k:Nat)(vl:Int)(tx:List UInt8):gY (a.say k vl tx).1:=i.put _
theorem Mt(i:gY a){r:Int}{v:Vo}(h:a.pr r=some v):v∈a.l/\v.rd=r/\v.kd=2/\v.tx≠[]/\v.tx.length<=2048/\v.may a.s.n=true:=by
 unfold Ba.pr at h;have h1:=Io h;have h2:=(Dk _ _ _ _).1 (UU (p:=λv:Vo=>v.at r (a.s.pro r) 2) h);have h3:=i.vs v h1;obtain⟨q1,q2⟩:=(JT _ _).1 h3.1;refine⟨h1,h2.1,h2.2.2,?_,q1.2.2.2.2,h3.1⟩;rcases q2 with q2 | q2
 ·exact q2.2.1
 ·omega
theorem xP(i:gY a):gY a.xP.1:=by
 unfold Ba.xP;cases h:a.rounds.findSome? a.BM with
 | none=>exact i
 | some tx=>
  obtain⟨r,_,hr⟩:=aGr h;refine⟨i.ok,i.rd,i.st,i.LY,i.lk,i.vl,?_,i.OJ,i.vs⟩;unfold Ba.BM at hr;split at hr
  ·rename_i v hv
   split at hr
   ·injection hr with hr;subst hr;exact(i.Mt hv).2.2.2.2.1
   ·cases hr
  ·cases hr
theorem aNa(zs:List Int):∀(j:Nat) (z:Int),z∈dq zs j->j<=zs.length->z∈zs:=by
 intro j;induction j with
 | zero=>intro z h;cases h
 | succ j ih=>
  intro z h hj;unfold dq at h;split at h
  ·rcases uP.1 h with h | h
   ·exact ih z h (by omega)
   ·simp at h;subst h
    rw [aP (by omega)];exact nO _
  ·exact ih z h (by omega)
theorem WU(i:gY a){r:Int}(h:r∈a.rounds):0<=r/\r<=99:=by
 have:=aNa _ _ _ h (bI _);obtain⟨v,hv,rfl⟩:=mF.1 this;obtain⟨⟨_,_,q3,q4,_⟩,_⟩:=(JT _ _).1 (i.vs v hv).1;omega
theorem skip(i:gY a):gY a.skip.1:=by
 unfold Ba.skip;cases h:a.rounds.reverse.find? a.AU with
 | none=>exact i
 | some r=>
  have h1:=UU (p:=a.AU) h;have h2:=i.WU (UT.1 (Io h));unfold Ba.AU at h1;simp only [bW,decide_eq_true_eq]at h1;exact i.gP (by omega) h2.2
theorem lZ(i:gY a)(tx:List UInt8)(f:Bool):gY (a.lZ tx f).1:=(i.to (by decide) (by decide)).say _ _ _
theorem fresh(i:gY a)(may:List (List UInt8)):gY (a.fresh may).1:=by
 unfold Ba.fresh;split
 ·split
  ·exact i.lZ _ _
  ·exact i
 ·exact i
theorem old(i:gY a):gY a.old.1:=by
 unfold Ba.old;split
 ·split
  ·exact i.lZ _ _
  ·exact i
 ·exact i
theorem lock(i:gY a):gY a.lock.1:=by
 unfold Ba.lock;split
 ·rename_i v hv
  obtain⟨_,_,_,h1,h2,_⟩:=i.Mt hv;have hp:EK v.tx a.s.rd a.s.rd=true:=(vM _ _ _).2 ⟨h2,by have:=i.rd;omega,Je _,⟨λe=>absurd e h1,λe=>by have:=i.rd;omega⟩⟩;split
  ·split
   ·exact⟨i.ok,i.rd,i.st,i.LY,i.lk,hp,i.dec,i.OJ,i.vs⟩
   ·show gY (Ba.say _ _ _ _).1
    refine gY.say ?_ _ _ _;exact⟨i.ok,i.rd,⟨by show(1:Int)<=3;decide,by show(3:Int)<=3;decide⟩,⟨Je _,by show(0:Int)<=1099511627776;decide⟩,hp,hp,i.dec,i.OJ,i.vs⟩
  ·exact i
 ·exact i
theorem nothing(i:gY a):gY a.nothing.1:=by
 unfold Ba.nothing;split
 ·exact(i.to (by decide) (by decide)).say _ _ _
 ·exact i
theorem vZ(i:gY a)(want:List UInt8):gY (a.vZ want).1:=by
 unfold Ba.vZ;split
 ·show gY (Ba.say _ _ _ _).1
  refine gY.say ?_ _ _ _;exact⟨i.ok,i.rd,i.st,i.LY,i.lk,i.vl,i.dec,i.OJ,i.vs⟩
 ·exact i
theorem BB(i:gY a)(want:List UInt8)(may:List (List UInt8))(k:Nat):gY (a.BB want may k).1:=by
 unfold Ba.BB;split
 ·exact i.xP
 ·exact i.skip
 ·exact i.fresh may
 ·exact i.old
 ·exact i.lock
 ·exact i.nothing
 ·exact i.vZ want
theorem from_(i:gY a)(want:List UInt8)(may:List (List UInt8)):∀(n k:Nat),gY (a.from_ want may n k).1:=by
 intro n;induction n with
 | zero=>intro k;exact i
 | succ n ih=>
  intro k;unfold Ba.from_;split
  ·exact i.BB want may k
  ·exact ih (k+1)
theorem run(want:List UInt8)(may:List (List UInt8)):∀(n:Nat) {a:Ba} (out:List Mg),gY a->gY (Ba.run want may n a out).1:=by
 intro n;induction n with
 | zero=>intro a out i;exact i
 | succ n ih=>
  intro a out i;unfold Ba.run;split
  ·split
   ·exact ih _ (i.from_ want may _ _)
   ·exact i
  ·exact i
theorem UI(i:gY a)(want:List UInt8)(may:List (List UInt8)):gY (a.UI want may).1:=gY.run want may 1000 [] i
theorem late(i:gY a):gY a.late.1:=by
 unfold Ba.late;split
 ·exact(i.to (by decide) (by decide)).say _ _ _
 ·split
  ·split
   ·exact(i.to (by decide) (by decide)).say _ _ _
   ·exact i
  ·split
   ·rename_i h
    simp only [bW,decide_eq_true_eq]at h;exact i.gP (by omega) (by omega)
   ·exact i
theorem xG(i:gY a):gY a.xG:=by
 refine⟨i.ok,i.rd,i.st,?_,i.lk,i.vl,i.dec,i.OJ,i.vs⟩;show 0<=min (a.s.LY+1) 1099511627776/\min (a.s.LY+1) 1099511627776<=1099511627776;have:=i.LY;omega
theorem AV(i:gY a)(want:List UInt8):gY (a.AV want).1:=by
 unfold Ba.AV;split
 ·split
  ·exact i.xG.late
  ·exact i.xG
 ·exact i
theorem tick(i:gY a)(want:List UInt8)(may:List (List UInt8)):gY (a.tick want may).1:=(i.AV want).UI want may
theorem WT(i:gY a)(fr:Int)(k:Nat)(h r vl:Int)(tx:List UInt8):gY (a.WT fr k h r vl tx):=by
 unfold Ba.WT;split
 ·exact i.put _
 ·exact i
theorem start{h n t me:Int}(ok:bOk h n t me):gY ⟨.start h n t me,[]⟩:=
 ⟨ok,⟨by show(0:Int)<=0;decide,by show(0:Int)<=99;decide⟩,⟨by show(1:Int)<=1;decide,by show(1:Int)<=3;decide⟩,⟨by show(0:Int)<=0;decide,by show(0:Int)<=1099511627776;decide⟩,(vM _ _ _).2 ⟨by show 0<=2048;decide,by show(-1:Int)<= -1;decide,by show(-1:Int)<=0;decide,⟨λ_=>rfl,λ_=>rfl⟩⟩,(vM _ _ _).2 ⟨by show 0<=2048;decide,by show(-1:Int)<= -1;decide,by show(-1:Int)<=0;decide,⟨λ_=>rfl,λ_=>rfl⟩⟩,by show 0<=2048;decide,.nil,λv hv=>by cases hv⟩
end gY
def bz(b:Bool):Int:=if b then 1 else 0
def Ba.mu(a:Ba):Int:=10*a.s.rd+2*a.s.st+bz a.s.seen+bz a.s.prop
theorem aKJ(b:Bool):0<=bz b/\bz b<=1:=by cases b<;>simp [bz]
theorem Ba.Mu(a:Ba)(k:Nat)(vl:Int)(tx:List UInt8):(a.say k vl tx).1.mu=a.mu:=by
 unfold Ba.mu Ba.say;rw [gY.Qv]
theorem gY.aIG{a:Ba}(i:gY a):0<=a.mu/\a.mu<1000:=by
 have h1:=i.rd;have h2:=i.st;have h3:=aKJ a.s.seen;have h4:=aKJ a.s.prop;unfold Ba.mu;omega
theorem aKK{a:Ba}(i:gY a)(want:List UInt8)(may:List (List UInt8))(k:Nat)(h:(a.BB want may k).2.2=true):a.mu<(a.BB want may k).1.mu\/(a.BB want may k).1.s.dec≠[]:=by
 unfold Ba.BB at h ⊢;have h3:=aKJ a.s.seen;have h4:=aKJ a.s.prop;have h5:=i.st;split at h
 ·unfold Ba.xP at h ⊢
  cases q:a.rounds.findSome? a.BM with
  | none=>rw [q]at h;cases h
  | some tx=>
   right;obtain⟨r,_,hr⟩:=aGr q;unfold Ba.BM at hr;split at hr
   ·rename_i v hv
    split at hr
    ·injection hr with hr;subst hr;exact(i.Mt hv).2.2.2.1
    ·cases hr
   ·cases hr
 ·unfold Ba.skip at h ⊢
  cases q:a.rounds.reverse.find? a.AU with
  | none=>rw [q]at h;cases h
  | some r=>
   left;have h1:=UU (p:=a.AU) q;unfold Ba.AU at h1;simp only [bW,decide_eq_true_eq]at h1;show a.mu<10*r+2*1+bz false+bz false;unfold Ba.mu;have:bz false=0:=rfl;omega
 ·left
  unfold Ba.fresh at h ⊢;split at h
  ·split at h
   ·rename_i h1
    simp only [bW,decide_eq_true_eq]at h1;simp only [h1,decide_true,Bool.and_self,if_true];show a.mu<(a.lZ _ _).1.mu;unfold Ba.lZ;rw [Ba.Mu];show a.mu<10*a.s.rd+2*2+bz a.s.seen+bz a.s.prop;unfold Ba.mu;omega
   ·cases h
  ·cases h
 ·left
  unfold Ba.old at h ⊢;split at h
  ·split at h
   ·rename_i h1
    have h2:=h1;simp only [bW,decide_eq_true_eq]at h2;simp only [h1,if_true];show a.mu<(a.lZ _ _).1.mu;unfold Ba.lZ;rw [Ba.Mu];show a.mu<10*a.s.rd+2*2+bz a.s.seen+bz a.s.prop;unfold Ba.mu;omega
   ·cases h
  ·cases h
 ·left
  unfold Ba.lock at h ⊢;split at h
  ·split at h
   ·rename_i h1
    have h2:=h1;simp only [bW,xR,Iq]at h2;simp only [h1,if_true];have e1:bz true=1:=rfl;have e2:bz a.s.seen=0:=by rw [h2.1.2];rfl
    split
    ·show a.mu<10*a.s.rd+2*a.s.st+bz true+bz a.s.prop
     unfold Ba.mu;omega
    ·show a.mu<(Ba.say _ _ _ _).1.mu
     rw [Ba.Mu];show a.mu<10*a.s.rd+2*3+bz true+bz a.s.prop;unfold Ba.mu;omega
   ·cases h
  ·cases h
 ·left
  unfold Ba.nothing at h ⊢;split at h
  ·rename_i h1
   have h2:=h1;simp only [bW,decide_eq_true_eq]at h2;simp only [h1,if_true];show a.mu<(Ba.say _ _ _ _).1.mu;rw [Ba.Mu];show a.mu<10*a.s.rd+2*3+bz a.s.seen+bz a.s.prop;unfold Ba.mu;omega
  ·cases h
 ·left
  unfold Ba.vZ at h ⊢;split at h
  ·rename_i h1
   have h2:=h1;simp only [bW,xR]at h2;simp only [h1,if_true];show a.mu<(Ba.say _ _ _ _).1.mu;rw [Ba.Mu];have e1:bz true=1:=rfl;have e2:bz a.s.prop=0:=by rw [h2.1.1.2];rfl
   show a.mu<10*a.s.rd+2*a.s.st+bz a.s.seen+bz true;unfold Ba.mu;omega
  ·cases h
structure vP(S:Hp)(b t m:Nat)(ty:TypeId)(a:Ba):Prop where
 row:S b=some (.row (lM a.s t) ty)
 Ii:∃l0,Tal S t m a.s.n l0/\l0.Perm a.l
 inv:gY a
 bt:b≠t
 bm:b≠m
 tm:t≠m
def Ch(S S':Hp)(b m:Nat):Prop:=∀i,i≠b->i≠m->S' i=S i
theorem Ch.refl{S:Hp}{b m:Nat}:Ch S S b m:=λ_ _ _=>rfl
theorem Ch.trans{S S1 S2:Hp}{b m:Nat}(h:Ch S S1 b m)(k:Ch S1 S2 b m):Ch S S2 b m:=λi h1 h2=>(k i h1 h2).trans (h i h1 h2)
theorem Ch.aDe{S:Hp}{b m:Nat}{o:Ob}:Ch S (aM S b o) b m:=λi h1 _=>aC h1
theorem Ch.aQ7{S:Hp}{b m:Nat}{o:Ob}:Ch S (aM S m o) b m:=λi _ h1=>aC h1
def pU(S:Hp)(b t m:Nat)(ty:TypeId)(a:Ba)(K:Hp->Prop):Prop:=∀S',Ch S S' b m->vP S' b t m ty a->K S'
section
variable{ov:Qj}{M n b t m:Nat}{x:VE}{S S':Hp}{K:KV}{ty:TypeId}{a:Ba}
theorem vP.le(k:vP S b t m ty a)(h:cP S S'):vP S' b t m ty a:=by
 obtain⟨l0,h1,h2⟩:=k.Ii;exact⟨h _ _ k.row,⟨l0,h1.le h,h2⟩,k.inv,k.bt,k.bm,k.tm⟩
theorem vP.okl(k:vP S b t m ty a):∃l0,Tal S t m (a.s.n.toNat:Int) l0/\Okl a.s.n.toNat l0/\l0.Perm a.l:=by
 obtain⟨l0,h1,h2⟩:=k.Ii;have hn:=k.inv.ok.1;have e:(a.s.n.toNat:Int)=a.s.n:=by omega
 refine⟨l0,by rw [e];exact h1,⟨by omega,?_,λv hv=>?_⟩,h2⟩
 ·rw [h2.length_eq]
  have:=RU k.inv.OJ hn.2 λv hv=>(k.inv.vs v hv).1;omega
 ·have:=(JT _ _).1 (k.inv.vs v (h2.mem_iff.1 hv)).1
  omega
theorem vP.set(k:vP S b t m ty a){s:Bs}(hn:s.n=a.s.n)(i:gY ⟨s,a.l⟩):vP (aM S b (.row (lM s t) ty)) b t m ty ⟨s,a.l⟩:=by
 obtain⟨l0,h1,h2⟩:=k.Ii;refine⟨aB,⟨l0,⟨?_,?_⟩,h2⟩,i,k.bt,k.bm,k.tm⟩
 ·rw [aC (dB k.bt)]
  show S t=some (.row [.int .i64 s.n,.sP m] 160);rw [hn];exact h1.row
 ·rw [aC (dB k.bm)];exact h1.map
theorem aIO(hM:M≠0)(hf:ov eT=none)(hf1:ov cI=none)(Nn:ov iB=none)(hf3:ov gU=none)(hx:Deep PP fT ov M (n+3) x)(k:vP S b t m ty a){v:Vo}(hr:v.rd<=1000000)(hk:pU S b t m ty (a.put v) λS'=>K (.bool (a.s.takes a.l v)) S'):x.call eT [.ptr b 0,.agg v.vv] S K:=by
 obtain⟨l0,h1,h2⟩:=k.Ii;have Cd:=k.inv.ok;refine aNb hM hf hf1 Nn hf3 hx k.row h1 (by have:=Cd.2.1;omega) (by have:=Cd.1;omega) hr (λe=>?_) (λe=>?_)
 ·rw [Mr k.inv.OJ h2]at e
  have:=hk S .refl (by unfold Ba.put;rw [e];exact k)
  rwa [e]at this
 ·rw [Mr k.inv.OJ h2]at e
  have:=hk (aM S m (.map ((l0++[v]).map eV))) .aQ7 ?_
  ·rwa [e]at this
  ·have i:=k.inv.put v
   unfold Ba.put at i ⊢;rw [e]at i ⊢;refine⟨by rw [aC k.bm];exact k.row,⟨l0++[v],⟨by rw [aC k.tm];exact h1.row,aB⟩,?_⟩,i,k.bt,k.bm,k.tm⟩;exact((List.Perm.append_right [v] h2)).trans (SU v a.l).symm
end
def Mg.dt(g:Mg):List Dt:=[.int .u8 (.ofNat g.kd),.int .i64 0,.int .i64 0,.int .i64 g.h,.int .i64 g.r,.int .i64 g.vl,.int .i64 0,.int .i64 0,.int .i64 0,.str g.tx,.list [] 0]
def Mg.vv(g:Mg):List V:=[.int .u8 (.ofNat g.kd),.int .i64 0,.int .i64 0,.int .i64 g.h,.int .i64 g.r,.int .i64 g.vl,.int .i64 0,.int .i64 0,.int .i64 0,.str g.tx,.nil]
def OK(l:List Mg):List Dt:=l.flatMap Mg.dt
theorem NP(l:List Mg):(OK l).length=l.length*11:=by
 induction l with
 | nil=>rfl
 | cons v l ih=>simp [OK,Mg.dt]at ih ⊢;omega
section
variable{ov:Qj}{M n b t m:Nat}{x:VE}{S S':Hp}{K:KV}{ty:TypeId}{a:Ba}
theorem aIP{g:Mg}{S S':Hp}(q:Nat)(v:V)(d:Dt)(e1:g.vv[q]? =some v)(e2:g.dt[q]? =some d):Au S' S v d:=by
 match q with
 | 0 | 1 | 2 | 3 | 4 | 5 | 6 | 7 | 8=>injection e1 with e1;injection e2 with e2;subst e1 e2;exact .int
 | 9=>injection e1 with e1;injection e2 with e2;subst e1 e2;exact .str
 | 10=>injection e1 with e1;injection e2 with e2;subst e1 e2;exact .nil
 | q+11=>simp [Mg.vv]at e1
theorem Wl(g:Mg):OK [g]=g.dt:=by simp [OK]
theorem aEv{g:Mg}{S S':Hp}{K:KV}{j:Nat}(h:S j=some (.row g.vv 37))(hn:S' j=none)(hl:cP S' S)(hk:∀O,K (.list O (OK [g]) 1) S'):aQ (.own j 0 1 1) S K:=by
 refine DD (S':=S') (cs:=OK [g]) hl (.own h hn (bI _) (by rw [Wl];simp [Mg.dt,Mg.vv]) λq v d e1 e2=>?_) hk;rw [gB]at e1;rw [Wl]at e2;exact aIP q v d e1 e2
theorem aBb(hM:M≠0)(hf0:ov cJ=none)(hf:ov eT=none)(hf1:ov cI=none)(Nn:ov iB=none)(hf3:ov gU=none)(hx:Deep PP fT ov M (n+4) x)(k:vP S b t m ty a){kd:Nat}{vl:Int}{tx:List UInt8}
 (hk:pU S b t m ty (a.say kd vl tx).1 λS'=>∀j,S' j=none->aQ (.own j 0 1 1) (aM S' j (.row (Mg.vv ⟨kd,a.s.h,a.s.rd,vl,tx⟩) 37)) K):x.call cJ [.ptr b 0,.int .u8 (.ofNat kd),.int .i64 vl,.str tx] S K:=by
 refine hx.call hf0 λy hy=>?_;rw [TM];unfold EW gM;have l3:LD b 3 S (.int .i64 a.s.me):=aZ k.row;have l4:LD b 4 S (.int .i64 a.s.rd):=aZ k.row;simp only [aV,gW,gB,l3,l4];refine qD rfl (cK rfl (by simp) (cK rfl (by simp) (cK rfl (by simp) (cK rfl (by simp) (cK rfl (by simp) (CI ?_))))));refine aIO (v:=⟨a.s.me,a.s.rd,kd,vl,tx⟩) hM hf hf1 Nn hf3 hy k (show a.s.rd<=1000000 by have:=k.inv.rd;omega) λS1 c1 k1=>?_;have es:(a.put ⟨a.s.me,a.s.rd,kd,vl,tx⟩).s=a.s:=gY.Qv _ _;have r1:=k1.row;rw [es]at r1;have l0':LD b 0 S1 (.int .i64 a.s.h):=aZ r1;have l3':LD b 3 S1 (.int .i64 a.s.me):=aZ r1;have l4':LD b 4 S1 (.int .i64 a.s.rd):=aZ r1;simp only [l0',l3',l4',xN];refine qD rfl (cK rfl (by simp) (cK rfl (by simp) (cK rfl (by simp) (cK rfl (by simp) (cK rfl (by simp) (CI ?_))))));have hb:∀{K:KV},(∀j,S1 j=none->K (.own j 0 1 1) (aM S1 j (.row (Mg.vv ⟨kd,a.s.h,a.s.rd,vl,tx⟩) 37)))->dN 37 1 nS [(0,11,.agg (Mg.vv ⟨kd,a.s.h,a.s.rd,vl,tx⟩))] S1 K:=λh=>sE rfl rfl rfl rfl h;refine⟨hb λj hj=>trivial,hb λj hj=>?_⟩;exact hk S1 c1 k1 j hj
theorem aPc(hM:M≠0)(hf0:ov cJ=none)(hf:ov eT=none)(hf1:ov cI=none)(Nn:ov iB=none)(hf3:ov gU=none)(hx:Deep PP fT ov M (n+4) x)(k:vP S b t m ty a){kd:Nat}{vl:Int}{tx:List UInt8}
 (hk:pU S b t m ty (a.say kd vl tx).1 λS'=>∀O,K (.list O (OK (a.say kd vl tx).2) 1) S'):x.call cJ [.ptr b 0,.int .u8 (.ofNat kd),.int .i64 vl,.str tx] S K:=
 aBb hM hf0 hf hf1 Nn hf3 hx k λS1 c1 k1 j hj=>aEv aB hj (.aN hj) λO=>hk S1 c1 k1 O
end
theorem aNk{n i q o:Nat}{vs:List V}{t:TypeId}{S:Hp}{K:KV}(h:S i=some (.iX vs t q))(hl:o+n<=vs.length)(hk:K (.agg ((vs.drop o).take n)) S):cU n (.qX i q o) S K:=by
 unfold cU;simp only [h];exact⟨trivial,by rw [fH hl];exact hk⟩
theorem aNl(l:List Vo)(i:Nat)(v:Vo)(h:l[i]? =some v):((voV l).drop (i*5)).take 5=v.vv:=by
 rw [aIH l (.root 0),<-List.map_drop,<-List.map_take,Dn l i v h];rfl
theorem aBc{el:TypeId}{k:IntKind}{z0 z:Int}{S:Hp}{K:KV}(hk:∀j,S j=none->K (.own j 0 1 1) (aM S j (.row [.int k z] el))):dN el 1 [.int k z0] [(0,1,.int k z)] S K:=by
 unfold dN;show vD [(0,1,.int k z)] [.int k z0] _;exact⟨rfl,by simp,hk⟩
theorem aF1(l:List Vo)(i:Nat)(h:i<l.length):ints ((l.map (·.rd)).take (i+1))=ints ((l.map (·.rd)).take i)++[.int .i64 l[i].rd]:=by
 rw [tO,jA,aP h];simp [ints]
section
variable{M n b t m:Nat}{x:VE}{S:Hp}{K:KV}{ty:TypeId}{a:Ba}
theorem aF2{l:List Vo}{j N:Nat}(hx:DP M (n+1) x)(hN:l.length=N)(h0:1<=N)(hM:N<M)(hb:N<=100000)(hj:S j=none)(hk:∀O,K (.list O (rC (dd (l.map (·.rd)))) (dd (l.map (·.rd))).length) S):
 ∀(q i:Nat) (t3:V) (S1 S2:Hp),N<=i+q->i<=N->Made 3 1 (aM S j (.iX (voV l) 94 N)) t3 S1 (ints ((l.map (·.rd)).take i)) i->cP S1 S2->lJ x (q+1) t3 (.acc j N) (.int .i64 (.ofNat N)) (.int .i64 (.ofNat i)) S2 K:=by
 intro q;have aBd:cP S (aM S j (.iX (voV l) 94 N)):= .aN hj
 have fin:∀{i:Nat} {t3:V} {S1:Hp},N<=i->i<=N->Made 3 1 (aM S j (.iX (voV l) 94 N)) t3 S1 (ints ((l.map (·.rd)).take i)) i->(x.call bN [t3] S1 λv9 S=>aQ v9 S K):=by
  intro i t3 S1 h1 h2 a;have:i=N:=by omega
  subst this;rw [oS (by rw [jB];omega)]at a;have aKR:=aBd.trans a.le;rcases a.is with ⟨h3,_,_⟩ | ⟨k,rfl,h4,rfl⟩
  ·omega
  ·refine aFZ (S':=S) rfl hx (by rw [jB,hN]) hM (by omega) (aBd.none h4) aKR h0 aB λO=>aF (hk O)
 induction q with
 | zero=>
  intro i t3 S1 S2 hq hi a hs;rw [oL];unfold kQ gG;refine RC S1 hs ?_;rw [bO,bG,if_neg (by simp;omega)];exact fin hq hi a
 | succ q ih=>
  intro i t3 S1 S2 hq hi a hs;rw [oL];unfold kQ gG;refine RC S1 hs ?_;rw [bO,bG];by_cases hlt:i<N
  ·have hj1:S1 j=some (.iX (voV l) 94 N):=a.le _ _ aB
   rw [if_pos (by simp;omega),wZ hlt];refine aNk hj1 (by rw [Wh];omega) ?_;rw [aNl l i l[i] (aP (by omega))];refine dQ (l:=OM.vv) rfl λk hk0=>?_;refine gJ aB (by rfl) (by rfl) (by rfl) ?_;rw [cW,gW];refine kN aB rfl ?_;refine aBc λk2 tZ=>?_;obtain⟨_,hk3⟩:=AF tZ;refine a.app (bytes:=8) (m:=1) (new:=[.int .i64 l[i].rd]) ((cP.aN hk0).trans (.aN tZ)) (λp hp=>a.le.none (AF (AF hp).2).2) (λr hr=>LN aB rfl hr) (by omega) rfl rfl (by omega) ?_;intro t4 S4 S3 b hle;rw [iM,KG (by omega)];rw [<-aF1 l i (by omega)]at b;exact ih (i+1) t4 S3 S4 (by omega) (by omega) b hle
  ·rw [if_neg (by simp;omega)]
   exact fin (by omega) hi a
theorem Mw(hx:DP M (n+2) x)(hM:100000<M)(k:vP S b t m ty a)(hk:∀O,K (.list O (rC a.rounds) a.rounds.length) S):x.call kI [.ptr t 0] S K:=by
 refine hx.call rfl λy hy=>?_;rw [RS];unfold DQ;obtain⟨l0,h1,h2,h3⟩:=k.okl;have hs:=Dm k.inv.OJ h3;have hlen:a.l.length<=2400:=RU k.inv.OJ k.inv.ok.1.2 λv hv=>(k.inv.vs v hv).1;have hm:y.most=M:=hy.most;obtain⟨p,hp⟩:=pV (show y.most≠0 by omega);refine hy.yE (f:=fU) (g:=Do) rfl ⟨t,m,a.s.n.toNat,l0,rfl,h1,h2,by rw [hs];exact k.inv.OJ,λe=>?_,λe j hj=>?_⟩
 ·rw [hs]at e
  simp only [Qm,hp];rw [oL];unfold kQ gG;refine aH ?_;rw [bO,bG,if_neg (by simp)];refine hy.call rfl λz hz=>?_;rw [mX];unfold jQ;rw [Qm,bO,bG,if_pos (by simp)];have e2:a.rounds=[]:=by unfold Ba.rounds;rw [e];rfl
  rw [e2]at hk;exact DD (cs:=[]) (n:=0) (.refl S) .nil λO=>aF (hk O)
 ·rw [hs]
  simp only [CB,hp];rw [hs]at e
  have h0:1<=a.l.length:=by
   cases q:a.l with
   | nil=>exact absurd q e
   | cons=>simp
  exact aF2 hy rfl h0 (by omega) (by omega) hj hk p 0 .nil _ _ (by omega) (by omega) .nil (.refl _)
theorem NQ(hx:DP M (n+2) x)(k:vP S b t m ty a){r:Int}(hr:0<=r/\r<=1000000)(hk:K (.tuple [.agg ((a.pr r).getD OM).vv,.bool (a.pr r).isSome]) S):x.call fM [.ptr b 0,.int .i64 r] S K:=by
 refine hx.call rfl λy hy=>?_;rw [KL];unfold xE gM;refine dQ (l:=OM.vv) rfl λi hi=>?_;have eU:cP S (aM S i (.row OM.vv 94)):= .aN hi;have k1:=k.le eU;have MD:∀{K:KV},bJ (.ptr b 15) (aM S i (.row OM.vv 94)) K=K (.ptr t 0) (aM S i (.row OM.vv 94)):=aZ k1.row;simp only [aV,gW,gB,MD];have Cd:=k.inv.ok;refine WV rfl hy k1.row (by have:=Cd.2.1;omega) hr (by have:=Cd.1;omega) ?_;simp only [MD,Uu];obtain⟨l0,h1,h2⟩:=k1.Ii;refine aNm rfl hy h1 ?_;rw [Qt k.inv.OJ h2];simp only [vE,vF];refine gJ aB (by rfl) (by rfl) (by rfl) ?_;rw [cW];refine eX aB rfl ?_;exact cL (.aN hi) hk
theorem Ak(hx:DP M (n+2) x)(k:vP S b t m ty a){r:Int}{kd:Nat}{tx:List UInt8}(hk:K (.bool (a.IC r kd tx)) S):x.call jG [.ptr b 0,.int .i64 r,.int .u8 (.ofNat kd),.str tx] S K:=by
 refine hx.call rfl λy hy=>?_;rw [NL];unfold AN gN;have MD:LD b 15 S (.ptr t 0):=aZ k.row;simp only [aV,gW,gB,MD];obtain⟨l0,h1,h2,h3⟩:=k.okl;refine hy.yE (f:=oC) (g:=Wk) rfl ⟨t,m,a.s.n.toNat,l0,r,kd,tx,rfl,h1,h2,?_⟩;rw [Dl h3];refine Mv rfl hy k.row (by have:=k.inv.ok;have:=this.1;have:=k.inv.ok.2.2.1;omega) ?_;exact aF hk
end
def eF(l:List (List UInt8)):List Dt:=l.map Dt.str
theorem Qx(l:List (List UInt8)):(eF l).length=l.length:=by simp [eF]
section
variable{M n b t m:Nat}{x:VE}{S:Hp}{K:KV}{ty:TypeId}{a:Ba}
theorem aIQ{l:List (List UInt8)}{tx:List UInt8}{O:Tag}(hl:l.length<=1000000)(hk:∀i:Int,decide (0<=i)=l.contains tx->K (.int .i64 i) S):∀(q i:Nat),l.length<=i+q->i<=l.length->(∀j,j<i->l[j]? ≠some tx)->fJ x (q+1) (.list O (eF l) l.length) (.str tx) (.int .i64 (.ofNat l.length)) (.int .i64 (.ofNat i)) S K:=by
 have fin:∀i,l.length<=i->(∀j,j<i->l[j]? ≠some tx)->aQ (.int .i64 (.negSucc 0)) S K:=by
  intro i h1 h2;refine aF (hk _ ?_);rw [qU,Rl];simp only [decide_eq_true_eq];constructor
  ·intro h;exact absurd h (by decide)
  ·intro h
   obtain⟨j,hj⟩:=GI h;have:=(dS.1 hj).1;exact absurd hj (h2 j (by omega))
 intro q;induction q with
 | zero=>
  intro i h1 h2 h3;rw [mN];unfold iK;refine aH ?_;rw [bO,bG,if_neg (by simp;omega)];exact fin i h1 h3
 | succ q ih=>
  intro i h1 h2 h3;rw [mN];unfold iK;refine aH ?_;rw [bO,bG];by_cases hlt:i<l.length
  ·rw [if_pos (by simp;omega),nR hlt,OE,lS,kF (a:= .str l[i]) (by unfold eF;rw [jA,aP hlt];rfl)]
   show aD PP .eql 9 (.str tx) (.str l[i]) _;rw [tK,bG];by_cases e:tx=l[i]
   ·rw [if_pos (by simp [e])]
    refine aF (hk _ ?_);rw [qU,Rl];simp only [decide_eq_true_eq];exact⟨λ_=>by rw [e];exact nO hlt,λ_=>Int.natCast_nonneg _⟩
   ·rw [if_neg (by simp [e]),iM,KG (by omega)]
    refine ih (i+1) (by omega) (by omega) λj hj=>?_;by_cases Sl:j=i
    ·subst Sl;rw [aP hlt];intro q;injection q with q;exact e q.symm
    ·exact h3 j (by omega)
  ·rw [if_neg (by simp;omega)]
   exact fin i (by omega) h3
theorem aDf(hx:DP M (n+2) x){l:List (List UInt8)}{tx:List UInt8}{O:Tag}(hl:l.length<=1000000)(hM:l.length<M)(hk:K (.bool (l.contains tx)) S):x.call jN [.list O (eF l) l.length,.str tx] S K:=by
 refine hx.call rfl λy hy=>?_;rw [wN];unfold oD;refine hy.call rfl λz hz=>?_;rw [zB];unfold pT;have hm:z.most=M:=hz.most;obtain⟨p,hp⟩:=pV (show z.most≠0 by omega);rw [dV,hp];refine aIQ hl (λi e=>?_) p 0 (by omega) (by omega) (λj hj=>by omega);rw [kG];refine aF ?_;have:decide (Int.ofNat 0<=i)=l.contains tx:=e;rw [this];exact hk
theorem to2(hx:DP M (n+1) x)(k:vP S b t m ty a){z:Int}(h1:1<=z)(h2:z<=3)(hk:pU S b t m ty (a.to z) λS'=>K (.tuple []) S'):x.call dK [.ptr b 0,.int .i64 z] S K:=
 aO9 rfl hx k.row (hk _ .aDe (k.set rfl (k.inv.to h1 h2)))
theorem aIR(hx:DP M (n+2) x)(k:vP S b t m ty a){r:Int}(h1:a.s.rd<=r)(h2:r<=99)(hk:pU S b t m ty (a.gP r) λS'=>K (.tuple []) S'):x.call jS [.ptr b 0,.int .i64 r] S K:=
 aKL rfl rfl hx k.row (hk _ .aDe (k.set rfl (k.inv.gP h1 h2)))
theorem aKS(hM:M≠0)(hx:DP M (n+4) x)(k:vP S b t m ty a){kd:Nat}{vl:Int}{tx:List UInt8}
 (hk:pU S b t m ty (a.say kd vl tx).1 λS'=>∀O,K (.list O (OK (a.say kd vl tx).2) 1) S'):x.call cJ [.ptr b 0,.int .u8 (.ofNat kd),.int .i64 vl,.str tx] S K:=aPc hM rfl rfl rfl rfl rfl hx k hk
end
section
variable{M n b t m:Nat}{x:VE}{S:Hp}{K:KV}{ty:TypeId}{a:Ba}
theorem CS{s:Bs}(h:S b=some (.row (lM s t) ty)):(LD b 0 S (.int .i64 s.h))/\(LD b 1 S (.int .i64 s.n))/\(LD b 2 S (.int .i64 s.t))/\(LD b 3 S (.int .i64 s.me))/\(LD b 4 S (.int .i64 s.rd))/\(LD b 5 S (.int .i64 s.st))/\(LD b 6 S (.int .i64 s.LY))/\(LD b 7 S (.str s.lock))/\(LD b 8 S (.str s.valid))/\(LD b 9 S (.int .i64 s.yZ))/\(LD b 10 S (.int .i64 s.nU))/\(LD b 11 S (.bool s.prop))/\(LD b 12 S (.bool s.seen))/\(LD b 13 S (.str s.dec))/\(LD b 14 S .nil)/\(LD b 15 S (.ptr t 0)):=
 ⟨aZ h,aZ h,aZ h,aZ h,aZ h,aZ h,aZ h,aZ h,aZ h,aZ h,aZ h,aZ h,aZ h,aZ h,aZ h,aZ h⟩
theorem Dp{i:Nat}{v:Vo}{ty:TypeId}(h:S i=some (.row v.vv ty)):(LD i 0 S (.int .i64 v.fr))/\(LD i 1 S (.int .i64 v.rd))/\(LD i 2 S (.int .u8 (.ofNat v.kd)))/\(LD i 3 S (.int .i64 v.vl))/\(LD i 4 S (.str v.tx)):=
 ⟨aZ h,aZ h,aZ h,aZ h,aZ h⟩
def Res(K:KV)(r:R3)(S':Hp):Prop:=∀O,K (.tuple [.list O (OK r.2.1) r.2.1.length,.bool r.2.2]) S'
theorem WX{r:R3}(hk:pU S b t m ty r.1 (Res K r))(k:vP S b t m ty a)(e:r=a.no){S1:Hp}(l:cP S S1):aQ (.tuple [.nil,.bool false]) S1 K:=by
 subst e;exact GE (cs:=[]) (n:=0) l .nil λO=>hk S .refl k O
theorem shrink{a':Ba}{S2 S3:Hp}{K0:Hp->Prop}(k:vP S b t m ty a)(le:cP S S2)(hk:pU S b t m ty a' K0)(c:Ch S2 S3 b m)(k3:vP S3 b t m ty a'):∃S',cP S' S3/\(∀q,q≠b->q≠m->S' q=S q)/\K0 S':=by
 have h:∀q,q≠b->q≠m->∀o,S q=some o->S3 q=some o:=λq h1 h2 o e=>by rw [c q h1 h2];exact le q o e
 refine⟨λq=>if q=b\/q=m then S3 q else S q,λq o e=>?_,λq h1 h2=>if_neg (by simp [h1,h2]),hk _ (λq h1 h2=>if_neg (by simp [h1,h2])) ?_⟩
 ·have e:(if q=b\/q=m then S3 q else S q)=some o:=e
  by_cases hq:q=b\/q=m
  ·rw [if_pos hq]at e;exact e
  ·rw [if_neg hq]at e
   simp only [not_or]at hq;exact h q hq.1 hq.2 o e
 ·obtain⟨l0,h1,h2⟩:=k3.Ii
  obtain⟨l1,g1,g2⟩:=k.Ii
  have et:S t=some (.row [.int .i64 a'.s.n,.sP m] 160):=by
   have q1:=h t (dB k.bt) k.tm _ g1.row;rw [h1.row]at q1;rw [g1.row,<-q1]
  refine⟨?_,⟨l0,⟨?_,?_⟩,h2⟩,k3.inv,k.bt,k.bm,k.tm⟩
  ·show(if b=b\/b=m then S3 b else S b)=_
   rw [if_pos (.inl rfl)];exact k3.row
  ·show(if t=b\/t=m then S3 t else S t)=_
   rw [if_neg (by simp [dB k.bt,k.tm])];exact et
  ·show(if m=b\/m=m then S3 m else S m)=_
   rw [if_pos (.inr rfl)];exact h1.map
theorem IE{r:R3}{S2 S3:Hp}(k:vP S b t m ty a)(le:cP S S2)(hk:pU S b t m ty r.1 (Res K r))(c:Ch S2 S3 b m)(k3:vP S3 b t m ty r.1){O:Tag}(hb:r.2.2=true):aQ (.tuple [.list O (OK r.2.1) r.2.1.length,.bool true]) S3 K:=by
 obtain⟨S',q1,_,q2⟩:=shrink k le hk c k3;exact GE q1 .list λO=>by have:=q2 O;rwa [hb]at this
theorem Wm(a:Ba)(k:Nat)(vl:Int)(tx:List UInt8):(a.say k vl tx).1.s=a.s:=gY.Qv _ _
def wV(want:List UInt8)(may:List (List UInt8))(O:Tag):List V:=[.str want,.list O (eF may) may.length]
theorem aBe{want:List UInt8}{may:List (List UInt8)}{O:Tag}{K:KV}(hk:∀i,S i=none->K (.ptr i 0) (aM S i (.row (wV want may O) 119))):pO 119 (.agg (wV want may O)) S K:=fR rfl hk
theorem aF3{rs:List Int}{O:Tag}(hx:DP M (n+2) x)(k:vP S b t m ty a)(hr:∀r∈rs,0<=r/\r<=99)(hl:rs.length<=100000)(hk:match rs.findSome? a.BM with
 | some tx=>pU S b t m ty ⟨{a.s with dec:=tx},a.l⟩ (Res K (⟨{a.s with dec:=tx},a.l⟩,[],true))
 | none=>pU S b t m ty a (Res K a.no)):∀(q i:Nat) (S1:Hp),rs.length<=i+q->i<=rs.length->(rs.take i).findSome? a.BM=none->cP S S1->iE x (q+1) (.ptr b 0) (.list O (rC rs) rs.length) (.int .i64 (.ofNat rs.length)) (.int .i64 (.ofNat i)) S1 K:=by
 have fin:∀i,rs.length<=i->(rs.take i).findSome? a.BM=none->aQ (.tuple [.nil,.bool false]) S K:=by
  intro i h1 h2;rw [oS h1]at h2;rw [h2]at hk;exact WX hk k rfl (.refl S)
 intro q;induction q with
 | zero=>
  intro i S1 h1 h2 h3 hle;rw [tF];unfold nT Av rW ST BD gQ gG gM;refine RC S hle ?_;rw [bO,bG,if_neg (by simp;omega)];exact fin i h1 h3
 | succ q ih=>
  intro i S1 h1 h2 h3 hle;rw [tF];unfold nT Av rW ST BD gQ gG gM;refine RC S hle ?_;rw [bO,bG];by_cases hlt:i<rs.length
  ·rw [if_pos (by simp;omega),nR hlt,OE,lS,kF (a:= .int .i64 rs[i]) (by unfold rC;rw [jA,aP hlt];rfl)]
   have hri:=hr rs[i] (nO hlt);show x.call fM [.ptr b 0,.int .i64 rs[i]] S _;refine NQ hx k ⟨hri.1,by omega⟩ ?_;simp only [vE,vF];refine dQ (l:=OM.vv) rfl λj hj=>?_;refine gJ aB (by rfl) (by rfl) (by rfl) ?_;rw [cW];have eU:cP S (aM S j (.row ((a.pr rs[i]).getD OM).vv 94)):= .aN hj;have rj:aM S j (.row ((a.pr rs[i]).getD OM).vv 94) j=some (.row ((a.pr rs[i]).getD OM).vv 94):=aB;have hbj:b≠j:=λe=>by have:=k.row;rw [e,hj]at this;cases this
   generalize hS2:aM S j (.row ((a.pr rs[i]).getD OM).vv 94)=S2 at eU rj;have k2:=k.le eU;obtain⟨m0,m1,m2,m3,m4⟩:=Dp rj
   have aLS:a.BM rs[i]=none->aD PP .add 3 (.int .i64 (.ofNat i)) (.int .i64 (.ofNat 1)) λv21=>iE x (q+1) (.ptr b 0) (.list O (rC rs) rs.length) (.int .i64 (.ofNat rs.length)) v21 S2 K:=by
    intro e;rw [iM,KG (by omega)];refine ih (i+1) S2 (by omega) (by omega) ?_ eU;rw [tO,aP hlt,List.findSome?_append,h3];simp [e]
   cases hp:a.pr rs[i]with
   | none=>
    rw [hp]at m0 m1 m2 m3 m4;simp only [Iu,aV,aG,aL,qC,aX,bG,if_false,bQ];exact aLS (by unfold Ba.BM;rw [hp])
   | some v=>
    rw [hp]at m0 m1 m2 m3 m4;have m4:LD j 4 S2 (.str v.tx):=m4;simp only [Bc,aV,aG,aL,aI,aX,if_true,m4];refine Ak hx k2 ?_;simp only [bG];cases ha:a.IC rs[i] 4 v.tx with
    | false=>
     simp only [if_false,bQ];exact aLS (by unfold Ba.BM;simp [hp,ha])
    | true=>
     have hd:rs.findSome? a.BM=some v.tx:=by
      have:a.BM rs[i]=some v.tx:=by unfold Ba.BM;simp [hp,ha]
      have e3:(rs.drop i).findSome? a.BM=some v.tx:=by rw [zG hlt,List.findSome?_cons,this]
      have e4:=lT (λl=>List.findSome? a.BM l) (MF i rs);simp only [List.findSome?_append,h3,e3]at e4;exact e4.symm
     rw [hd]at hk;simp only [if_true,m4];refine nJ k2.row rfl (by simp [lM]) ?_;refine GE (S':=aM S b (.row (lM {a.s with dec:=v.tx} t) ty)) (cs:=[]) (n:=0) (cP.aM eU) .nil λO=>?_;have i2:gY ⟨{a.s with dec:=v.tx},a.l⟩:=⟨k.inv.ok,k.inv.rd,k.inv.st,k.inv.LY,k.inv.lk,k.inv.vl,(k.inv.Mt hp).2.2.2.2.1,k.inv.OJ,k.inv.vs⟩;exact hk _ .aDe (k.set rfl i2) O
  ·rw [if_neg (by simp;omega)]
   exact fin i (by omega) h3
theorem Mx(k:gY a):a.rounds.length<=2400:=by
 have h1:=aIK (a.l.map (·.rd)) (a.l.map (·.rd)).length;have h2:=RU k.OJ k.ok.1.2 λv hv=>(k.vs v hv).1;rw [jB]at h1;unfold Ba.rounds dd;rw [jB];omega
theorem aIS(hM:100000<M)(hx:DP M (n+3) x)(k:vP S b t m ty a){want:List UInt8}{may:List (List UInt8)}{Ow:Tag}(hk:pU S b t m ty a.xP.1 (Res K a.xP)):x.call jE [.ptr b 0,.agg (wV want may Ow)] S K:=by
 refine hx.call rfl λy hy=>?_;rw [NJ];unfold AM gN;refine aBe λi hi=>?_;have eU:cP S (aM S i (.row (wV want may Ow) 119)):= .aN hi;generalize hS1:aM S i (.row (wV want may Ow) 119)=S1 at eU;have k1:=k.le eU;obtain⟨l0,l1,l2,l3,l4,l5,l6,l7,l8,l9,l10,l11,WY,ON,UJ,MD⟩:=CS k1.row;simp only [aV,aG,MD];refine Mw hy hM k1 λO=>?_;have hm:y.most=M:=hy.most;have hlen:=Mx k.inv;obtain⟨p,hp⟩:=pV (show y.most≠0 by omega);simp only [dV,hp];refine aF3 hy k (λr hr=>k.inv.WU hr) (by omega) ?_ p 0 S1 (by omega) (by omega) rfl eU;unfold Ba.xP at hk;cases e:a.rounds.findSome? a.BM with
 | none=>rw [e]at hk;exact hk
 | some tx=>rw [e]at hk;exact hk
theorem Qy(hM:100000<M)(hx:DP M (n+5) x)(k:vP S b t m ty a){tx:List UInt8}{free:Bool}(hk:pU S b t m ty (a.lZ tx free).1 (Res K (Ba.yes (a.lZ tx free)))):x.call kL [.ptr b 0,.str tx,.bool free] S K:=by
 refine hx.call rfl λy hy=>?_;rw [LV];unfold yX Av rW ST BD gQ;have hm:y.most≠0:=by rw [hy.most];omega
 refine to2 hy k (by decide) (by decide) λS1 c1 k1=>?_
 have jo:∀u,(if !free&& !decide (a.s.lock=tx)then []else tx)=u->kP y (.ptr b 0) (.str u) S1 K:=by
  intro u e;rw [EJ y hm];unfold tH;refine aH ?_;refine aKS (by omega) hy k1 λS2 c2 k2 O=>?_;have e2:a.lZ tx free=(a.to 2).say 3 0 u:=by unfold Ba.lZ;rw [e]
  rw [e2]at hk;exact GE (.refl S2) .list λO=>hk S2 (c1.trans c2) k2 O
 obtain⟨l0,l1,l2,l3,l4,l5,l6,l7,l8,l9,l10,l11,WY,ON,UJ,MD⟩:=CS k1.row;have l7:LD b 7 S1 (.str a.s.lock):=l7;cases free with
 | true=>
  simp only [aL,qC,aX,bG,gX,eH,if_false,bQ];exact jo tx rfl
 | false=>
  simp only [aV,aG,aL,aI,aX,bG,gX,iH,if_true,l7,LO];by_cases e:a.s.lock=tx
  ·simp only [e,decide_true,eH,if_false,bQ]
   exact jo tx (by simp [e])
  ·simp only [e,decide_false,iH,if_true]
   exact jo [] (by simp [e])
theorem aKT(hM:100000<M)(hx:DP M (n+6) x)(k:vP S b t m ty a){want:List UInt8}{may:List (List UInt8)}{Ow:Tag}(NS:may.length<=100000)(hk:pU S b t m ty (a.fresh may).1 (Res K (a.fresh may))):x.call mC [.ptr b 0,.agg (wV want may Ow)] S K:=by
 refine hx.call rfl λy hy=>?_;rw [OS];unfold BE XG zE jK uM wF gQ gG gM;have hm:y.most≠0:=by rw [hy.most];omega
 refine aBe λi hi=>?_;have eU:cP S (aM S i (.row (wV want may Ow) 119)):= .aN hi;have ri:aM S i (.row (wV want may Ow) 119) i=some (.row (wV want may Ow) 119):=aB;generalize hS1:aM S i (.row (wV want may Ow) 119)=S1 at eU ri;have k1:=k.le eU;obtain⟨l0,l1,l2,l3,l4,l5,l6,l7,l8,l9,l10,l11,WY,ON,UJ,MD⟩:=CS k1.row;simp only [aV,aG,aL,l4];have hrd:=k.inv.rd;refine NQ hy k1 (by omega) ?_;simp only [vE,vF];refine dQ (l:=OM.vv) rfl λj hj=>?_;refine gJ aB (by rfl) (by rfl) (by rfl) ?_;rw [cW];have XS:i≠j:=λe=>by rw [<-e,ri]at hj;cases hj
 have hbj:b≠j:=λe=>by have:=k1.row;rw [e,hj]at this;cases this
 have lA:cP S1 (aM S1 j (.row ((a.pr a.s.rd).getD OM).vv 94)):= .aN hj;have rj:aM S1 j (.row ((a.pr a.s.rd).getD OM).vv 94) j=some (.row ((a.pr a.s.rd).getD OM).vv 94):=aB;generalize hS2:aM S1 j (.row ((a.pr a.s.rd).getD OM).vv 94)=S2 at lA rj;have le:=eU.trans lA;have k2:=k1.le lA;have Qz:=lA _ _ ri;obtain⟨m0,m1,m2,m3,m4⟩:=Dp rj;obtain⟨l0,l1,l2,l3,l4,l5,l6,l7,l8,l9,l10,l11,WY,ON,UJ,MD⟩:=CS k2.row;have w1:LD i 1 S2 (.list Ow (eF may) may.length):=aZ Qz;have no:a.fresh may=a.no->aQ (.tuple [.nil,.bool false]) S2 K:=λe=>WX hk k e le;unfold Ba.fresh at no hk;simp only [l5,gD,aG,aX];by_cases h1:a.s.st=1
 ·have e1:decide (a.s.st=Int.ofNat 1)=true:=aU h1
  cases hp:a.pr a.s.rd with
  | none=>
   rw [hp]at no;simp only [e1,Iu,aI,cZ,aX,bG,gX,eH,iH,if_true,if_false,bQ];exact no rfl
  | some v=>
   rw [hp]at m3 m4 no hk;have m3:LD j 3 S2 (.int .i64 v.vl):=m3;have m4:LD j 4 S2 (.str v.tx):=m4;simp only [e1,Bc,aI,aX,gX,eH,if_false,bQ,m3,gD];by_cases h2:v.vl= -1
   ·have e2:decide (v.vl=Int.negSucc 0)=true:=aU h2
    simp only [e2,aI,eH,if_false,bQ,w1,m4];refine aDf hy (by omega) (by omega) ?_;cases h3:may.contains v.tx with
    | false=>
     simp only [bG,gX,iH,if_true];exact no (by simp only [h3,Bool.and_false];rfl)
    | true=>
     simp only [bG,gX,eH,if_false,bQ,m4,l7,tK];have h4:(decide (a.s.st=1)&&decide (v.vl= -1)&&may.contains v.tx)=true:=by simp [h1,h2];simpa using h3
     simp only [h4,if_true]at hk;refine Qy hM hy k2 λS3 c3 k3 O=>?_;have e5:(a.lZ v.tx (decide (a.s.lock=[]))).1.s=(a.to 2).s:=Wm _ _ _ _;have r3:=k3.row;rw [e5]at r3;have l7:LD b 7 S3 (.str a.s.lock):=aZ r3;simp only [aEf,vE,vF,l7];exact IE k le hk c3 k3 rfl
   ·have e2:decide (v.vl=Int.negSucc 0)=false:=aR h2
    simp only [e2,cZ,bG,iH,if_true];exact no (by simp [h2])
 ·have e1:decide (a.s.st=Int.ofNat 1)=false:=aR h1
  simp only [e1,cZ,aX,bG,iH,if_true];refine no ?_;cases a.pr a.s.rd<;>simp [h1]
theorem aPd(hM:100000<M)(hx:DP M (n+6) x)(k:vP S b t m ty a){want:List UInt8}{may:List (List UInt8)}{Ow:Tag}(hk:pU S b t m ty (a.old).1 (Res K (a.old))):x.call oB [.ptr b 0,.agg (wV want may Ow)] S K:=by
 refine hx.call rfl λy hy=>?_;rw [TL];unfold EV XG zE jK uM wF gQ gG gM;have hm:y.most≠0:=by rw [hy.most];omega
 refine aBe λi hi=>?_;have eU:cP S (aM S i (.row (wV want may Ow) 119)):= .aN hi;have ri:aM S i (.row (wV want may Ow) 119) i=some (.row (wV want may Ow) 119):=aB;generalize hS1:aM S i (.row (wV want may Ow) 119)=S1 at eU ri;have k1:=k.le eU;obtain⟨l0,l1,l2,l3,l4,l5,l6,l7,l8,l9,l10,l11,WY,ON,UJ,MD⟩:=CS k1.row;simp only [aV,aG,aL,l4];have hrd:=k.inv.rd;refine NQ hy k1 (by omega) ?_;simp only [vE,vF];refine dQ (l:=OM.vv) rfl λj hj=>?_;refine gJ aB (by rfl) (by rfl) (by rfl) ?_;rw [cW];have XS:i≠j:=λe=>by rw [<-e,ri]at hj;cases hj
 have hbj:b≠j:=λe=>by have:=k1.row;rw [e,hj]at this;cases this
 have lA:cP S1 (aM S1 j (.row ((a.pr a.s.rd).getD OM).vv 94)):= .aN hj;have rj:aM S1 j (.row ((a.pr a.s.rd).getD OM).vv 94) j=some (.row ((a.pr a.s.rd).getD OM).vv 94):=aB;generalize hS2:aM S1 j (.row ((a.pr a.s.rd).getD OM).vv 94)=S2 at lA rj;have le:=eU.trans lA;have k2:=k1.le lA;have Qz:=lA _ _ ri;obtain⟨m0,m1,m2,m3,m4⟩:=Dp rj;obtain⟨l0,l1,l2,l3,l4,l5,l6,l7,l8,l9,l10,l11,WY,ON,UJ,MD⟩:=CS k2.row;have no:a.old=a.no->aQ (.tuple [.nil,.bool false]) S2 K:=λe=>WX hk k e le;unfold Ba.old at no hk;simp only [l5,gD,aG,aX];by_cases h1:a.s.st=1
 ·have e1:decide (a.s.st=Int.ofNat 1)=true:=aU h1
  cases hp:a.pr a.s.rd with
  | none=>
   rw [hp]at no;simp only [e1,Iu,aI,cZ,aX,bG,gX,eH,iH,if_true,if_false,bQ];exact no rfl
  | some v=>
   rw [hp]at m3 m4 no hk;have m3:LD j 3 S2 (.int .i64 v.vl):=m3;have m4:LD j 4 S2 (.str v.tx):=m4;simp only [e1,Bc,aI,aX,gX,eH,if_false,bQ,m3,cV];by_cases h2:v.vl= -1
   ·have e2:decide (v.vl=Int.negSucc 0)=true:=aU h2
    simp only [e2,cZ,bG,if_true];exact no (by simp [h2])
   ·have e2:decide (v.vl=Int.negSucc 0)=false:=aR h2
    simp only [e2,aI,if_false,bQ,m3,m4];refine Ak hy k2 ?_;cases h3:a.IC v.vl 3 v.tx with
    | false=>
     simp only [bG,gX,iH,if_true];exact no (by simp [h3])
    | true=>
     simp only [bG,gX,eH,if_false,bQ,m3,m4,l9,yR];have h4:(decide (a.s.st=1)&& !decide (v.vl= -1)&&a.IC v.vl 3 v.tx)=true:=by simp [h1,h2,h3]
     simp only [h4,if_true]at hk;refine Qy hM hy k2 λS3 c3 k3 O=>?_;have e5:(a.lZ v.tx (decide (a.s.yZ<=v.vl))).1.s=(a.to 2).s:=Wm _ _ _ _;have r3:=k3.row;rw [e5]at r3;have l9:LD b 9 S3 (.int .i64 a.s.yZ):=aZ r3
     have hjm:j≠m:=λe=>by
      obtain⟨_,q1,_⟩:=k1.Ii;have:=q1.map;rw [<-e,hj]at this;cases this
     have rj3:S3 j=some (.row v.vv 94):=by rw [c3 j (dB hbj) hjm,rj,hp];rfl
     have m3:LD j 3 S3 (.int .i64 v.vl):=aZ rj3;simp only [xN,vE,vF,l9,m3];exact IE k le hk c3 k3 rfl
 ·have e1:decide (a.s.st=Int.ofNat 1)=false:=aR h1
  simp only [e1,cZ,aX,bG,iH,if_true];refine no ?_;cases a.pr a.s.rd<;>simp [h1]
theorem aF4(hM:100000<M)(hx:DP M (n+6) x)(k:vP S b t m ty a){want:List UInt8}{may:List (List UInt8)}{Ow:Tag}(hk:pU S b t m ty (a.nothing).1 (Res K (a.nothing))):x.call kJ [.ptr b 0,.agg (wV want may Ow)] S K:=by
 refine hx.call rfl λy hy=>?_;rw [LT];unfold yV zE jK uM wF gQ gG gM;have hm:y.most≠0:=by rw [hy.most];omega
 refine aBe λi hi=>?_;have eU:cP S (aM S i (.row (wV want may Ow) 119)):= .aN hi;have ri:aM S i (.row (wV want may Ow) 119) i=some (.row (wV want may Ow) 119):=aB;generalize hS1:aM S i (.row (wV want may Ow) 119)=S1 at eU ri;have k1:=k.le eU;obtain⟨l0,l1,l2,l3,l4,l5,l6,l7,l8,l9,l10,l11,WY,ON,UJ,MD⟩:=CS k1.row;have no:a.nothing=a.no->aQ (.tuple [.nil,.bool false]) S1 K:=λe=>WX hk k e eU;unfold Ba.nothing at no hk;simp only [l5,gD,aV,aG,aL,aX];by_cases h1:a.s.st=2
 ·have e1:decide (a.s.st=Int.ofNat 2)=true:=aU h1
  simp only [e1,l4,aV,aG,aI,eH,if_false,bQ];refine Ak hy k1 ?_;cases h3:a.IC a.s.rd 3 []with
  | false=>
   simp only [bG,gX,iH,if_true];exact no (by simp [h3])
  | true=>
   simp only [bG,gX,eH,if_false,bQ];rw [if_pos (by simp [h1,h3])]at hk;refine to2 hy k1 (by decide) (by decide) λS2 c2 k2=>?_;refine aKS (by omega) hy k2 λS3 c3 k3 O=>?_;exact IE k eU hk (c2.trans c3) k3 rfl
 ·have e1:decide (a.s.st=Int.ofNat 2)=false:=aR h1
  simp only [e1,cZ,bG,iH,if_true];exact no (by simp [h1])
theorem aF5(hM:100000<M)(hx:DP M (n+6) x)(k:vP S b t m ty a){want:List UInt8}{may:List (List UInt8)}{Ow:Tag}(hk:pU S b t m ty (a.vZ want).1 (Res K (a.vZ want))):x.call iN [.ptr b 0,.agg (wV want may Ow)] S K:=by
 refine hx.call rfl λy hy=>?_;rw [LU];unfold yW gG gM;have hm:y.most≠0:=by rw [hy.most];omega
 refine aBe λi hi=>?_;have eU:cP S (aM S i (.row (wV want may Ow) 119)):= .aN hi;have ri:aM S i (.row (wV want may Ow) 119) i=some (.row (wV want may Ow) 119):=aB;generalize hS1:aM S i (.row (wV want may Ow) 119)=S1 at eU ri;have k1:=k.le eU;obtain⟨l0,l1,l2,l3,l4,l5,l6,l7,l8,l9,l10,l11,WY,ON,UJ,MD⟩:=CS k1.row;have w0:LD i 0 S1 (.str want):=aZ ri;have hrd:=k.inv.rd;have Cd:=k.inv.ok;simp only [l8,l10,tK,aV,aG,bG]
 have jo:∀(u:List UInt8) (w:Int),a.wants want=(u,w)->kO y (.ptr b 0) (.str u) (.int .i64 w) S1 K:=by
  intro u w e;have no:a.vZ want=a.no->aQ (.tuple [.nil,.bool false]) S1 K:=λe=>WX hk k e eU;unfold Ba.vZ at no hk;rw [e]at no hk;rw [EI y hm];unfold tG zE jK uM wF gCf gQ gM;refine aH ?_;simp only [l5,gD,aV,aG,aL,aX];by_cases h1:a.s.st=1
  ·have e1:decide (a.s.st=Int.ofNat 1)=true:=aU h1
   simp only [e1,l11,aV,aG,aI,tL,aX,eH,if_false,bQ];cases h2:a.s.prop with
   | true=>
    simp only [l11,h2,l5,cZ,CA,aX,bG,if_true,xN,SK];exact no (by simp [h2])
   | false=>
    simp only [l3,l4,aV,aG,aI,tL,if_false,bQ];refine WV (z:=a.s.rd) rfl hy k1.row (by have:=Cd.2.1;omega) (by omega) (by have:=Cd.1;omega) ?_;simp only [l3,l5,l11,h2,gD,aX,xN,SK];by_cases h3:1+(a.s.h+a.s.rd)%a.s.n=a.s.me
    ·have e3:decide (1+(a.s.h+a.s.rd)%a.s.n=a.s.me)=true:=aU h3
     simp only [e3,tK,aI,bG,eH,if_false,bQ];by_cases h4:u=[]
     ·simp only [h4,decide_true,if_true]
      exact no (by simp [h4])
     ·simp only [h4,decide_false,if_false,bQ]
      have h5:(decide (a.s.st=1)&& !a.s.prop&&decide (a.s.pro a.s.rd=a.s.me)&& !decide (u=[]))=true:=by
       have:a.s.pro a.s.rd=a.s.me:=h3;simp [h1,h2,this,h4]
      simp only [h5,if_true]at hk;refine nJ k1.row rfl (by simp [lM]) ?_;have k2:=k1.set (s:={a.s with prop:=true}) rfl ⟨k.inv.ok,k.inv.rd,k.inv.st,k.inv.LY,k.inv.lk,k.inv.vl,k.inv.dec,k.inv.OJ,k.inv.vs⟩;refine aKS (by omega) hy k2 λS3 c3 k3 O=>?_;exact IE k eU hk (Ch.aDe.trans c3) k3 rfl
    ·have e3:decide (1+(a.s.h+a.s.rd)%a.s.n=a.s.me)=false:=aR h3
     simp only [e3,cZ,bG,iH,if_true];refine no ?_;have:¬a.s.pro a.s.rd=a.s.me:=h3;simp [this]
  ·have e1:decide (a.s.st=Int.ofNat 1)=false:=aR h1
   simp only [e1,l5,cZ,CA,aX,bG,iH,if_true,xN];exact no (by simp [h1])
 by_cases h0:a.s.valid=[]
 ·rw [if_pos (by simp [h0])]
  simp only [w0];exact jo want (.negSucc 0) (by unfold Ba.wants;rw [if_pos h0];rfl)
 ·rw [if_neg (by simp [h0])]
  exact jo _ _ (by unfold Ba.wants;rw [if_neg h0])
theorem aNn(hM:100000<M)(hx:DP M (n+6) x)(k:vP S b t m ty a){want:List UInt8}{may:List (List UInt8)}{Ow:Tag}(hk:pU S b t m ty (a.lock).1 (Res K (a.lock))):x.call mW [.ptr b 0,.agg (wV want may Ow)] S K:=by
 refine hx.call rfl λy hy=>?_;rw [RO];unfold DM zE jK uM wF gCf gQ gG gM;have hm:y.most≠0:=by rw [hy.most];omega
 refine aBe λi hi=>?_;have eU:cP S (aM S i (.row (wV want may Ow) 119)):= .aN hi;have ri:aM S i (.row (wV want may Ow) 119) i=some (.row (wV want may Ow) 119):=aB;generalize hS1:aM S i (.row (wV want may Ow) 119)=S1 at eU ri;have k1:=k.le eU;obtain⟨l0,l1,l2,l3,l4,l5,l6,l7,l8,l9,l10,l11,WY,ON,UJ,MD⟩:=CS k1.row;simp only [aV,aG,aL,l4];have hrd:=k.inv.rd;refine NQ hy k1 (by omega) ?_;simp only [vE,vF];refine dQ (l:=OM.vv) rfl λj hj=>?_;refine gJ aB (by rfl) (by rfl) (by rfl) ?_;rw [cW];have XS:i≠j:=λe=>by rw [<-e,ri]at hj;cases hj
 have hbj:b≠j:=λe=>by have:=k1.row;rw [e,hj]at this;cases this
 have lA:cP S1 (aM S1 j (.row ((a.pr a.s.rd).getD OM).vv 94)):= .aN hj;have rj:aM S1 j (.row ((a.pr a.s.rd).getD OM).vv 94) j=some (.row ((a.pr a.s.rd).getD OM).vv 94):=aB;generalize hS2:aM S1 j (.row ((a.pr a.s.rd).getD OM).vv 94)=S2 at lA rj;have le:=eU.trans lA;have k2:=k1.le lA;have Qz:=lA _ _ ri;obtain⟨m0,m1,m2,m3,m4⟩:=Dp rj;obtain⟨l0,l1,l2,l3,l4,l5,l6,l7,l8,l9,l10,l11,WY,ON,UJ,MD⟩:=CS k2.row;have no:a.lock=a.no->aQ (.tuple [.nil,.bool false]) S2 K:=λe=>WX hk k e le;unfold Ba.lock at no hk;simp only [l5,cV,aG,aX];by_cases h1:a.s.st=1
 ·have e1:decide (a.s.st=Int.ofNat 1)=true:=aU h1
  simp only [e1,l5,cZ,CA,aX,bG,if_true,xN];refine no ?_;cases a.pr a.s.rd<;>simp [h1]
 ·have e1:decide (a.s.st=Int.ofNat 1)=false:=aR h1
  simp only [e1,WY,aV,aG,aI,tL,aX,if_false,bQ];cases h2:a.s.seen with
  | true=>
   simp only [WY,h2,l5,cZ,aX,bG,if_true,xN,SK];refine no ?_;cases a.pr a.s.rd<;>simp [h2]
  | false=>
   simp only [aI,aX,gX,if_false,bQ];cases hp:a.pr a.s.rd with
   | none=>
    rw [hp]at no;simp only [Iu,WY,h2,l5,cZ,bG,iH,if_true,xN,SK];exact no rfl
   | some v=>
    rw [hp]at m4 no hk;have m4:LD j 4 S2 (.str v.tx):=m4;simp only [Bc,aV,aG,aI,eH,if_false,bQ,l4,m4];refine Ak hy k2 ?_;cases h3:a.IC a.s.rd 3 v.tx with
    | false=>
     simp only [bG,gX,iH,if_true,xN,SK,WY,h2,l5];exact no (by simp [h3])
    | true=>
     simp only [bG,gX,eH,if_false,bQ,xN,SK,WY,h2,l5,m4,l4];have h4:(!decide (a.s.st=1)&& !a.s.seen&&a.IC a.s.rd 3 v.tx)=true:=by simp [h1,h2,h3]
     simp only [h4,if_true]at hk;obtain⟨_,_,_,q1,q2,_⟩:=k.inv.Mt hp;have hp3:EK v.tx a.s.rd a.s.rd=true:=(vM _ _ _).2 ⟨q2,by omega,Je _,⟨λe=>absurd e q1,λe=>by omega⟩⟩;refine nJ k2.row rfl (by simp [lM]) ?_;have rj3:aM S2 b (.row (aE 12 [.bool true] (lM a.s t)) ty) j=some (.row v.vv 94):=by rw [aC (dB hbj),rj,hp];rfl
     have m4':∀{K:KV},bJ (.ptr j 4) (aM S2 b (.row (aE 12 [.bool true] (lM a.s t)) ty)) K=K (.str v.tx) (aM S2 b (.row (aE 12 [.bool true] (lM a.s t)) ty)):=aZ rj3;simp only [m4',aEf];refine nJ aB rfl (by simp [lM,aE]) ?_;rw [cW];refine nJ aB rfl (by simp [lM,aE]) ?_;rw [cW];have a1:gY ⟨{a.s with seen:=true,valid:=v.tx,nU:=a.s.rd},a.l⟩:=⟨k.inv.ok,k.inv.rd,k.inv.st,k.inv.LY,k.inv.lk,hp3,k.inv.dec,k.inv.OJ,k.inv.vs⟩;have k3:=k2.set (s:={a.s with seen:=true,valid:=v.tx,nU:=a.s.rd}) rfl a1;show bJ (.ptr b 5) (aM S2 b (.row (lM {a.s with seen:=true,valid:=v.tx,nU:=a.s.rd} t) ty)) _;have rj4:aM S2 b (.row (lM {a.s with seen:=true,valid:=v.tx,nU:=a.s.rd} t) ty) j=some (.row v.vv 94):=by rw [aC (dB hbj),rj,hp];rfl
     have c3:Ch S2 (aM S2 b (.row (lM {a.s with seen:=true,valid:=v.tx,nU:=a.s.rd} t) ty)) b m:= .aDe;generalize aM S2 b (.row (lM {a.s with seen:=true,valid:=v.tx,nU:=a.s.rd} t) ty)=S3 at k3 rj4 c3;have l5:LD b 5 S3 (.int .i64 a.s.st):=aZ k3.row;have l4:LD b 4 S3 (.int .i64 a.s.rd):=aZ k3.row;have m4:LD j 4 S3 (.str v.tx):=aZ rj4;simp only [l5,l4,m4,cV,bG];by_cases h5:a.s.st=3
     ·rw [if_pos (by exact aU h5)]
      rw [if_pos h5]at hk;obtain⟨S',g1,_,g2⟩:=shrink k le hk c3 k3;exact GE (cs:=[]) (n:=0) g1 .nil g2
     ·rw [if_neg (by simpa using h5)]
      rw [if_neg h5]at hk;refine nJ k3.row rfl (by simp [lM]) ?_;refine nJ aB rfl (by simp [lM,aE]) ?_;rw [cW];have a2:gY ⟨{a.s with seen:=true,valid:=v.tx,nU:=a.s.rd,lock:=v.tx,yZ:=a.s.rd},a.l⟩:=⟨k.inv.ok,k.inv.rd,k.inv.st,k.inv.LY,hp3,hp3,k.inv.dec,k.inv.OJ,k.inv.vs⟩;have k4:=k3.set (s:={a.s with seen:=true,valid:=v.tx,nU:=a.s.rd,lock:=v.tx,yZ:=a.s.rd}) rfl a2;show y.call dK [.ptr b 0,.int .i64 3] (aM S3 b (.row (lM {a.s with seen:=true,valid:=v.tx,nU:=a.s.rd,lock:=v.tx,yZ:=a.s.rd} t) ty)) _;have rj5:aM S3 b (.row (lM {a.s with seen:=true,valid:=v.tx,nU:=a.s.rd,lock:=v.tx,yZ:=a.s.rd} t) ty) j=some (.row v.vv 94):=by rw [aC (dB hbj)];exact rj4
      have c4:Ch S2 (aM S3 b (.row (lM {a.s with seen:=true,valid:=v.tx,nU:=a.s.rd,lock:=v.tx,yZ:=a.s.rd} t) ty)) b m:=c3.trans .aDe;generalize aM S3 b (.row (lM {a.s with seen:=true,valid:=v.tx,nU:=a.s.rd,lock:=v.tx,yZ:=a.s.rd} t) ty)=S4 at k4 rj5 c4;refine to2 hy k4 (by decide) (by decide) λS5 c5 k5=>?_
      have hjm:j≠m:=λe=>by
       obtain⟨_,q1,_⟩:=k1.Ii;have:=q1.map;rw [<-e,hj]at this;cases this
      have rj6:S5 j=some (.row v.vv 94):=by rw [c5 j (dB hbj) hjm];exact rj5
      have m4:LD j 4 S5 (.str v.tx):=aZ rj6;simp only [m4];refine aKS (by omega) hy k5 λS6 c6 k6 O=>?_;exact IE k le hk ((c4.trans c5).trans c6) k6 rfl
end
section
variable{M n b t m:Nat}{x:VE}{S:Hp}{K:KV}{ty:TypeId}{a:Ba}
theorem aKU{l bk:Nat}{rs:List Int}{O:Tag}{J:Nat->Hp->Prop}{E:Hp->Prop}(hl:rs.length<=1000000)(aBP:∀i S,J i S->S bk=some (.row [.list O (rC rs) rs.length] 33))
 (aPe:∀(i:Nat) (S:Hp) (K':KV) (hi:i<rs.length),J (i+1) S->(∀S',J i S'->K' (.bool true) S')->(∀S',E S'->K' (.bool false) S')->x.R l [.int .i64 (.ofNat i),.int .i64 rs[i]] S K')
 (h0:∀S,J 0 S->K (.tuple []) S) (hE:∀S,E S->K (.tuple []) S):∀(q i:Nat) (S:Hp) (z:Int),i<=q->i<=rs.length->z=(i:Int)-1->J i S->eE x (q+1) (.yield l) (.ptr bk 0) (.int .i64 z) S K:=by
 have fin:∀(q:Nat) (S:Hp) (z:Int),z= -1->J 0 S->eE x (q+1) (.yield l) (.ptr bk 0) (.int .i64 z) S K:=by
  intro q S z hz j;rw [oE];unfold jO;refine aH ?_;rw [kG,bG,if_neg (by rw [hz];decide)];exact aF (h0 S j)
 intro q;induction q with
 | zero=>
  intro i S z h1 h2 hz j;obtain rfl:i=0:=by omega
  exact fin _ S z (by omega) j
 | succ q ih=>
  intro i S z h1 h2 hz j;cases i with
  | zero=>exact fin _ S z (by omega) j
  | succ i=>
   obtain rfl:z=Int.ofNat i:=by simp at hz;exact hz
   rw [oE];unfold jO;refine aH ?_;rw [kG,bG,if_pos (by simp)];refine kN (aBP _ _ j) rfl ?_;have hi:i<rs.length:=by omega
   rw [nR hi,OE,lS,kF (a:= .int .i64 rs[i]) (by unfold rC;rw [jA,aP hi];rfl)];show fK x (.yield l) [.int .i64 (.ofNat i),.int .i64 rs[i]] S _;rw [aH0];refine aPe i S _ hi j (λS' j'=>?_) (λS' e'=>?_)
   ·simp only [gX,bG,eH,bQ,if_false,tJ]
    rw [wrap_small (by simp;omega) (by simp;omega)];exact ih i S' _ (by omega) (by omega) (by simp) j'
   ·simp only [gX,bG,iH,if_true]
    exact aF (hE S' e')
theorem aNo(hM:100000<M)(hx:DP M (n+5) x)(k:vP S b t m ty a){want:List UInt8}{may:List (List UInt8)}{Ow:Tag}(hk:pU S b t m ty a.skip.1 (Res K a.skip)):x.call bC [.ptr b 0,.agg (wV want may Ow)] S K:=by
 refine hx.call rfl λy hy=>?_;rw [RN];unfold DL gN;have aQ8:∀{S:Hp} {K:KV},(∀i,S i=none->K (.ptr i 0) (aM S i (.row [.ptr b 0] 80)))->pO 80 (.ptr b 0) S K:=λh=>h;refine aQ8 λib hib=>?_;have eU:cP S (aM S ib (.row [.ptr b 0] 80)):= .aN hib;have r1:aM S ib (.row [.ptr b 0] 80) ib=some (.row [.ptr b 0] 80):=aB;generalize aM S ib (.row [.ptr b 0] 80)=S1 at eU r1;refine aBe λiw hiw=>?_;have lA:cP S1 (aM S1 iw (.row (wV want may Ow) 119)):= .aN hiw;generalize aM S1 iw (.row (wV want may Ow) 119)=S2 at lA;refine dQ (l:=[.nil]) rfl λil lN=>?_;have GG:cP S2 (aM S2 il (.row [.nil] 23)):= .aN lN;have r3:aM S2 il (.row [.nil] 23) il=some (.row [.nil] 23):=aB;generalize aM S2 il (.row [.nil] 23)=S3 at GG r3;refine dQ (l:=[.bool false]) rfl λid Hx=>?_;have Gf:cP S3 (aM S3 id (.row [.bool false] 4)):= .aN Hx;have r4:aM S3 id (.row [.bool false] 4) id=some (.row [.bool false] 4):=aB;generalize aM S3 id (.row [.bool false] 4)=S4 at Gf r4;have k4:=k.le (((eU.trans lA).trans GG).trans Gf);have q1:=Gf _ _ (GG _ _ (lA _ _ r1));have q3:=Gf _ _ r3;refine kN q1 rfl ?_;have MD:LD b 15 S4 (.ptr t 0):=aZ k4.row;simp only [aV,aG,MD];refine Mw hy hM k4 λO=>?_;refine hy.call rfl λz hz=>?_;rw [CF];unfold rT;have aPf:∀{S:Hp} {K:KV},(∀i,S i=none->K (.ptr i 0) (aM S i (.row [.list O (rC a.rounds) a.rounds.length] 33)))->pO 33 (.list O (rC a.rounds) a.rounds.length) S K:=λh=>h;refine aPf λbk hbk=>aF ?_;have le5:cP S4 (aM S4 bk (.row [.list O (rC a.rounds) a.rounds.length] 33)):= .aN hbk;have r5:aM S4 bk (.row [.list O (rC a.rounds) a.rounds.length] 33) bk=some (.row [.list O (rC a.rounds) a.rounds.length] 33):=aB;generalize aM S4 bk (.row [.list O (rC a.rounds) a.rounds.length] 33)=S5 at le5 r5;have p1:=le5 _ _ q1;have p3:=le5 _ _ q3;have p4:=le5 _ _ r4;have k5:=k4.le le5;refine aFE λl hl=>?_;obtain⟨l0,tl,tp⟩:=k.Ii;have ne:∀{i j:Nat} {o:Ob} {S':Hp},S' i=none->S' j=some o->i≠j:=λh1 h2 e=>by rw [e,h2]at h1;cases h1
 have hb3:S2 b=some (.row (lM a.s t) ty):=(eU.trans lA) _ _ k.row;have ilb:il≠b:=ne lN hb3;have ilm:il≠m:=ne lN ((eU.trans lA) _ _ tl.map);have ilt:il≠t:=ne lN ((eU.trans lA) _ _ tl.row);have idb:id≠b:=ne Hx (GG _ _ hb3);have idm:id≠m:=ne Hx (((eU.trans lA).trans GG) _ _ tl.map);have idt:id≠t:=ne Hx (((eU.trans lA).trans GG) _ _ tl.row);have idl:id≠il:=ne Hx r3;have ibb:ib≠b:=ne hib k.row;have ibm:ib≠m:=ne hib tl.map;have lb:l≠b:=ne hl k5.row;have lm:l≠m:=ne hl ((((eU.trans lA).trans GG).trans (Gf.trans le5)) _ _ tl.map);have lt:l≠t:=ne hl ((((eU.trans lA).trans GG).trans (Gf.trans le5)) _ _ tl.row);have lib:l≠ib:=ne hl p1;have lil:l≠il:=ne hl p3;have lid:l≠id:=ne hl p4;have lbk:l≠bk:=ne hl r5;have leT:cP S S5:=(((eU.trans lA).trans GG).trans Gf).trans le5
 let lo:LoopState->Option Code->Ob:=λst pe=> .loop [2,4,5] [.ptr ib 0,.ptr il 0,.ptr id 0] 40 (aKy PP bC [.r,.l,.r,.d]) (aKz PP bC [.r,.l,.r,.d]) (aH7 PP bC [.r,.l,.r,.d]) st pe
 let S6:=aM S5 l (lo .ready none)
 have h6:∀j o,j≠l->S5 j=some o->S6 j=some o:=λj o hj e=>by show aM S5 l _ j=_;rw [aC hj];exact e
 have hm:y.most=M:=hy.most;have hlen:=Mx k.inv;show y.call iC [.yield l,.ptr bk 0] S6 _;refine hy.call rfl λw hw=>?_;rw [AP];unfold qN;refine kN (h6 _ _ (dB lbk) r5) rfl ?_;obtain⟨p,hp⟩:=pV (show w.most≠0 by have:=hw.most;omega);simp only [dV,tJ,hp];rw [wrap_small (by simp;omega) (by simp;omega)]
 refine aKU (J:=λi S'=>S'=S6/\∀r∈a.rounds.drop i,a.AU r=false)
  (E:=λS'=>∃r,a.rounds.reverse.find? a.AU=some r/\∃S7,Ch (aM S6 l (lo .busy none)) S7 b m/\vP S7 b t m ty (a.gP r)/\S'=aM (aM (aM S7 il (.row [.nil] 23)) id (.row [.bool true] 4)) l (lo .done (some .ret)))
  (by omega) (λi S' h=>by rw [h.1];exact h6 _ _ (dB lbk) r5) ?_ ?_ ?_ p a.rounds.length S6 _ (by have:=hw.most;omega) (bI _) rfl ⟨rfl,λr hr=>by rw [List.drop_length]at hr;cases hr⟩
 ·
   rintro i _ K' hi ⟨rfl,hj⟩ hT hF
   refine hw.round λv hv=>?_;refine aFB (st:= .ready) (pe:=none) (show S6 l=some (lo .ready none)from aB) IJ ?_;rw [II];unfold vH;refine aHZ (show S6 l=some (lo .ready none)from aB) ?_;have hbz:aM S6 l (.loop [2,4,5] [.ptr ib 0,.ptr il 0,.ptr id 0] 40 (aKy PP bC [.r,.l,.r,.d]) (aKz PP bC [.r,.l,.r,.d]) (aH7 PP bC [.r,.l,.r,.d]) .busy none)=aM S6 l (lo .busy none):=rfl;rw [hbz];have hSb:∀j o,j≠l->S5 j=some o->aM S6 l (lo .busy none) j=some o:=λj o hj e=>by rw [aC hj];exact h6 j o hj e
   have kb:vP (aM S6 l (lo .busy none)) b t m ty a:=by
    obtain⟨l2,t2,u2⟩:=k5.Ii;exact⟨hSb _ _ (dB lb) k5.row,⟨l2,⟨hSb _ _ (dB lt) t2.row,hSb _ _ (dB lm) t2.map⟩,u2⟩,k5.inv,k5.bt,k5.bm,k5.tm⟩
   have lbz:aM S6 l (lo .busy none) l=some (lo .busy none):=aB
   have aLT:aM (aM S6 l (lo .busy none)) l (lo .ready none)=S6:=by
    rw [cW];show aM (aM S5 l (lo .ready none)) l (lo .ready none)=_;rw [cW]
   have ib':∀{K:KV},bJ (.ptr ib 0) (aM S6 l (lo .busy none)) K=K (.ptr b 0) (aM S6 l (lo .busy none)):=aZ (hSb _ _ (dB lib) p1);have l4:∀{K:KV},bJ (.ptr b 4) (aM S6 l (lo .busy none)) K=K (.int .i64 a.s.rd) (aM S6 l (lo .busy none)):=aZ kb.row;have l2:∀{K:KV},bJ (.ptr b 2) (aM S6 l (lo .busy none)) K=K (.int .i64 a.s.t) (aM S6 l (lo .busy none)):=aZ kb.row;have MD:∀{K:KV},bJ (.ptr b 15) (aM S6 l (lo .busy none)) K=K (.ptr t 0) (aM S6 l (lo .busy none)):=aZ kb.row;have il':aM S6 l (lo .busy none) il=some (.row [.nil] 23):=hSb _ _ (dB lil) p3;have id':aM S6 l (lo .busy none) id=some (.row [.bool false] 4):=hSb _ _ (dB lid) p4;generalize hS7:aM S6 l (lo .busy none)=S7 at kb lbz aLT ib' l4 l2 MD il' id'
   have no:a.AU a.rounds[i]=false->UD l .ready none true S7 K':=by
    intro e;refine aAw lbz (hT _ ⟨aLT,λr hr=>?_⟩);rw [zG hi]at hr;rcases dA.1 hr with rfl | hr
    ·exact e
    ·exact hj r hr
   simp only [ib',l4,aV,aG,jR,aL];by_cases h1:a.s.rd<a.rounds[i]
   ·simp only [aU h1,aI,ib',l2,MD,aV,aG]
    obtain⟨l0',t1,t2,t3⟩:=kb.okl;refine hv.yE (f:=pC) (g:=aEt) rfl ⟨t,m,a.s.n.toNat,l0',a.rounds[i],rfl,t1,t2,?_⟩;rw [Dl t3];simp only [tL,ib',l4,l2,xN,Uu,jR,aX,if_true,bG];have hc:(decide (a.s.t<Int.ofNat (Hd (λv=>decide (v.rd=a.rounds[i])) a.s.n.toNat a.l)))=decide (a.s.t<(a.aM6 a.rounds[i]:Int)):=rfl;rw [hc];by_cases h2:a.s.t<(a.aM6 a.rounds[i]:Int)
    ·rw [if_pos (aU h2)]
     have hs:a.AU a.rounds[i]=true:=by unfold Ba.AU;simp [h1,h2]
     have hfd:a.rounds.reverse.find? a.AU=some a.rounds[i]:=by
      have e1:a.rounds=a.rounds.take i++(a.rounds[i]::a.rounds.drop (i+1)):=by
       rw [<-zG hi,MF]
      have e2:(a.rounds.drop (i+1)).reverse.find? a.AU=none:=by
       rw [UR];intro r hr;rw [hj r (UT.1 hr)];simp
      have e3:=lT (λq=>List.find? a.AU (List.reverse q)) e1;simp only [List.reverse_append,List.reverse_cons,DW,List.find?_append,e2]at e3;rw [e3];simp [hs]
     have hrr:=k.inv.WU (nO hi);refine aIR hv kb (by omega) hrr.2 λS8 c8 k8=>?_;have e8:S8 il=some (.row [.nil] 23):=by rw [c8 il ilb ilm];exact il'
     refine nJ e8 rfl (by simp) ?_;have e9:aM S8 il (.row (aE 0 [.nil] [.nil]) 23) id=some (.row [.bool false] 4):=by rw [aC idl,c8 id idb idm];exact id'
     refine nJ e9 rfl (by simp) ?_
     have e10:aM (aM S8 il (.row (aE 0 [.nil] [.nil]) 23)) id (.row (aE 0 [.bool true] [.bool false]) 4) l=some (lo .busy none):=by
      rw [aC lid,aC lil,c8 l lb lm];exact lbz
     refine aAw e10 (hF _ ⟨_,hfd,S8,by rw [hS7];exact c8,k8,rfl⟩)
    ·rw [if_neg (by simpa using h2)]
     exact no (by unfold Ba.AU;simp [h2])
   ·simp only [aR h1,qC,yF,ib',l4,xN,Uu,aX,bG,bQ,if_false]
    exact no (by unfold Ba.AU;simp [h1])
 ·
   rintro _ ⟨rfl,hj⟩
   refine aAx (show S6 l=some (lo .ready none)from aB) (by simp) ?_;rw [aKw]
   have hn:a.rounds.reverse.find? a.AU=none:=by
    rw [UR];intro r hr;rw [hj r (by simpa using hr)];simp
   have IF:a.skip=a.no:=by unfold Ba.skip;rw [hn]
   have f:∀j o,j≠l->S5 j=some o->aM S6 l (lo .exhausted none) j=some o:=λj o hj e=>by rw [aC hj];exact h6 j o hj e
   show mE 1 (.ptr il 0) .nil (aM S6 l (lo .exhausted none)) _;refine nJ (f _ _ (dB lil) p3) rfl (by simp) ?_;refine nJ (by rw [aC idl];exact f _ _ (dB lid) p4) rfl (by simp) ?_;refine kN (by rw [aC (dB idl)];exact aB) rfl ?_;refine kN aB rfl ?_;refine WX hk k IF ?_;intro j o e;have e5:=leT j o e;have:j≠il:=λq=>by rw [q,(((eU.trans lA)).none lN)]at e;cases e
   have h2:j≠id:=λq=>by rw [q,((((eU.trans lA).trans GG)).none Hx)]at e;cases e
   have h3:j≠l:=λq=>by rw [q,leT.none hl]at e;cases e
   rw [aC h2,aC this];exact f j o h3 e5
 ·
   rintro _ ⟨r,hr,S7,c7,k7,rfl⟩
   refine aAx (show aM _ l (lo .done (some .ret)) l=some (lo .done (some .ret))from aB) (by simp) ?_;rw [aKx];show bJ (.ptr il 0) (aM (aM (aM (aM S7 il (.row [.nil] 23)) id (.row [.bool true] 4)) l (lo .done (some .ret))) l (lo .exhausted (some .ret))) _;rw [cW];refine kN (by rw [aC (dB lil),aC (dB idl)];exact aB) rfl ?_;refine kN (by rw [aC (dB lid)];exact aB) rfl ?_;have aQ9:a.skip=(a.gP r,[],true):=by unfold Ba.skip;rw [hr]
   rw [aQ9]at hk
   have hle:cP S (aM S6 l (lo .busy none)):=λj o e=>by
    have h3:j≠l:=λq=>by rw [q,leT.none hl]at e;cases e
    rw [aC h3];exact h6 j o h3 (leT j o e)
   obtain⟨S',g1,g3,g2⟩:=shrink k hle hk c7 k7;have n1:S' il=none:=by rw [g3 il ilb ilm];exact(eU.trans lA).none lN
   have n2:S' id=none:=by rw [g3 id idb idm];exact((eU.trans lA).trans GG).none Hx
   have n3:S' l=none:=by rw [g3 l lb lm];exact leT.none hl
   exact GE (cs:=[]) (n:=0) (EM (EM (EM g1 n1) n2) n3) .nil g2
end
def Cel(vs:List V)(cs:List Dt):Prop:=vs.length=cs.length/\∀(j:Nat) (v:V) (d:Dt),vs[j]? =some v->cs[j]? =some d->∃O,v=T O d
theorem Cel.nil:Cel [] []:=⟨rfl,λj v d e=>by simp at e⟩
theorem Cel.app{a c:List V}{b d:List Dt}(h:Cel a b)(k:Cel c d):Cel (a++c) (b++d):=by
 refine⟨by simp [h.1,k.1],λj v x e1 e2=>?_⟩;have hl:=h.1;by_cases hj:j<a.length
 ·rw [fB hj]at e1
  rw [fB (by omega)]at e2;exact h.2 j v x e1 e2
 ·rw [iG (by omega)]at e1 e2
  rw [<-hl]at e2;exact k.2 _ v x e1 e2
theorem Cel.tl{O:Tag}{cs:List Dt}:Cel (Tl O 0 cs) cs:=by
 refine⟨WF _ _ _,λj v d e1 e2=>?_⟩;rw [Ly,e2]at e1;injection e1 with e1;exact⟨_,e1.symm⟩
structure RW(S0 S:Hp)(el size:Nat)(t:V)(vs:List V)(n:Nat):Prop where
 is:(n=0/\t= .nil/\vs=[])\/∃i,t= .acc i n/\S i=some (.iX vs el n)/\S0 i=none
 len:vs.length=n*size
theorem RW.nil{S0 S:Hp}{el size:Nat}:RW S0 S el size .nil [] 0:=⟨.inl ⟨rfl,rfl,rfl⟩,by simp⟩
theorem RW.keep{S0 S S':Hp}{el size n:Nat}{t:V}{vs:List V}(a:RW S0 S el size t vs n)(h:∀i,S i=some (.iX vs el n)->S' i=S i):RW S0 S' el size t vs n:=by
 refine⟨?_,a.len⟩;rcases a.is with q | ⟨i,h1,h2,h3⟩
 ·exact .inl q
 ·exact .inr ⟨i,h1,by rw [h i h2];exact h2,h3⟩
theorem RW.app{S0 S:Hp}{el size bytes n m:Nat}{t:V}{vs:List V}{O:Tag}{cs:List Dt}{K:KV}(a:RW S0 S el size t vs n)(hle:∀i,S i=none->S0 i=none)(hs:0<size)(hc:cs.length=m*size)(ho:∀d∈cs,∀O,pN (T O d)=true)(hb:(n+m)*bytes<=140737488355328/\n+m<=140737488355328)
 (hk:∀t2 S2 vs2,RW S0 S2 el size t2 vs2 (n+m)->vs2=vs++Tl O 0 cs->(∀j o,S j=some o->QW o=false->S2 j=some o)->(∀j,S0 j≠none->S2 j=S j)->K t2 S2):qG el size bytes t (.list O cs m) S K:=by
 unfold qG TF;refine⟨by omega,?_⟩;rw [oS (by omega)];cases m with
 | zero=>
  have xV:cs=[]:=mS (by simpa using hc);subst xV;have h:=hk t S vs a (by simp [Tl]) (λ_ _ e _=>e) (λ_ _=>rfl);rcases a.is with ⟨rfl,rfl,_⟩ | ⟨i,rfl,_,_⟩
  ·exact h
  ·exact h
 | succ m=>
  have zA:(Tl O 0 cs).all pN=true:=by
   rw [dJ];intro v hv;obtain⟨j,hj⟩:=GI hv;rw [Ly]at hj;cases hq:cs[j]? with
   | none=>rw [hq]at hj;cases hj
   | some d=>rw [hq]at hj;injection hj with hj;subst hj;exact ho d (wI hq) _
  have hlen:(vs++Tl O 0 cs).length=(n+(m+1))*size:=by rw [bH,WF,a.len,hc];exact(mG _ _ _).symm
  refine⟨zA,?_⟩;rcases a.is with ⟨rfl,rfl,rfl⟩ | ⟨i,rfl,h1,h2⟩
  ·refine⟨by simpa using hb,λi hi=>?_⟩
   have:=hk (.acc i (0+(m+1))) (aM S i (.iX ([]++Tl O 0 cs) el (0+(m+1)))) _ ⟨.inr ⟨i,rfl,aB,hle i hi⟩,hlen⟩ rfl (λj o e _=>by
    rw [aC (λq=>by rw [q,hi]at e;cases e)];exact e) (λj hj=>aC (λq=>hj (by rw [q];exact hle i hi)))
   simpa using this
  ·simp only [h1]
   refine⟨trivial,trivial,a.len,hb,?_⟩;refine hk _ _ _ ⟨.inr ⟨i,rfl,aB,h2⟩,hlen⟩ rfl (λj o e hg=>?_) (λj hj=>aC (λq=>hj (by rw [q];exact h2)));rw [aC (λq=>by rw [q,h1]at e;injection e with e;subst e;cases hg)];exact e
theorem RW.ret{S0 S S':Hp}{el size n:Nat}{t:V}{vs:List V}{cs:List Dt}{K:KV}(a:RW S0 S el size t vs n)(hc:Cel vs cs)(l:cP S' S)(h0:∀i,S0 i=none->(∃o,S i=some o/\QW o=true)->S' i=none)(hk:∀O,K (.list O cs n) S'):aQ t S K:=by
 rcases a.is with ⟨rfl,rfl,rfl⟩ | ⟨i,rfl,h1,h2⟩
 ·have:cs=[]:=mS (by simpa using hc.1.symm)
  subst this;exact DD l .nil hk
 ·refine DD l (.acc h1 (h0 i h2 ⟨_,h1,rfl⟩) hc.1 λj v d e1 e2=>?_) hk
  obtain⟨O,rfl⟩:=hc.2 j v d e1 e2;exact .T
theorem aIT(ms:List Mg):∀d∈OK ms,∀O,pN (T O d)=true:=by
 intro d hd O;obtain⟨g,_,hg⟩:=Iw.1 hd;simp only [Mg.dt,dA,List.not_mem_nil,or_false]at hg;rcases hg with rfl | rfl | rfl | rfl | rfl | rfl | rfl | rfl | rfl | rfl | rfl<;>rfl
theorem aEw(a b:List Mg):OK (a++b)=OK a++OK b:=by unfold OK;rw [Rr]
def cR:Nat->FuncId
 | 0=>jE
 | 1=>bC
 | 2=>mC
 | 3=>oB
 | 4=>mW
 | 5=>kJ
 | _=>iN
def fns:List V:=[.func jE [] [],.func bC [] [],.func mC [] [],.func oB [] [],.func mW [] [],.func kJ [] [],.func iN [] []]
theorem aNp{i:Nat}(h:i<7):fns[i]? =some (.func (cR i) [] []):=by
 match i,h with
 | 0,_ | 1,_ | 2,_ | 3,_ | 4,_ | 5,_ | 6,_=>rfl
section
variable{M n b t m:Nat}{x:VE}{S:Hp}{K:KV}{ty:TypeId}{a:Ba}
theorem aNq(hM:100000<M)(hx:DP M (n+6) x)(k:vP S b t m ty a){want:List UInt8}{may:List (List UInt8)}{Ow:Tag}(NS:may.length<=100000){i:Nat}(hi:i<7)(hk:pU S b t m ty (a.BB want may i).1 (Res K (a.BB want may i))):x.call (cR i) [.ptr b 0,.agg (wV want may Ow)] S K:=by
 match i,hi with
 | 0,_=>exact aIS hM hx.less.less.less k hk
 | 1,_=>exact aNo hM hx.less k hk
 | 2,_=>exact aKT hM hx k NS hk
 | 3,_=>exact aPd hM hx k hk
 | 4,_=>exact aNn hM hx k hk
 | 5,_=>exact aF4 hM hx k hk
 | 6,_=>exact aF5 hM hx k hk
theorem vP.keep{S':Hp}(k:vP S b t m ty a)(h:∀j o,S j=some o->QW o=false->S' j=some o):vP S' b t m ty a:=by
 obtain⟨l0,h1,h2⟩:=k.Ii;exact⟨h _ _ k.row rfl,⟨l0,⟨h _ _ h1.row rfl,h _ _ h1.map rfl⟩,h2⟩,k.inv,k.bt,k.bm,k.tm⟩
theorem vP.aPg(k:vP S b t m ty a){i:Nat}{vs:List V}{el q:Nat}(h:S i=some (.iX vs el q)):i≠b/\i≠m:=by
 obtain⟨l0,h1,_⟩:=k.Ii;exact⟨λe=>(by rw [e,k.row]at h;cases h),λe=>(by rw [e,h1.map]at h;cases h)⟩
end
structure DoM(S0 S:Hp)(b t m:Nat)(ty:TypeId)(a:Ba)(iw ia:Nat)(want:List UInt8)(may:List (List UInt8))(Ow:Tag):Prop where
 dI:vP S b t m ty a
 w:S iw=some (.row (wV want may Ow) 119)
 f:S ia=some (.row fns 146)
 same:∀j,S0 j≠none->j≠b->j≠m->S j=S0 j
 fw:S0 iw=none
 fa:S0 ia=none
 none:∀j,S j=none->S0 j=none
section
variable{M n b t m:Nat}{x:VE}{S0 S:Hp}{K:KV}{ty:TypeId}{a:Ba}
theorem DoM.step{a':Ba}{iw ia:Nat}{want:List UInt8}{may:List (List UInt8)}{Ow:Tag}{S2:Hp}(k0:vP S0 b t m ty a){a1:Ba}(d:DoM S0 S b t m ty a1 iw ia want may Ow)(c:Ch S S2 b m)(k:vP S2 b t m ty a'):DoM S0 S2 b t m ty a' iw ia want may Ow:=by
 obtain⟨l1,g1,_⟩:=k0.Ii;obtain⟨l2,g2,_⟩:=k.Ii;have nw:iw≠b/\iw≠m:=⟨λq=>(by have:=d.fw;rw [q,k0.row]at this;cases this),λq=>(by have:=d.fw;rw [q,g1.map]at this;cases this)⟩;have nf:ia≠b/\ia≠m:=⟨λq=>(by have:=d.fa;rw [q,k0.row]at this;cases this),λq=>(by have:=d.fa;rw [q,g1.map]at this;cases this)⟩;refine⟨k,by rw [c iw nw.1 nw.2];exact d.w,by rw [c ia nf.1 nf.2];exact d.f,λj h1 h2 h3=>by rw [c j h2 h3];exact d.same j h1 h2 h3,d.fw,d.fa,λj e=>?_⟩;by_cases q1:j=b
 ·rw [q1,k.row]at e;cases e
 ·by_cases q2:j=m
  ·rw [q2,g2.map]at e;cases e
  ·exact d.none j (by rw [<-c j q1 q2];exact e)
theorem RW.step{el size q:Nat}{t7:V}{vs:List V}{S2:Hp}(ac:RW S0 S el size t7 vs q)(k:vP S b t m ty a)(c:Ch S S2 b m):RW S0 S2 el size t7 vs q:=
 ac.keep λi h=>c i (k.aPg h).1 (k.aPg h).2
theorem aKV{want:List UInt8}{may:List (List UInt8)}{j:Nat}(h:(a.BB want may j).2.2=false):a.BB want may j=a.no:=by
 unfold Ba.BB at h ⊢;split at h
 ·unfold Ba.xP at h ⊢
  cases q:a.rounds.findSome? a.BM with
  | none=>rfl
  | some tx=>rw [q]at h;cases h
 ·unfold Ba.skip at h ⊢
  cases q:a.rounds.reverse.find? a.AU with
  | none=>rfl
  | some tx=>rw [q]at h;cases h
 ·unfold Ba.fresh at h ⊢
  split
  ·split
   ·rename_i v hv hc;rw [hv]at h;simp only [hc,if_true]at h;cases h
   ·rfl
  ·rfl
 ·unfold Ba.old at h ⊢
  split
  ·split
   ·rename_i v hv hc;rw [hv]at h;simp only [hc,if_true]at h;cases h
   ·rfl
  ·rfl
 ·unfold Ba.lock at h ⊢
  split
  ·split
   ·rename_i v hv hc
    rw [hv]at h;simp only [hc,if_true]at h;split at h<;>cases h
   ·rfl
  ·rfl
 ·unfold Ba.nothing at h ⊢
  split
  ·rename_i hc;rw [if_pos hc]at h;cases h
  ·rfl
 ·unfold Ba.vZ at h ⊢
  split
  ·rename_i hc;rw [if_pos hc]at h;cases h
  ·rfl
theorem My{a0:Ba}{k:Nat}{vl:Int}{tx:List UInt8}{me:Int}(h:a0.s.me=me):(Ba.yes (a0.say k vl tx)).1.s.me=me/\(Ba.yes (a0.say k vl tx)).2.1.length<=1:=
 ⟨by show(a0.say k vl tx).1.s.me=_;rw [Wm];exact h,bI 1⟩
theorem aEx{want:List UInt8}{may:List (List UInt8)}{j:Nat}:(a.BB want may j).1.s.me=a.s.me/\(a.BB want may j).2.1.length<=1:=by
 unfold Ba.BB;split
 ·unfold Ba.xP;split<;>exact⟨rfl,gF 1⟩
 ·unfold Ba.skip;split<;>exact⟨rfl,gF 1⟩
 ·unfold Ba.fresh Ba.lZ
  split
  ·split
   ·exact My rfl
   ·exact⟨rfl,gF 1⟩
  ·exact⟨rfl,gF 1⟩
 ·unfold Ba.old Ba.lZ
  split
  ·split
   ·exact My rfl
   ·exact⟨rfl,gF 1⟩
  ·exact⟨rfl,gF 1⟩
 ·unfold Ba.lock
  split
  ·split
   ·split
    ·exact⟨rfl,gF 1⟩
    ·exact My rfl
   ·exact⟨rfl,gF 1⟩
  ·exact⟨rfl,gF 1⟩
 ·unfold Ba.nothing
  split
  ·exact My rfl
  ·exact⟨rfl,gF 1⟩
 ·unfold Ba.vZ
  split
  ·exact My rfl
  ·exact⟨rfl,gF 1⟩
theorem aDg{a0:Ba}{S1:Hp}{iw ia:Nat}{want:List UInt8}{may:List (List UInt8)}{Ow:Tag}{t7:V}{vs:List V}{out:List Mg}(k0:vP S0 b t m ty a0)(d:DoM S0 S1 b t m ty a iw ia want may Ow)(ac:RW S0 S1 37 11 t7 vs out.length)(cl:Cel vs (OK out))(hk:pU S0 b t m ty a λS'=>∀O,K (.list O (OK out) out.length) S'):aQ t7 S1 K:=by
 obtain⟨l1,g1,_⟩:=k0.Ii;obtain⟨l2,h1,h2⟩:=d.dI.Ii
 let S':Hp:=λq=>if q=b\/q=m then S1 q else S0 q
 have aEy:∀q,q≠b->q≠m->S' q=S0 q:=λq q1 q2=>if_neg (by simp [q1,q2]);have sb:S' b=S1 b:=if_pos (.inl rfl);have sm:S' m=S1 m:=if_pos (.inr rfl)
 have aRa:vP S' b t m ty a:=by
  refine⟨by rw [sb];exact d.dI.row,⟨l2,⟨?_,by rw [sm];exact h1.map⟩,h2⟩,d.dI.inv,k0.bt,k0.bm,k0.tm⟩;rw [aEy t (dB k0.bt) k0.tm];have:=d.same t (by rw [g1.row];simp) (dB k0.bt) k0.tm;rw [<-this];exact h1.row
 have hle:cP S' S1:=λq o e=>by
  by_cases q1:q=b
  ·subst q1;rw [sb]at e;exact e
  ·by_cases q2:q=m
   ·subst q2;rw [sm]at e;exact e
   ·rw [aEy q q1 q2]at e
    rw [d.same q (by rw [e];simp) q1 q2];exact e
 refine ac.ret cl hle (λi h0 ⟨o,ho,hg⟩=>?_) (hk S' (λq q1 q2=>aEy q q1 q2) aRa);have ne1:i≠b:=λq=>by rw [q,k0.row]at h0;cases h0
 have ne2:i≠m:=λq=>by rw [q,g1.map]at h0;cases h0
 rw [aEy i ne1 ne2];exact h0
theorem aPh{a0:Ba}{iw ia zD:Nat}{want:List UInt8}{may:List (List UInt8)}{Ow:Tag}(hM:100000<M)(hx:DP M (n+6) x)(k0:vP S0 b t m ty a0)(NS:may.length<=100000)(aPi:zD<=7):
 ∀(q f:Nat) (S1:Hp) (a:Ba) (t7:V) (vs:List V) (out:List Mg),DoM S0 S1 b t m ty a iw ia want may Ow->RW S0 S1 37 11 t7 vs out.length->Cel vs (OK out)->a.He=zD->(a.s.dec=[]->1000-a.mu<=(q:Int))->(a.s.dec=[]->1000-a.mu<=(f:Int))->out.length+8*q<=1000000->
  pU S0 b t m ty (Ba.run want may f a out).1 (λS'=>∀O,K (.list O (OK (Ba.run want may f a out).2) (Ba.run want may f a out).2.length) S')->
  kA x (q+1) (.ptr b 0) (.ptr iw 0) (.own ia 0 zD 7) t7 S1 K:=by
 have hm:x.most=M:=hx.most;intro q;induction q with
 | zero=>
  intro f S1 a t7 vs out d ac cl aIU hq hf ho hk;have i:=d.dI.inv;have hmu:=i.aIG;rw [sF];unfold mZ gG gM;refine aH ?_;have ON:LD b 13 S1 (.str a.s.dec):=aZ d.dI.row;simp only [aV,aG,ON,tK,bG];by_cases hd:a.s.dec=[]
  ·have:=hq hd;omega
  ·rw [if_neg (by simpa using hd)]
   have e:Ba.run want may f a out=(a,out):=by cases f with
    | zero=>rfl
    | succ f=>unfold Ba.run;rw [if_neg hd]
   rw [e]at hk;exact aDg k0 d ac cl hk
 | succ q ih=>
  intro f S1 a t7 vs out d ac cl aIU hq hf ho hk;have i:=d.dI.inv;have hmu:=i.aIG;rw [sF];unfold mZ gG gM;refine aH ?_;have ON:LD b 13 S1 (.str a.s.dec):=aZ d.dI.row;simp only [aV,aG,ON,tK,bG];by_cases hd:a.s.dec=[]
  ·rw [if_pos (by simpa using hd)]
   obtain⟨f,rfl⟩:=pV (show f≠0 by have:=hf hd;omega)
   have e1:Ba.run want may (f+1) a out=if(a.from_ want may zD 0).2.2 then Ba.run want may f (a.from_ want may zD 0).1 (out++(a.from_ want may zD 0).2.1)else(a,out):=by
    conv=>lhs;unfold Ba.run
    rw [if_pos hd,aIU]
   have inner:∀(p j:Nat) (S1:Hp),DoM S0 S1 b t m ty a iw ia want may Ow->RW S0 S1 37 11 t7 vs out.length->zD<=j+p->j<=zD->(a.from_ want may zD 0=a.from_ want may (zD-j) j)->gL x (p+1) (q+1) (.ptr b 0) (.ptr iw 0) (.own ia 0 zD 7) t7 (.own ia 0 zD 7) (.int .i64 (.ofNat zD)) (.int .i64 (.ofNat j)) S1 K:=by
    intro p
    have fin:∀j S1,DoM S0 S1 b t m ty a iw ia want may Ow->RW S0 S1 37 11 t7 vs out.length->zD<=j->(a.from_ want may zD 0=a.from_ want may (zD-j) j)->aQ t7 S1 K:=by
     intro j S1 d ac h1 h2;have e2:a.from_ want may zD 0=a.no:=by rw [h2,show zD-j=0 by omega];rfl
     rw [e1,e2,if_neg (by simp [Ba.no])]at hk;exact aDg k0 d ac cl hk
    induction p with
    | zero=>
     intro j S1 d ac h1 h2 h3;rw [oP];unfold jY;refine aH ?_;rw [bO,bG,if_neg (by simp;omega)];exact fin j S1 d ac (by omega) h3
    | succ p ihp=>
     intro j S1 d ac h1 h2 h3;rw [oP];unfold jY;refine aH ?_;rw [bO,bG];by_cases hlt:j<zD
     ·rw [if_pos (by simp;omega)]
      have hix:∀{k:V->Prop},k (.ptr ia j)->jM 1 (.own ia 0 zD 7) (.int .i64 (.ofNat j)) k:=λh=>⟨hlt,by rw [gB,lS];exact h⟩;refine hix (kN d.f (aNp (by omega)) ?_);refine eX d.w rfl ?_;show x.call (cR j) ([]++[.ptr b 0,.agg (wV want may Ow)]++[]) S1 _;rw [PB,nP]
      have e3:a.from_ want may (zD-j) j=if(a.BB want may j).2.2 then a.BB want may j else a.from_ want may (zD-(j+1)) (j+1):=by
       rw [show zD-j=(zD-(j+1))+1 by omega];rfl
      refine aNq hM hx d.dI NS (by omega) λS2 c2 k2 O=>?_;simp only [vE,vF,bG];cases hr:(a.BB want may j).2.2 with
      | false=>
       have e4:=aKV hr;rw [e4]at k2;rw [if_neg (by simp),iM,KG (by omega)];refine ihp (j+1) S2 (d.step k0 c2 k2) (ac.step d.dI c2) (by omega) (by omega) ?_;rw [h3,e3,hr];rfl
      | true=>
       have e5:a.from_ want may zD 0=a.BB want may j:=by rw [h3,e3,if_pos hr]
       rw [e1,e5,if_pos hr]at hk;obtain⟨sm1,sm2⟩:=aEx (a:=a) (want:=want) (may:=may) (j:=j);have d2:=d.step k0 c2 k2;rw [if_pos rfl];refine(ac.step d.dI c2).app d2.none (by omega) (by rw [NP]) (aIT _) (by omega) ?_;intro t9 S3 vs3 ac3 e6 f1 f2;have aPj:=aKK i want may j hr;refine ih f S3 (a.BB want may j).1 t9 vs3 (out++(a.BB want may j).2.1) ⟨d2.dI.keep f1,f1 _ _ d2.w rfl,f1 _ _ d2.f rfl,λz h1 h2 h3=>by rw [f2 z h1];exact d2.same z h1 h2 h3,d.fw,d.fa,λz e=>?_⟩ (by rw [bH];exact ac3) (by rw [e6,aEw];exact cl.app .tl) (by unfold Ba.He;rw [sm1];exact aIU) (λhdd=>?_) (λhdd=>?_) (by rw [bH];omega) hk
       ·cases hz:S0 z with
        | none=>rfl
        | some o=>have:=f2 z (by rw [hz];simp);rw [e]at this;rw [d2.none z this.symm]at hz;cases hz
       ·rcases aPj with q1 | q1
        ·have:=hq hd;omega
        ·exact absurd hdd q1
       ·rcases aPj with q1 | q1
        ·have:=hf hd;omega
        ·exact absurd hdd q1
     ·rw [if_neg (by simp;omega)]
      exact fin j S1 d ac (by omega) h3
   refine(show ∀{k:V->Prop},k (.int .i64 (.ofNat zD))->dC (.own ia 0 zD 7) k from λh=>h) ?_;obtain⟨p,hp⟩:=pV (show x.most≠0 by omega);rw [hp];exact inner p 0 S1 d ac (by omega) (by omega) rfl
  ·rw [if_neg (by simpa using hd)]
   have e:Ba.run want may f a out=(a,out):=by cases f with
    | zero=>rfl
    | succ f=>unfold Ba.run;rw [if_neg hd]
   rw [e]at hk;exact aDg k0 d ac cl hk
end
section
variable{M n b t m:Nat}{x:VE}{S:Hp}{K:KV}{ty:TypeId}{a:Ba}
theorem aIV{len size i:Nat}{k:V->Prop}(h:0<len)(hk:k (.own i 0 len len)):aCJ len size (.ptr i 0) none none none k:=by
 show 0<=len/\len<=len/\len<=len/\k (.own i (if len=0 then 0 else 0+0*size) (len-0) (len-0));rw [if_neg (by omega)];exact⟨by omega,bI _,bI _,by simpa using hk⟩
theorem aKW{len size i h:Nat}{j:IntKind}{k:V->Prop}(h0:0<len)(h1:h<=len)(hk:k (.own i 0 h len)):aCJ len size (.ptr i 0) none (some (.int j (.ofNat h))) none k:=by
 show 0<=h/\h<=len/\len<=len/\k (.own i (if len=0 then 0 else 0+0*size) (h-0) (len-0));rw [if_neg (by omega)];exact⟨by omega,h1,bI _,by simpa using hk⟩
theorem aRb(hM:100000<M)(Xk:M<=125000)(hx:DP M (n+7) x)(k:vP S b t m ty a){want:List UInt8}{may:List (List UInt8)}{Ow:Tag}(NS:may.length<=100000)(hk:pU S b t m ty (a.UI want may).1 λS'=>∀O,K (.list O (OK (a.UI want may).2) (a.UI want may).2.length) S'):x.call kC [.ptr b 0,.agg (wV want may Ow)] S K:=by
 refine hx.call rfl λy hy=>?_;rw [WQ];unfold HV gG gM;have hm:y.most=M:=hy.most;refine aBe λiw hiw=>?_;have eU:cP S (aM S iw (.row (wV want may Ow) 119)):= .aN hiw;have r1:aM S iw (.row (wV want may Ow) 119) iw=some (.row (wV want may Ow) 119):=aB;have n1:∀j,aM S iw (.row (wV want may Ow) 119) j=none->S j=none:=λj e=>(AF e).2;generalize aM S iw (.row (wV want may Ow) 119)=S1 at eU r1 n1;refine qD rfl (cK rfl (by simp) (cK rfl (by simp) (cK rfl (by simp) (cK rfl (by simp) (cK rfl (by simp) (cK rfl (by simp) (cK rfl (by simp) (CI ?_))))))));refine dQ (l:=[.QV,.QV,.QV,.QV,.QV,.QV,.QV]) rfl λia hia=>?_;refine gJ aB (by rfl) (by rfl) (by rfl) ?_;rw [cW];show aCJ 7 1 (.ptr ia 0) none none none _;refine aIV (by omega) ?_;have lA:cP S1 (aM S1 ia (.row fns 146)):= .aN hia;have r2:aM S1 ia (.row fns 146) ia=some (.row fns 146):=aB;have n2:∀j,aM S1 ia (.row fns 146) j=none->S j=none:=λj e=>n1 j (AF e).2;show jI PP (.ptr b 0) λv4=>bF 0 v4 λv5=>bF 3 v5 λv6=>bJ v6 (aM S1 ia (.row fns 146)) _;generalize aM S1 ia (.row fns 146)=S2 at lA r2 n2;have le:=eU.trans lA;have k2:=k.le le;have l3:LD b 3 S2 (.int .i64 a.s.me):=aZ k2.row;simp only [aV,aG,l3,cV,bG]
 have d:DoM S S2 b t m ty a iw ia want may Ow:=⟨k2,lA _ _ r1,r2,λj h1 _ _=>by
  cases hj:S j with
  | none=>exact absurd hj h1
  | some o=>exact le _ _ hj,hiw,eU.none hia,n2⟩
 have jo:∀zD,a.He=zD->mR y (.ptr b 0) (.ptr iw 0) (.own ia 0 zD 7) S2 K:=by
  intro zD hc;rw [IH y (by omega)];unfold wH;refine aH ?_;obtain⟨p,hp⟩:=pV (show y.most≠0 by omega);rw [hp];have hmu:=k.inv.aIG;have aPi:zD<=7:=by rw [<-hc];unfold Ba.He;split<;>omega
  exact aPh hM hy k NS aPi p 1000 S2 a .nil [] [] d .nil .nil hc (λ_=>by omega) (λ_=>by omega) (by simp;omega) hk
 by_cases h0:a.s.me=0
 ·rw [if_pos (by exact aU h0)]
  refine aKW (by omega) (by omega) ?_;exact jo 1 (by unfold Ba.He;rw [if_pos h0])
 ·rw [if_neg (by simpa using h0)]
  exact jo 7 (by unfold Ba.He;rw [if_neg h0])
theorem aPk(hM:100000<M)(Xk:M<=125000)(hx:DP M (n+8) x)(k:vP S b t m ty a){want:List UInt8}{may:List (List UInt8)}{Ow:Tag}(NS:may.length<=100000)(hk:pU S b t m ty (a.UI want may).1 λS'=>∀O,K (.list O (OK (a.UI want may).2) (a.UI want may).2.length) S'):x.call sS [.ptr b 0,.str want,.list Ow (eF may) may.length] S K:=by
 refine hx.call rfl λy hy=>?_;rw [WP];unfold HU;refine JD EL ?_;rw [bG,if_neg (by simp)];refine qD rfl (cK rfl (by simp) (cK rfl (by simp) (CI ?_)));show y.call kC [.ptr b 0,.agg (wV want may Ow)] S _;refine aRb hM Xk hy k NS λS' c' k' O=>?_;exact aF (hk S' c' k' O)
theorem aLU(hx:DP M (n+1) x)(k:vP S b t m ty a){r:Int}{kd:Nat}(hk:K (.int .i64 (.ofNat (a.all r kd))) S):x.call lG [.ptr t 0,.int .i64 r,.int .u8 (.ofNat kd)] S K:=by
 obtain⟨l0,h1,h2,h3⟩:=k.okl;refine hx.yE (f:=lG) (g:=aKQ) rfl ⟨t,m,a.s.n.toNat,l0,r,kd,rfl,h1,h2,?_⟩;rw [Dl h3];exact hk
def aPl(K:KV)(ms:List Mg)(S':Hp):Prop:=match ms with
 | []=>K .nil S'
 | [g]=>∀i,S' i=none->K (.own i 0 1 1) (aM S' i (.row g.vv 37))
 | _=>False
theorem aPm(hM:M≠0)(hx:DP M (n+4) x)(k:vP S b t m ty a){kd:Nat}{vl:Int}{tx:List UInt8}
 (hk:pU S b t m ty (a.say kd vl tx).1 (aPl K (a.say kd vl tx).2)):x.call cJ [.ptr b 0,.int .u8 (.ofNat kd),.int .i64 vl,.str tx] S K:=
 aBb hM rfl rfl rfl rfl rfl hx k λS1 c1 k1 j hj=>aF (hk S1 c1 k1 j hj)
theorem aNr(hM:100000<M)(hx:DP M (n+5) x)(k:vP S b t m ty a)(hk:pU S b t m ty a.late.1 (aPl K a.late.2)):x.call qM [.ptr b 0] S K:=by
 refine hx.call rfl λy hy=>?_;rw [RP];unfold DN Vk rW ST BD gQ gN gG gM;have Xe:=k.inv.st;have Cd:=k.inv.ok;have hnt: -9223372036854775808<=a.s.n-a.s.t/\a.s.n-a.s.t<=9223372036854775807:=by have:=Cd.1;have:=Cd.2.2.1;omega
 have l2:LD b 4 S (.int .i64 a.s.rd):=aZ k.row;have l5:LD b 5 S (.int .i64 a.s.st):=aZ k.row;have MD:LD b 15 S (.ptr t 0):=aZ k.row
 have no:a.late=(a,[])->aQ .nil S K:=λe=>by
  rw [e]at hk;exact aF (hk S .refl k)
 unfold Ba.late at no hk;simp only [aV,aG,l5,cV,bG];by_cases h1:a.s.st=1
 ·rw [if_pos (by exact aU h1)]
  rw [if_pos h1]at hk;refine to2 hy k (by decide) (by decide) λS2 c2 k2=>?_;refine aPm (by omega) hy k2 λS3 c3 k3 j hj=>?_;exact aF (hk S3 (c2.trans c3) k3 j hj)
 ·rw [if_neg (by simpa using h1)]
  rw [if_neg h1]at hk no;by_cases h2:a.s.st=2
  ·rw [if_pos (by exact aU h2)]
   rw [if_pos h2]at hk no;simp only [l2,MD];refine aLU hy k ?_;refine Mv rfl hy k.row hnt ?_;rw [bG];by_cases h3:a.s.n-a.s.t<=(a.all a.s.rd 3:Int)
   ·rw [if_pos (by exact aU h3)]
    rw [if_pos (by exact aU h3)]at hk;refine to2 hy k (by decide) (by decide) λS2 c2 k2=>?_;refine aPm (by omega) hy k2 λS3 c3 k3 j hj=>?_;exact aF (hk S3 (c2.trans c3) k3 j hj)
   ·rw [if_neg (by simpa using h3)]
    exact no (by rw [if_neg (by simpa using h3)])
  ·rw [if_neg (by simpa using h2)]
   rw [if_neg h2]at hk no;have h3:a.s.st=3:=by omega
   rw [if_pos (by exact aU h3)];simp only [l2,MD];refine aLU hy k ?_;refine Mv rfl hy k.row hnt ?_;by_cases h4:a.s.n-a.s.t<=(a.all a.s.rd 4:Int)
   ·have e4:decide (a.s.n-a.s.t<=Int.ofNat (a.all a.s.rd 4))=true:=aU h4
    simp only [e4,aV,aG,aL,aI,l2,bO,aX,bG,if_true];by_cases h5:a.s.rd<99
    ·have e5:decide (a.s.rd<Int.ofNat 99)=true:=aU h5
     simp only [e5,if_true,iM];have e6:lC .i64 (a.s.rd+Int.ofNat 1)=a.s.rd+1:=by have:=k.inv.rd;rw [wrap_small]<;>simp<;>omega
     rw [e6];rw [if_pos (by simp [h4,h5])]at hk;refine aIR hy k (by omega) (by omega) λS2 c2 k2=>?_;exact aF (hk S2 c2 k2)
    ·have e5:decide (a.s.rd<Int.ofNat 99)=false:=aR h5
     simp only [e5,bQ,if_false];exact no (by rw [if_neg (by simp [h5])])
   ·have e4:decide (a.s.n-a.s.t<=Int.ofNat (a.all a.s.rd 4))=false:=aR h4
    simp only [e4,aL,qC,aX,bG,bQ,if_false];exact no (by rw [if_neg (by simp [h4])])
theorem Ra{S':Hp}{pre ms:List Mg}{cells:List V}(hl:cP S' S)(hc:cells.length=(pre++ms).length*11)(hf:∀(j:Nat) (v:V) (d:Dt) (S2:Hp),cells[j]? =some v->(OK (pre++ms))[j]? =some d->Au S' S2 v d)(hk:∀O,K (.list O (OK (pre++ms)) (pre++ms).length) S'):aEb 37 cells (pre++ms).length S λv S=>aQ v S K:=by
 intro i hi;refine DD (EM hl (hl.none hi)) (.acc aB (hl.none hi) (by rw [hc,NP]) λj v d e1 e2=>hf j v d _ e1 e2) hk
theorem aKX{S':Hp}{s:V}{pre ms:List Mg}{O:Tag}(hs:(pre=[]/\s= .nil)\/∃i g,pre=[g]/\s= .own i 0 1 1/\S i=some (.row g.vv 37)/\S' i=none)(hl:cP S' S)(hm:ms.length<=1000000)(hk:∀O,K (.list O (OK (pre++ms)) (pre++ms).length) S'):qG 37 11 112 s (.list O (OK ms) ms.length) S λv S=>aQ v S K:=by
 unfold qG TF;refine⟨by rw [NP];exact bI _,?_⟩;rw [oS (by rw [NP];exact bI _)]
 have tl:∀(j:Nat) (v:V) (d:Dt) (S2:Hp),(Tl O 0 (OK ms))[j]? =some v->(OK ms)[j]? =some d->Au S' S2 v d:=λj v d S2 e1 e2=>by
  obtain⟨O2,rfl⟩:=(Cel.tl (O:=O) (cs:=OK ms)).2 j v d e1 e2;exact .T
 have zA:(Tl O 0 (OK ms)).all pN=true:=by
  rw [dJ];intro v hv;obtain⟨j,hj⟩:=GI hv;rw [Ly]at hj;cases hq:(OK ms)[j]? with
  | none=>rw [hq]at hj;cases hj
  | some d=>rw [hq]at hj;injection hj with hj;subst hj;exact aIT ms d (wI hq) _
 rcases hs with ⟨rfl,rfl⟩ | ⟨i,g,rfl,rfl,hi,hn⟩
 ·cases ms with
  | nil=>exact DD hl .nil hk
  | cons g ms=>
   refine⟨zA,by simp only [qS]at hm ⊢;omega,?_⟩;exact Ra (pre:=[]) (ms:=g::ms) hl (by rw [WF,NP];rfl) tl hk
 ·cases ms with
  | nil=>exact⟨bI _,aEv hi hn hl hk⟩
  | cons g2 ms=>
   refine⟨zA,?_⟩;simp only [hi];refine⟨by simp only [qS]at hm ⊢;omega,by simp [Mg.vv],λh=>absurd h (by show ¬(1+(ms.length+1)<=1);omega),λ_=>?_⟩;have e1:(List.drop 0 g.vv).take (1*11)=g.vv:=by simp [Mg.vv]
   rw [e1];have e2:1+(ms.length+1)=([g]++(g2::ms)).length:=by simp;omega
   show aEb 37 (g.vv++Tl O 0 (OK (g2::ms))) (1+(ms.length+1)) S _;rw [e2];refine Ra (pre:=[g]) (ms:=g2::ms) hl (by rw [bH,WF,NP];simp [Mg.vv];omega) (λj v d S2 h1 h2=>?_) hk;rw [aEw,Wl]at h2;have hgl:g.vv.length=g.dt.length:=rfl;by_cases hj:j<g.vv.length
   ·rw [fB hj]at h1
    rw [fB (by omega)]at h2;exact aIP j v d h1 h2
   ·rw [iG (by omega)]at h1 h2
    rw [<-hgl]at h2;exact tl _ v d S2 h1 h2
theorem aIW(want:List UInt8)(may:List (List UInt8)):∀(n i:Nat),(a.from_ want may n i).2.1.length<=1:=by
 intro n;induction n with
 | zero=>intro i;exact gF 1
 | succ n ih=>
  intro i;unfold Ba.from_;split
  ·exact aEx.2
  ·exact ih (i+1)
theorem aKY(want:List UInt8)(may:List (List UInt8)):∀(f:Nat) (a:Ba) (out:List Mg),(Ba.run want may f a out).2.length<=out.length+f:=by
 intro f;induction f with
 | zero=>intro a out;exact bI _
 | succ f ih=>
  intro a out;unfold Ba.run;split
  ·split
   ·have:=ih (a.from_ want may a.He 0).1 (out++(a.from_ want may a.He 0).2.1)
    have h2:=aIW (a:=a) want may a.He 0;rw [bH]at this;omega
   ·show out.length<=_;omega
  ·show out.length<=_;omega
theorem Wn(want:List UInt8)(may:List (List UInt8)):(a.UI want may).2.length<=1000:=by
 have:=aKY want may 1000 a [];show(Ba.run want may 1000 a []).2.length<=1000;simpa using this
theorem aNs(hM:100000<M)(Xk:M<=125000)(hx:DP M (n+9) x)(k:vP S b t m ty a){want:List UInt8}{may:List (List UInt8)}{Ow:Tag}(NS:may.length<=100000)(hk:pU S b t m ty (a.tick want may).1 λS'=>∀O,K (.list O (OK (a.tick want may).2) (a.tick want may).2.length) S'):x.call qK [.ptr b 0,.str want,.list Ow (eF may) may.length] S K:=by
 refine hx.call rfl λy hy=>?_;rw [RQ];unfold DO Vk zE rW jK ST uM BD wF gQ gG gM;have hm:y.most≠0:=by rw [hy.most];omega
 refine JD EL ?_;rw [bG,if_neg (by simp)];have l3:LD b 3 S (.int .i64 a.s.me):=aZ k.row;have l4:LD b 4 S (.int .i64 a.s.rd):=aZ k.row;have l6:LD b 6 S (.int .i64 a.s.LY):=aZ k.row;have ON:LD b 13 S (.str a.s.dec):=aZ k.row;have MD:LD b 15 S (.ptr t 0):=aZ k.row
 have jo:∀(a1:Ba) (pre:List Mg) (S1 S2:Hp) (s:V),a.AV want=(a1,pre)->Ch S S1 b m->vP S1 b t m ty a1->((pre=[]/\s= .nil/\S2=S1)\/∃i g,pre=[g]/\s= .own i 0 1 1/\S2=aM S1 i (.row g.vv 37)/\S1 i=none)->dM y (.ptr b 0) (.str want) (.list Ow (eF may) may.length) s S2 K:=by
  intro a1 pre S1 S2 s e c k1 hs;rw [HY y hm];unfold vI;refine aH ?_
  have le:cP S1 S2:=by
   rcases hs with ⟨_,_,rfl⟩ | ⟨i,g,_,_,rfl,h0⟩
   ·exact .refl _
   ·exact .aN h0
  have Tg:pU S1 b t m ty (a1.UI want may).1 λS'=>∀O,K (.list O (OK (pre++(a1.UI want may).2)) (pre++(a1.UI want may).2).length) S':=λS' c' k' O=>by
   have e1:a.tick want may=((a1.UI want may).1,pre++(a1.UI want may).2):=by unfold Ba.tick;rw [e]
   rw [e1]at hk;exact hk S' (c.trans c') k' O
  refine aPk hM Xk hy (k1.le le) NS λS3 c3 k3 O=>?_;obtain⟨S4,g1,g2,g3⟩:=shrink k1 le Tg c3 k3;refine aKX ?_ g1 (by have:=Wn (a:=a1) want may;omega) g3;rcases hs with ⟨rfl,rfl,_⟩ | ⟨i,g,rfl,rfl,rfl,h0⟩
  ·exact .inl ⟨rfl,rfl⟩
  ·have hib:i≠b:=λq=>by rw [q,k1.row]at h0;cases h0
   obtain⟨_,t1,_⟩:=k1.Ii;have him:i≠m:=λq=>by rw [q,t1.map]at h0;cases h0
   exact .inr ⟨i,g,rfl,rfl,by rw [c3 i hib him];exact aB,by rw [g2 i hib him];exact h0⟩
 have no:a.Ge want=false->dM y (.ptr b 0) (.str want) (.list Ow (eF may) may.length) .nil S K:=λe=>jo a [] S S .nil (by unfold Ba.AV;rw [if_neg (by rw [e];simp)]) .refl k (.inl ⟨rfl,rfl,rfl⟩)
 have yes:a.Ge want=true->(jI PP (.ptr b 0) λXI=>bF 0 XI λv39=>bF 6 v39 λv40=>bJ v40 S λv41 S=>aD PP .add 3 v41 (.int .i64 (.ofNat 1)) λFo=>aFz false Fo (.int .i64 (.ofNat 1099511627776)) λIh=>jI PP (.ptr b 0) λv44=>bF 0 v44 λv45=>bF 6 v45 λv46=>mE 1 v46 Ih S λS=>jI PP (.ptr b 0) λFp=>bF 0 Fp λNr=>bF 6 Nr λv49=>bJ v49 S λv50 S=>jI PP (.ptr b 0) λv51=>bF 0 v51 λVm=>bF 4 Vm λv53=>bJ v53 S λv54 S=>aD PP .mul 3 (.int .i64 (.ofNat 2)) v54 λv55=>aD PP .add 3 (.int .i64 (.ofNat 4)) v55 λv56=>aD PP .geq 3 v50 v56 λv57=>iQ v57 (y.call qM [.ptr b 0] S λv58 S=>dM y (.ptr b 0) (.str want) (.list Ow (eF may) may.length) v58 S K) (dM y (.ptr b 0) (.str want) (.list Ow (eF may) may.length) .nil S K)):=by
  intro e;have aRc:=k.inv.LY;have hrd:=k.inv.rd;simp only [aV,aG,l6,iM];have aNt:∀{x y:Int} {k:V->Prop},aFz false (.int .i64 x) (.int .i64 y) k=k (.int .i64 (min x y)):=rfl;have e1:lC .i64 (a.s.LY+Int.ofNat 1)=a.s.LY+1:=by rw [wrap_small]<;>simp<;>omega
  rw [e1];simp only [aNt];have e0:Int.ofNat 1099511627776=1099511627776:=rfl;rw [e0];refine nJ k.row rfl (by simp [lM]) ?_;have k1:=k.set (s:=a.xG.s) rfl k.inv.xG;have c1:Ch S (aM S b (.row (lM a.xG.s t) ty)) b m:= .aDe;show bJ (.ptr b 6) (aM S b (.row (lM a.xG.s t) ty)) _;generalize aM S b (.row (lM a.xG.s t) ty)=S1 at k1 c1;have k1:vP S1 b t m ty a.xG:=k1;have l6:LD b 6 S1 (.int .i64 a.xG.s.LY):=aZ k1.row;have l4:LD b 4 S1 (.int .i64 a.s.rd):=aZ k1.row;simp only [l6,l4,Qk,iM,kG,bG];have e2:lC .i64 (Int.ofNat 2*a.s.rd)=2*a.s.rd:=by rw [wrap_small]<;>simp<;>omega
  have e3:lC .i64 (Int.ofNat 4+2*a.s.rd)=4+2*a.s.rd:=by rw [wrap_small]<;>simp<;>omega
  rw [e2,e3];by_cases h:4+2*a.s.rd<=a.xG.s.LY
  ·rw [if_pos (by exact aU h)]
   refine aNr hM hy.less.less.less k1 λS2 c2 k2=>?_;have e4:a.AV want=(a.xG.late.1,a.xG.late.2):=by unfold Ba.AV;rw [if_pos e,if_pos h]
   have hl:a.xG.late.2=[]\/∃g,a.xG.late.2=[g]:=by
    unfold Ba.late;split
    ·exact .inr ⟨_,rfl⟩
    ·split
     ·split
      ·exact .inr ⟨_,rfl⟩
      ·exact .inl rfl
     ·split<;>exact .inl rfl
   rcases hl with hl | ⟨g,hl⟩
   ·rw [hl]at e4 ⊢
    exact jo _ [] S2 S2 .nil e4 (c1.trans c2) k2 (.inl ⟨rfl,rfl,rfl⟩)
   ·rw [hl]at e4 ⊢
    intro i hi;exact jo _ [g] S2 _ _ e4 (c1.trans c2) k2 (.inr ⟨i,g,rfl,rfl,rfl,hi⟩)
  ·rw [if_neg (by simpa using h)]
   exact jo a.xG [] S1 S1 .nil (by unfold Ba.AV;rw [if_pos e,if_neg h]) c1 k1 (.inl ⟨rfl,rfl,rfl⟩)
 simp only [aV,aG,aL,l3,gD];by_cases h0:a.s.me=0
 ·have e0:decide (a.s.me=Int.ofNat 0)=true:=aU h0
  simp only [e0,qC,oZ,aX,bG,eH,if_false,bQ];exact no (by unfold Ba.Ge;simp [h0])
 ·have e0:decide (a.s.me=Int.ofNat 0)=false:=aR h0
  simp only [e0,aV,aG,aI,aX,iH,if_true,ON,tK];by_cases h1:a.s.dec=[]
  ·have e1:decide (a.s.dec=[])=true:=aU h1
   simp only [e1,aI,aX,if_true,LO];by_cases h2:want=[]
   ·have e2:decide (want=[])=true:=aU h2
    simp only [e2,aV,aG,aI,eH,if_false,bQ,MD];refine Mw hy.less hM k λO=>?_;simp only [dV,jR,bG];by_cases h3:0<a.rounds.length
    ·have e3:decide (Int.ofNat 0<Int.ofNat a.rounds.length)=true:=aU (by simpa using h3)
     simp only [e3,if_true];exact yes (by unfold Ba.Ge;simp [h0,h1,h3])
    ·have e3:decide (Int.ofNat 0<Int.ofNat a.rounds.length)=false:=aR (by simpa using h3)
     simp only [e3,if_false,bQ];exact no (by unfold Ba.Ge;simp [h2];intro _ _;simpa using h3)
   ·have e2:decide (want=[])=false:=aR h2
    simp only [e2,cZ,bG,iH,if_true];exact yes (by unfold Ba.Ge;simp [h0,h1,h2])
  ·have e1:decide (a.s.dec=[])=false:=aR h1
   simp only [e1,qC,oZ,bG,if_false,bQ];exact no (by unfold Ba.Ge;simp [h1])
end
structure Mi where
 kd:Nat
 e1:Int
 e2:Int
 h:Int
 r:Int
 vl:Int
 e3:Int
 e4:Int
 e5:Int
 tx:List UInt8
 nums:List Dt
 many:Nat
def Mi.vv(g:Mi)(O:Tag):List V:=[.int .u8 (.ofNat g.kd),.int .i64 g.e1,.int .i64 g.e2,.int .i64 g.h,.int .i64 g.r,.int .i64 g.vl,.int .i64 g.e3,.int .i64 g.e4,.int .i64 g.e5,.str g.tx,.list O g.nums g.many]
section
variable{M n b t m:Nat}{x:VE}{S:Hp}{K:KV}{ty:TypeId}{a:Ba}
theorem aDh{t:TypeId}{p q:Nat}{K:V->Prop}:aD PP .lss t (.int .u8 (.ofNat p)) (.int .u8 (.ofNat q)) K=K (.bool (decide (p<q))):=by
 rw [bO]
 congr 2
 rw [qU];simp
theorem aDi{t:TypeId}{p q:Nat}{K:V->Prop}:aD PP .gtr t (.int .u8 (.ofNat p)) (.int .u8 (.ofNat q)) K=K (.bool (decide (q<p))):=by
 rw [jR]
 congr 2
 rw [qU];simp
theorem aPn(hM:M≠0)(hx:DP M (n+4) x)(k:vP S b t m ty a){fr:Int}{g:Mi}{O:Tag}(hk:pU S b t m ty (a.WT fr g.kd g.h g.r g.vl g.tx) λS'=>K (.bool (decide (g.h=a.s.h)&&decide (2<=g.kd)&&decide (g.kd<=4)&&decide (g.r<100)&&a.s.takes a.l ⟨fr,g.r,g.kd,g.vl,g.tx⟩)) S'):x.call wM [.ptr b 0,.int .i64 fr,.agg (g.vv O)] S K:=by
 refine hx.call rfl λy hy=>?_;rw [TJ];unfold ET XG zE jK uM wF gQ gG;refine fR rfl λi hi=>?_;have eU:cP S (aM S i (.row (g.vv O) 37)):= .aN hi;have ri:aM S i (.row (g.vv O) 37) i=some (.row (g.vv O) 37):=aB;generalize aM S i (.row (g.vv O) 37)=S1 at eU ri;have k1:=k.le eU;refine JD EL ?_;have l0:LD b 0 S1 (.int .i64 a.s.h):=aZ k1.row;have m0:LD i 0 S1 (.int .u8 (.ofNat g.kd)):=aZ ri;have m3:LD i 3 S1 (.int .i64 g.h):=aZ ri;have m4:LD i 4 S1 (.int .i64 g.r):=aZ ri;have m5:LD i 5 S1 (.int .i64 g.vl):=aZ ri;have m9:LD i 9 S1 (.str g.tx):=aZ ri
 have no:(decide (g.h=a.s.h)&&decide (2<=g.kd)&&decide (g.kd<=4)&&decide (g.r<100))=false->aQ (.bool false) S1 K:=λe=>by
  unfold Ba.WT at hk;rw [if_neg (by rw [e];simp)]at hk;have:=hk S .refl k;rw [e,Bool.false_and]at this;exact cL eU this
 simp only [aV,aG,aL,aI,l0,m3,gD,aX,bQ,if_false];by_cases c1:g.h=a.s.h
 ·simp only [aU c1,eH,aI,m0,aDh,aX,bQ,if_false]
  by_cases c2:g.kd<2
  ·simp only [aU c2,cZ,aX,if_true,bG]
   exact no (by simp;omega)
  ·simp only [aR c2,aI,m0,aDi,aX,bQ,if_false]
   by_cases c3:4<g.kd
   ·simp only [aU c3,cZ,if_true,bG]
    exact no (by simp;omega)
   ·simp only [aR c3,aI,m4,kG,bQ,if_false]
    by_cases c4:100<=g.r
    ·simp only [show decide (Int.ofNat 100<=g.r)=true from aU c4,if_true,bG]
     exact no (by simp;omega)
    ·simp only [show decide (Int.ofNat 100<=g.r)=false from aR c4,bG,bQ,if_false,m0,m5,m9]
     refine qD rfl (cK rfl (by simp) (cK rfl (by simp) (cK rfl (by simp) (cK rfl (by simp) (cK rfl (by simp) (CI ?_))))));have e:(decide (g.h=a.s.h)&&decide (2<=g.kd)&&decide (g.kd<=4)&&decide (g.r<100))=true:=by simp;omega
     unfold Ba.WT at hk;rw [if_pos e]at hk;rw [e,Jb]at hk;refine aIO (v:=⟨fr,g.r,g.kd,g.vl,g.tx⟩) hM rfl rfl rfl rfl hy k1 (show g.r<=1000000 by omega) λS2 c2 k2=>?_;obtain⟨S',g1,_,g2⟩:=shrink k eU hk c2 k2;exact cL g1 g2
 ·simp only [aR c1,iH,cZ,aX,if_true,bG]
  exact no (by simp [c1])
end
abbrev nu(n:Nat):V:= .int .u64 (.ofNat n)
abbrev ni(n:Nat):V:= .int .i64 (.ofNat n)
abbrev n8(n:Nat):V:= .int .u8 (.ofNat n)
abbrev nz(z:Int):V:= .int .i64 z
section
variable{k:V->Prop}{a b:Nat}{t:TypeId}
theorem dW:aD PP .lss t (ni a) (ni b) k=k (.bool (decide (a<b))):=by rw [bO];congr 2;simp
theorem Dq:aD PP .gtr t (ni a) (ni b) k=k (.bool (decide (b<a))):=by rw [jR];congr 2;simp
theorem Wp:aD PP .geq t (ni a) (ni b) k=k (.bool (decide (b<=a))):=by rw [kG];congr 2;simp
theorem Mz:aD PP .eql t (ni a) (ni b) k=k (.bool (decide (a=b))):=by rw [cV];congr 2;simp;omega
theorem Wq:aD PP .neq t (ni a) (ni b) k=k (.bool (!decide (a=b))):=by rw [gD];congr 3;simp;omega
theorem fP(h:a+b<4611686018427387904):aD PP .add t (ni a) (ni b) k=k (ni (a+b)):=by
 rw [iM]
 congr 2
 rw [wrap_small (by simp only [lR];omega) (by simp only [lR];omega)];simp
theorem aNw(h:b<=a)(h2:a<4611686018427387904):aD PP .sub t (ni a) (ni b) k=k (ni (a-b)):=by
 rw [tJ]
 congr 2
 rw [wrap_small (by simp only [lR];omega) (by simp only [lR];omega)];simp only [lR];omega
theorem Gg{a b:Nat}(h:a<b):decide (a<b)=true:=aU h
theorem BC{a b:Nat}(h:¬a<b):decide (a<b)=false:=aR h
theorem eY{p q:Prop}:iQ (.bool true) p q=p:=rfl
theorem cF{p q:Prop}:iQ (.bool false) p q=q:=rfl
theorem kB{a b:V}{k:V->Prop}:QY (.bool true) a b k=k a:=rfl
theorem fA{a b:V}{k:V->Prop}:QY (.bool false) a b k=k b:=rfl
theorem aNx{n:Nat}(h:n<256){k:V->Prop}:Lo .i64 (n8 n) k=k (ni n):=by
 show k (.int .i64 (lC .i64 (.ofNat n)))=_;rw [wrap_small (by simp only [lR];omega) (by simp only [lR];omega)]
end
section
variable{S:Hp}{i o:Nat}{vs:List V}{t:TypeId}{v:V}
theorem fD(h:S i=some (.row vs t))(hv:vs[o]? =some v){K:KV}:bJ (.ptr i o) S K=K v S:=by unfold bJ;simp only [h,kF hv]
theorem RX(h:S i=some (.row vs t))(ho:o<vs.length)(h1:pN v=true){k:Hp->Prop}:mE 1 (.ptr i o) v S k=k (aM S i (.row (vs.set o v) t)):=by
 apply propext;constructor
 ·intro hv
  unfold mE at hv;simp only [h]at hv;have:∀{p:List V->Prop},yD v p=p [v]:=λ{p}=>by cases v<;>first | rfl | cases h1
  rw [this]at hv;rw [<-WC ho];exact hv.2.2
 ·intro hk;exact nJ h h1 ho (by rw [WC ho];exact hk)
end
theorem yG{op:KV->Prop}{S:Hp}{k:KV}:eL true (.bool false) op S k=k MZ S:=rfl
theorem EN{op:KV->Prop}{S:Hp}{k:KV}:eL false (.bool true) op S k=k MZ S:=rfl
structure Ms where
 kind:Nat
 fr:Int
 to:Int
 ht:Int
 rd:Int
 vl:Int
 ep:Int
 dl:Int
 id:Int
 text:List UInt8
 nums:List Nat
def nW(O:Tag)(m:Ms):List V:=[n8 m.kind,nz m.fr,nz m.to,nz m.ht,nz m.rd,nz m.vl,nz m.ep,nz m.dl,nz m.id,.str m.text,.list O (m.nums.map λn=>Dt.int .u64 (.ofNat n)) m.nums.length]
def Na:List Nat:=[0,769,796,524,524,772,1025,1120,1120,1120,1120,1186]
def vN(k:Nat):Nat:=Na.getD k 0
def FZ(k w:Nat):Bool:= !decide (IntKind.i64.wrap (BitVec.ofInt IntKind.i64.bits (.ofNat (vN k)) &&& BitVec.ofInt IntKind.i64.bits (.ofNat w)).toNat= .ofNat 0)
def Nb(b:Bool)(x lo hi:Int):Bool:=((b&&decide (lo<=x))&&decide (x<=hi)) || (!b&&decide (x=0))
def LZ(m:Ms):List Bool:=[!decide (vN m.kind=0),Nb (!FZ m.kind 1) m.fr 1 8,Nb (!FZ m.kind 2) m.to (.ofNat (if FZ m.kind 1 then 1 else 0)) 8,Nb (FZ m.kind 4) m.ht 1 64,Nb (FZ m.kind 8) m.rd 0 99,Nb (FZ m.kind 16) m.vl (.negSucc 0) (lC .i64 (m.rd-1)),Nb (FZ m.kind 32) m.ep 1 64,Nb (FZ m.kind 64) m.dl 1 7,Nb (FZ m.kind 128) m.id 1 1099511627776,(FZ m.kind 512 || decide (m.text=[]))&&(!FZ m.kind 256 || !decide (m.text=[])),FZ m.kind 1024 || decide (m.nums.length=0),decide (m.text.length<=2048)&&decide (m.nums.length<=1024)]
def Al(m:Ms):Bool:=(LZ m).all id
def vW(x:VE)(t1 t3 t4 t5 t6:V):HK:=DC PP fT SS x [.r,.r,.r,.r,.r,.r] [] [t1,t3,t4,t5,t6]
def Qs(x:VE)(a0:V):HK:=λS K=>
 pO 37 a0 S λv0 S=>
 gG 0 v0 S λv2 S=>
 x.call RH [v2] S λv3 S=>
 eI WJ 3 S λv4 S=>
 mE 1 v4 v3 S λS=>
 eI [.nilFunc] 109 S λv5 S=>
 mE 1 v5 (.func mU [] [v4]) S λS=>
 eI [.nilFunc] 110 S λv6 S=>
 mE 1 v6 (.func lP [] []) S λS=>
 eI WJ 3 S λv7 S=>
 mE 1 v7 (.int .i64 (.ofNat 0)) S λS=>
 bJ v5 S λv8 S=>
 fK x v8 [(.int .i64 (.ofNat 1))] S λv9 S=>
 iQ v9 (mE 1 v7 (.int .i64 (.ofNat 1)) S λS=>vW x v0 v4 v5 v6 v7 S K) (vW x v0 v4 v5 v6 v7 S K)
theorem aFV(x:VE)(a0:V):nV PP fT SS x [a0]=Qs x a0:=by kernel_rfl
def JQ(x:VE)(t1 t3 t4 t5 t6:V):HK:=λS K=>
 fG S λS=>
 dN 24 12 [.nilFunc] [(0,1,(.func JI [] [t3])),(1,1,(.func JJ [] [t5,t4,t1])),(2,1,(.func JK [] [t5,t4,t1,t6])),(3,1,(.func JL [] [t5,t4,t1])),(4,1,(.func JM [] [t5,t4,t1])),(5,1,(.func JN [] [t5,t4,t1])),(6,1,(.func JO [] [t5,t4,t1])),(7,1,(.func FS [] [t5,t4,t1])),(8,1,(.func FT [] [t5,t4,t1])),(9,1,(.func FU [] [t4,t1])),(10,1,(.func FV [] [t4,t1])),(11,1,(.func FW [] [t1]))] S λv0 S=>
 x.call fL [v0,(.func qL [] [])] S λv1 S=>
 JC .not v1 λv2=>
 aQ v2 S K
theorem ZR(x:VE)(hm:x.most≠0)(t1 t3 t4 t5 t6:V)(S:Hp)(K:KV):vW x t1 t3 t4 t5 t6 S K=JQ x t1 t3 t4 t5 t6 S K:=(rM (hm:=hm) ..).trans (by kernel_rfl)
def Fq(x:VE)(a0:V):HK:=λS K=>
 fX aC5 [(1,1,(.int .i64 (.ofNat 769))),(2,1,(.int .i64 (.ofNat 796))),(3,1,(.int .i64 (.ofNat 524))),(4,1,(.int .i64 (.ofNat 524))),(5,1,(.int .i64 (.ofNat 772))),(6,1,(.int .i64 (.ofNat 1025))),(7,1,(.int .i64 (.ofNat 1120))),(8,1,(.int .i64 (.ofNat 1120))),(9,1,(.int .i64 (.ofNat 1120))),(10,1,(.int .i64 (.ofNat 1120))),(11,1,(.int .i64 (.ofNat 1186)))] λv0=>
 eI aC5 138 S λv1 S=>
 mE 12 v1 v0 S λS=>
 Lo .i64 a0 λv2=>
 aD PP .geq 3 v2 (.int .i64 (.ofNat 12)) λv3=>
 iQ v3 (aQ (.int .i64 (.ofNat 0)) S K) (aEa 12 1 v1 a0 λv4=>bJ v4 S λv5 S=>aQ v5 S K)
theorem aAX(x:VE)(a0:V):nV PP fT RH x [a0]=Fq x a0:=by kernel_rfl
def Fs(x:VE)(a0 a1:V):HK:=λS K=>
 bJ a1 S λv0 S=>
 aD PP .and 3 v0 a0 λv1=>
 aD PP .neq 3 v1 (.int .i64 (.ofNat 0)) λv2=>
 aQ v2 S K
theorem aAY(x:VE)(a0 a1:V):nV PP fT mU x [a0,a1]=Fs x a0 a1:=by kernel_rfl
def Ft(x:VE)(a0 a1 a2 a3:V):HK:=λS K=>
 BD x a0 a1 S λv0 S=>
 BD x a0 a2 S λv1 S=>
 rW x a0 (aD PP .geq 3 v0 v1) S λv3 S=>
 gQ x a0 v3 (.bool false) λv4=>
 BD x v4 a1 S λv5 S=>
 BD x v4 a3 S λv6 S=>
 rW x v4 (aD PP .leq 3 v5 v6) S λv8 S=>
 gQ x v4 v8 (.bool false) λv9=>
 wF x v9 a0 S λv10 S=>
 jK x v9 (JC .not v10) S λv12 S=>
 wF x v9 v12 S λpI S=>
 BD x pI a1 S λmL S=>
 rW x pI (aD PP .eql 3 mL (.int .i64 (.ofNat 0))) S λuJ S=>
 jK x v9 (gQ x pI uJ (.bool false)) S λBA S=>
 gQ x v9 (.bool true) BA λyT=>
 aQ yT S K
theorem aAZ(x:VE)(a0 a1 a2 a3:V):nV PP fT lP x [a0,a1,a2,a3]=Ft x a0 a1 a2 a3:=by kernel_rfl
def Fu(x:VE)(a0:V):HK:=λS K=>
 bJ a0 S λv0 S=>
 aD PP .neq 3 v0 (.int .i64 (.ofNat 0)) λv1=>
 aQ v1 S K
theorem aA0(x:VE)(a0:V):nV PP fT JI x [a0]=Fu x a0:=by kernel_rfl
def Fv(x:VE)(a0 a1 a2:V):HK:=λS K=>
 bJ a0 S λv0 S=>
 bJ a1 S λv1 S=>
 bF 1 a2 λv2=>
 bJ v2 S λv3 S=>
 fK x v1 [(.int .i64 (.ofNat 1))] S λv4 S=>
 bJ v2 S λv5 _=>
 aT v5 v3 (bJ a0 S λv6 _=>aT v6 v0 (JC .not v4 λv7=>fK x v0 [v7,v3,(.int .i64 (.ofNat 1)),(.int .i64 (.ofNat 8))] S λv8 S=>aQ v8 S K))
theorem aA1(x:VE)(a0 a1 a2:V):nV PP fT JJ x [a0,a1,a2]=Fv x a0 a1 a2:=by kernel_rfl
def Fw(x:VE)(a0 a1 a2 a3:V):HK:=λS K=>
 bJ a0 S λv0 S=>
 bJ a1 S λv1 S=>
 bF 2 a2 λv2=>
 bJ v2 S λv3 S=>
 bJ a3 S λv4 S=>
 fK x v1 [(.int .i64 (.ofNat 2))] S λv5 S=>
 bJ a3 S λv6 _=>
 aT v6 v4 (bJ v2 S λv7 _=>aT v7 v3 (bJ a0 S λv8 _=>aT v8 v0 (JC .not v5 λv9=>fK x v0 [v9,v3,v4,(.int .i64 (.ofNat 8))] S λv10 S=>aQ v10 S K)))
theorem aA2(x:VE)(a0 a1 a2 a3:V):nV PP fT JK x [a0,a1,a2,a3]=Fw x a0 a1 a2 a3:=by kernel_rfl
def Fx(x:VE)(a0 a1 a2:V):HK:=λS K=>
 bJ a0 S λv0 S=>
 bJ a1 S λv1 S=>
 bF 3 a2 λv2=>
 bJ v2 S λv3 S=>
 fK x v1 [(.int .i64 (.ofNat 4))] S λv4 S=>
 bJ v2 S λv5 _=>
 aT v5 v3 (bJ a0 S λv6 _=>aT v6 v0 (fK x v0 [v4,v3,(.int .i64 (.ofNat 1)),(.int .i64 (.ofNat 64))] S λv7 S=>aQ v7 S K))
theorem aA3(x:VE)(a0 a1 a2:V):nV PP fT JL x [a0,a1,a2]=Fx x a0 a1 a2:=by kernel_rfl
def Fy(x:VE)(a0 a1 a2:V):HK:=λS K=>
 bJ a0 S λv0 S=>
 bJ a1 S λv1 S=>
 bF 4 a2 λv2=>
 bJ v2 S λv3 S=>
 fK x v1 [(.int .i64 (.ofNat 8))] S λv4 S=>
 bJ v2 S λv5 _=>
 aT v5 v3 (bJ a0 S λv6 _=>aT v6 v0 (fK x v0 [v4,v3,(.int .i64 (.ofNat 0)),(.int .i64 (.ofNat 99))] S λv7 S=>aQ v7 S K))
theorem aA4(x:VE)(a0 a1 a2:V):nV PP fT JM x [a0,a1,a2]=Fy x a0 a1 a2:=by kernel_rfl
def Ga(x:VE)(a0 a1 a2:V):HK:=λS K=>
 bJ a0 S λv0 S=>
 bJ a1 S λv1 S=>
 bF 5 a2 λv2=>
 bJ v2 S λv3 S=>
 bF 4 a2 λv4=>
 bJ v4 S λv5 S=>
 aD PP .sub 3 v5 (.int .i64 (.ofNat 1)) λv6=>
 fK x v1 [(.int .i64 (.ofNat 16))] S λv7 S=>
 bJ v4 S λv8 _=>
 aT v8 v5 (bJ v2 S λv9 _=>aT v9 v3 (bJ a0 S λv10 _=>aT v10 v0 (fK x v0 [v7,v3,(.int .i64 (.negSucc 0)),v6] S λv11 S=>bJ v4 S λv12 _=>aT v12 v5 (aQ v11 S K))))
theorem aA5(x:VE)(a0 a1 a2:V):nV PP fT JN x [a0,a1,a2]=Ga x a0 a1 a2:=by kernel_rfl
def Gc(x:VE)(a0 a1 a2:V):HK:=λS K=>
 bJ a0 S λv0 S=>
 bJ a1 S λv1 S=>
 bF 6 a2 λv2=>
 bJ v2 S λv3 S=>
 fK x v1 [(.int .i64 (.ofNat 32))] S λv4 S=>
 bJ v2 S λv5 _=>
 aT v5 v3 (bJ a0 S λv6 _=>aT v6 v0 (fK x v0 [v4,v3,(.int .i64 (.ofNat 1)),(.int .i64 (.ofNat 64))] S λv7 S=>aQ v7 S K))
theorem aA6(x:VE)(a0 a1 a2:V):nV PP fT JO x [a0,a1,a2]=Gc x a0 a1 a2:=by kernel_rfl
def ZS(x:VE)(a0 a1 a2:V):HK:=λS K=>
 bJ a0 S λv0 S=>
 bJ a1 S λv1 S=>
 bF 7 a2 λv2=>
 bJ v2 S λv3 S=>
 fK x v1 [(.int .i64 (.ofNat 64))] S λv4 S=>
 bJ v2 S λv5 _=>
 aT v5 v3 (bJ a0 S λv6 _=>aT v6 v0 (fK x v0 [v4,v3,(.int .i64 (.ofNat 1)),(.int .i64 (.ofNat 7))] S λv7 S=>aQ v7 S K))
theorem Vn(x:VE)(a0 a1 a2:V):nV PP fT FS x [a0,a1,a2]=ZS x a0 a1 a2:=by kernel_rfl
def ZT(x:VE)(a0 a1 a2:V):HK:=λS K=>
 bJ a0 S λv0 S=>
 bJ a1 S λv1 S=>
 bF 8 a2 λv2=>
 bJ v2 S λv3 S=>
 fK x v1 [(.int .i64 (.ofNat 128))] S λv4 S=>
 bJ v2 S λv5 _=>
 aT v5 v3 (bJ a0 S λv6 _=>aT v6 v0 (fK x v0 [v4,v3,(.int .i64 (.ofNat 1)),(.int .i64 (.ofNat 1099511627776))] S λv7 S=>aQ v7 S K))
theorem Vp(x:VE)(a0 a1 a2:V):nV PP fT FT x [a0,a1,a2]=ZT x a0 a1 a2:=by kernel_rfl
def ZU(x:VE)(a0 a1:V):HK:=λS K=>
 bJ a0 S λv0 S=>
 fK x v0 [(.int .i64 (.ofNat 512))] S λv1 S=>
 XG x v1 9 a1 .eql 9 (.str []) S λv8 S=>
 ST x v8 (bJ a0 S) S λv10 S=>
 ST x v8 (fK x v10 [(.int .i64 (.ofNat 256))] S) S λv12 S=>
 rW x v8 (JC .not v12) S λmL S=>
 BD x v8 mL S λuN S=>
 zE x uN 9 a1 S λyT S=>
 jK x uN (aD PP .neq 9 yT (.str [])) S λv21 S=>
 rW x v8 (gQ x uN (.bool true) v21) S λv23 S=>
 gQ x v8 v23 (.bool false) λv24=>
 aQ v24 S K
theorem Vq(x:VE)(a0 a1:V):nV PP fT FU x [a0,a1]=ZU x a0 a1:=by kernel_rfl
def ZV(x:VE)(a0 a1:V):HK:=λS K=>
 bJ a0 S λv0 S=>
 fK x v0 [(.int .i64 (.ofNat 1024))] S λv1 S=>
 zE x v1 10 a1 S λv5 S=>
 jK x v1 (dC v5) S λv7 S=>
 jK x v1 (aD PP .eql 3 v7 (.int .i64 (.ofNat 0))) S λv9 S=>
 gQ x v1 (.bool true) v9 λv10=>
 aQ v10 S K
theorem Vr(x:VE)(a0 a1:V):nV PP fT FV x [a0,a1]=ZV x a0 a1:=by kernel_rfl
def ZW(x:VE)(a0:V):HK:=λS K=>
 gG 9 a0 S λv1 S=>
 JA v1 λv2=>
 aD PP .leq 3 v2 (.int .i64 (.ofNat 2048)) λv3=>
 Av x v3 10 a0 S λv7 S=>
 rW x v3 (dC v7) S λv9 S=>
 rW x v3 (aD PP .leq 3 v9 (.int .i64 (.ofNat 1024))) S λv11 S=>
 gQ x v3 v11 (.bool false) λv12=>
 aQ v12 S K
theorem Vs(x:VE)(a0:V):nV PP fT FW x [a0]=ZW x a0:=by kernel_rfl
def ZX(x:VE)(a0:V):HK:=λS K=>
 fK x a0 [] S λv0 S=>
 JC .not v0 λv1=>
 aQ v1 S K
theorem Vu(x:VE)(a0:V):nV PP fT qL x [a0]=ZX x a0:=by kernel_rfl
def jW(x:VE)(a0 a1:V):HK:=λS K=>
 x.call dO [a0,a1] S λv0 S=>
 aD PP .geq 3 v0 (.int .i64 (.ofNat 0)) λv1=>
 aQ v1 S K
theorem qY(x:VE)(a0 a1:V):nV PP fT fL x [a0,a1]=jW x a0 a1:=by kernel_rfl
def bR(x:VE)(m:Nat)(t0 t1 t7 t8:V):HK:=mT PP fT dO x [.r,.l,.r,.d] m [] [t0,t1,t7,t8]
def kX(x:VE)(a0 a1:V):HK:=λS K=>
 dC a0 λv0=>
 bR x x.most a0 a1 v0 (.int .i64 (.ofNat 0)) S K
theorem rZ(x:VE)(a0 a1:V):nV PP fT dO x [a0,a1]=kX x a0 a1:=by kernel_rfl
def eS(x:VE)(m0:Nat)(t0 t1 t7 t8:V):HK:=λS K=>
 fG S λS=>
 aD PP .lss 3 t8 t7 λv0=>
 iQ v0 (jM 1 t0 t8 λv1=>bJ v1 S λv2 S=>fK x t1 [v2] S λv3 S=>iQ v3 (aQ t8 S K) (aD PP .add 3 t8 (.int .i64 (.ofNat 1)) λv4=>bR x m0 t0 t1 t7 v4 S K)) (aQ (.int .i64 (.negSucc 0)) S K)
theorem iY(x:VE)(m0:Nat)(t0 t1 t7 t8:V):bR x (m0+1) t0 t1 t7 t8=eS x m0 t0 t1 t7 t8:=by kernel_rfl
section
variable{M n:Nat}{x:VE}{S:Hp}{K:KV}
theorem aK2(hx:DP M (n+1) x){k:Nat}(hk:k<256)(hK:K (ni (vN k)) S):x.call RH [n8 k] S K:=by
 refine hx.call rfl λy hy=>?_;rw [aAX];unfold Fq
 have hb:∀{k:V->Prop},k (.agg (Na.map ni))->fX aC5 [(1,1,(.int .i64 (.ofNat 769))),(2,1,(.int .i64 (.ofNat 796))),(3,1,(.int .i64 (.ofNat 524))),(4,1,(.int .i64 (.ofNat 524))),(5,1,(.int .i64 (.ofNat 772))),(6,1,(.int .i64 (.ofNat 1025))),(7,1,(.int .i64 (.ofNat 1120))),(8,1,(.int .i64 (.ofNat 1120))),(9,1,(.int .i64 (.ofNat 1120))),(10,1,(.int .i64 (.ofNat 1120))),(11,1,(.int .i64 (.ofNat 1186)))] k:=λ{k} hk=>by
  unfold fX AD
  iterate 11 (refine⟨rfl,aW rfl,?_⟩)
  exact hk
 refine hb ?_;refine dQ (l:=(List.replicate 12 (ni 0))) rfl λb hb=>?_;refine gJ (n:=12) (i:=b) aB rfl rfl rfl ?_;rw [cW,aNx hk];show aD PP .geq 3 (ni k) (ni 12) _;rw [Wp];have le:cP S (aM S b (.row (Na.map ni) 138)):= .aN hb;by_cases c:12<=k
 ·rw [aU c,eY]
  have e:vN k=0:=by unfold vN;rw [ME,GH (by show 12<=k;exact c)];rfl
  rw [e]at hK;exact cL le hK
 ·rw [aR c,cF]
  refine⟨by omega,?_⟩;dsimp only;have hl:k<Na.length:=by show k<12;omega
  have e:(Na.map ni)[0+k*1]? =some (ni (vN k)):=by
   rw [gB,lS,jA,aP hl];unfold vN;rw [ME,aP hl];rfl
  rw [fD (o:=0+k*1) aB e];exact cL le hK
theorem aLV(hx:DP M (n+1) x){k w b:Nat}{t:TypeId}(rb:S b=some (.row [ni (vN k)] t))(hK:K (.bool (FZ k w)) S):x.call mU [ni w,.ptr b 0] S K:=by
 refine hx.call rfl λy hy=>?_;rw [aAY];unfold Fs;rw [fD (o:=0) rb rfl];refine⟨rfl,?_⟩;show aD PP .neq 3 (.int .i64 _) (.int .i64 (.ofNat 0)) _;rw [gD];exact aF hK
theorem aIZ(hx:DP M (n+1) x){b:Bool}{z lo hi:Int}(hK:K (.bool (Nb b z lo hi)) S):x.call lP [.bool b,nz z,nz lo,nz hi] S K:=by
 refine hx.call rfl λy hy=>?_;rw [aAZ];unfold Ft rW jK BD wF gQ;have g1:LB .geq 3 (nz z) (nz lo) (.bool (decide (lo<=z))):=λ{k}=>by rw [kG]
 have g2:LB .leq 3 (nz z) (nz hi) (.bool (decide (z<=hi))):=λ{k}=>by rw [yR]
 have g3:LB .eql 3 (nz z) (.int .i64 (.ofNat 0)) (.bool (decide (z=0))):=λ{k}=>by rw [cV];rfl
 unfold Nb at hK;generalize decide (lo<=z)=p at g1 hK;generalize decide (z<=hi)=q at g2 hK;generalize decide (z=0)=r at g3 hK;cases b<;>cases p<;>cases q<;>cases r<;>(repeat (first | rw [aL] | rw [aI] | rw [yG] | rw [EN] | rw [oZ] | rw [kB] | rw [fA] | rw [g1] | rw [g2] | rw [g3] | rw [gX] | rw [eH] | rw [iH] | dsimp only))<;>exact aF hK
end
structure GA(S:Hp)(n h w l m:Nat)(O:Tag)(g:Ms):Prop where
 rn:S n=some (.row [ni (vN g.kind)] 3)
 rh:S h=some (.row [.func mU [] [.ptr n 0]] 109)
 rw:S w=some (.row [.func lP [] []] 110)
 rl:S l=some (.row [ni (if FZ g.kind 1 then 1 else 0)] 3)
 rm:S m=some (.row (nW O g) 37)
section
variable{M d:Nat}{x:VE}{S:Hp}{K:KV}{n h w l m:Nat}{O:Tag}{g:Ms}
theorem GA.hle{S':Hp}(r:GA S n h w l m O g)(k:cP S S'):GA S' n h w l m O g:=⟨k _ _ r.rn,k _ _ r.rh,k _ _ r.rw,k _ _ r.rl,k _ _ r.rm⟩
theorem GA.ln(r:GA S n h w l m O g):bJ (.ptr n 0) S K=K (ni (vN g.kind)) S:=fD r.rn rfl
theorem GA.lh(r:GA S n h w l m O g):bJ (.ptr h 0) S K=K (.func mU [] [.ptr n 0]) S:=fD r.rh rfl
theorem GA.lw(r:GA S n h w l m O g):bJ (.ptr w 0) S K=K (.func lP [] []) S:=fD r.rw rfl
theorem GA.ll(r:GA S n h w l m O g):bJ (.ptr l 0) S K=K (ni (if FZ g.kind 1 then 1 else 0)) S:=fD r.rl rfl
theorem GA.m1(r:GA S n h w l m O g):bJ (.ptr m 1) S K=K (nz g.fr) S:=fD r.rm rfl
theorem GA.m2(r:GA S n h w l m O g):bJ (.ptr m 2) S K=K (nz g.to) S:=fD r.rm rfl
theorem GA.m3(r:GA S n h w l m O g):bJ (.ptr m 3) S K=K (nz g.ht) S:=fD r.rm rfl
theorem GA.m4(r:GA S n h w l m O g):bJ (.ptr m 4) S K=K (nz g.rd) S:=fD r.rm rfl
theorem GA.m5(r:GA S n h w l m O g):bJ (.ptr m 5) S K=K (nz g.vl) S:=fD r.rm rfl
theorem GA.m6(r:GA S n h w l m O g):bJ (.ptr m 6) S K=K (nz g.ep) S:=fD r.rm rfl
theorem GA.m7(r:GA S n h w l m O g):bJ (.ptr m 7) S K=K (nz g.dl) S:=fD r.rm rfl
theorem GA.m8(r:GA S n h w l m O g):bJ (.ptr m 8) S K=K (nz g.id) S:=fD r.rm rfl
theorem GA.m9(r:GA S n h w l m O g):bJ (.ptr m 9) S K=K (.str g.text) S:=fD r.rm rfl
theorem GA.m10(r:GA S n h w l m O g):bJ (.ptr m 10) S K=K (.list O (g.nums.map λn=>Dt.int .u64 (.ofNat n)) g.nums.length) S:=fD r.rm rfl
theorem aRe{k:V->Prop}:aD PP .neq 3 (ni (vN g.kind)) (.int .i64 (.ofNat 0)) k=k (.bool (!decide (vN g.kind=0))):=by show aD PP .neq 3 (ni (vN g.kind)) (ni 0) k=_;rw [Wq]
theorem aRf{k:V->Prop}:aD PP .sub 3 (nz g.rd) (.int .i64 (.ofNat 1)) k=k (nz (lC .i64 (g.rd-1))):=by rw [tJ];rfl
theorem aRg{k:V->Prop}:aD PP .eql 3 (ni g.nums.length) (.int .i64 (.ofNat 0)) k=k (.bool (decide (g.nums.length=0))):=by show aD PP .eql 3 (ni g.nums.length) (ni 0) k=_;rw [Mz]
theorem aRh{a b:Nat}{k:V->Prop}:aD PP .leq 3 (ni a) (.int .i64 (.ofNat b)) k=k (.bool (decide (a<=b))):=by rw [yR];congr 2;simp
theorem aRi{t:List UInt8}{k:V->Prop}:aD PP .eql 9 (.str t) (.str []) k=k (.bool (decide (t=[]))):=rfl
theorem aRj{t:List UInt8}{k:V->Prop}:aD PP .neq 9 (.str t) (.str []) k=k (.bool (!decide (t=[]))):=rfl
theorem UK(hx:DP M (d+1) x)(r:GA S n h w l m O g){q:Nat}(hK:K (.bool (FZ g.kind q)) S):fK x (.func mU [] [.ptr n 0]) [ni q] S K:=aLV hx r.rn hK
theorem DS(hx:DP M (d+1) x){b:Bool}{z lo hi:Int}(hK:K (.bool (Nb b z lo hi)) S):fK x (.func lP [] []) [.bool b,nz z,nz lo,nz hi] S K:=aIZ hx hK
theorem KO{k:IntKind}{z:Int}{p:Prop}:aT (.int k z) (.int k z) p=p:=dX rfl
theorem RY{p:Prop}:aT (.func lP [] []) (.func lP [] []) p=p:=dX rfl
theorem aNy(hx:DP M (d+2) x)(r:GA S n h w l m O g)(hK:∀b,(LZ g)[0]? =some b->K (.bool b) S):x.call JI [.ptr n 0] S K:=by
 refine hx.call rfl λy hy=>?_;rw [aA0];unfold Fu;have hK:=hK _ rfl
 (repeat (first | rw [r.ln] | rw [aRe] | dsimp only))
 exact aF hK
theorem aNz(hx:DP M (d+2) x)(r:GA S n h w l m O g)(hK:∀b,(LZ g)[1]? =some b->K (.bool b) S):x.call JJ [.ptr w 0,.ptr h 0,.ptr m 0] S K:=by
 refine hx.call rfl λy hy=>?_;rw [aA1];unfold Fv;have hK:=hK _ rfl
 (repeat (first | rw [aG] | rw [r.lw] | rw [r.lh] | rw [r.m1] | rw [gX] | rw [KO] | rw [RY] | rw [eH] | rw [iH] | dsimp only | refine UK (d:=d) hy r ?_ | refine DS (d:=d) hy ?_))
 exact aF hK
theorem aNA(hx:DP M (d+2) x)(r:GA S n h w l m O g)(hK:∀b,(LZ g)[2]? =some b->K (.bool b) S):x.call JK [.ptr w 0,.ptr h 0,.ptr m 0,.ptr l 0] S K:=by
 refine hx.call rfl λy hy=>?_;rw [aA2];unfold Fw;have hK:=hK _ rfl
 (repeat (first | rw [aG] | rw [r.lw] | rw [r.lh] | rw [r.ll] | rw [r.m2] | rw [gX] | rw [KO] | rw [RY] | rw [eH] | rw [iH] | dsimp only | refine UK (d:=d) hy r ?_ | refine DS (d:=d) hy ?_))
 exact aF hK
theorem aNB(hx:DP M (d+2) x)(r:GA S n h w l m O g)(hK:∀b,(LZ g)[3]? =some b->K (.bool b) S):x.call JL [.ptr w 0,.ptr h 0,.ptr m 0] S K:=by
 refine hx.call rfl λy hy=>?_;rw [aA3];unfold Fx;have hK:=hK _ rfl
 (repeat (first | rw [aG] | rw [r.lw] | rw [r.lh] | rw [r.m3] | rw [KO] | rw [RY] | dsimp only | refine UK (d:=d) hy r ?_ | refine DS (d:=d) hy ?_))
 exact aF hK
theorem aNC(hx:DP M (d+2) x)(r:GA S n h w l m O g)(hK:∀b,(LZ g)[4]? =some b->K (.bool b) S):x.call JM [.ptr w 0,.ptr h 0,.ptr m 0] S K:=by
 refine hx.call rfl λy hy=>?_;rw [aA4];unfold Fy;have hK:=hK _ rfl
 (repeat (first | rw [aG] | rw [r.lw] | rw [r.lh] | rw [r.m4] | rw [KO] | rw [RY] | dsimp only | refine UK (d:=d) hy r ?_ | refine DS (d:=d) hy ?_))
 exact aF hK
theorem aND(hx:DP M (d+2) x)(r:GA S n h w l m O g)(hK:∀b,(LZ g)[5]? =some b->K (.bool b) S):x.call JN [.ptr w 0,.ptr h 0,.ptr m 0] S K:=by
 refine hx.call rfl λy hy=>?_;rw [aA5];unfold Ga;have hK:=hK _ rfl
 (repeat (first | rw [aG] | rw [r.lw] | rw [r.lh] | rw [r.m4] | rw [r.m5] | rw [aRf] | rw [KO] | rw [RY] | dsimp only | refine UK (d:=d) hy r ?_ | refine DS (d:=d) hy ?_))
 exact aF hK
theorem aNE(hx:DP M (d+2) x)(r:GA S n h w l m O g)(hK:∀b,(LZ g)[6]? =some b->K (.bool b) S):x.call JO [.ptr w 0,.ptr h 0,.ptr m 0] S K:=by
 refine hx.call rfl λy hy=>?_;rw [aA6];unfold Gc;have hK:=hK _ rfl
 (repeat (first | rw [aG] | rw [r.lw] | rw [r.lh] | rw [r.m6] | rw [KO] | rw [RY] | dsimp only | refine UK (d:=d) hy r ?_ | refine DS (d:=d) hy ?_))
 exact aF hK
theorem aK3(hx:DP M (d+2) x)(r:GA S n h w l m O g)(hK:∀b,(LZ g)[7]? =some b->K (.bool b) S):x.call FS [.ptr w 0,.ptr h 0,.ptr m 0] S K:=by
 refine hx.call rfl λy hy=>?_;rw [Vn];unfold ZS;have hK:=hK _ rfl
 (repeat (first | rw [aG] | rw [r.lw] | rw [r.lh] | rw [r.m7] | rw [KO] | rw [RY] | dsimp only | refine UK (d:=d) hy r ?_ | refine DS (d:=d) hy ?_))
 exact aF hK
theorem aK4(hx:DP M (d+2) x)(r:GA S n h w l m O g)(hK:∀b,(LZ g)[8]? =some b->K (.bool b) S):x.call FT [.ptr w 0,.ptr h 0,.ptr m 0] S K:=by
 refine hx.call rfl λy hy=>?_;rw [Vp];unfold ZT;have hK:=hK _ rfl
 (repeat (first | rw [aG] | rw [r.lw] | rw [r.lh] | rw [r.m8] | rw [KO] | rw [RY] | dsimp only | refine UK (d:=d) hy r ?_ | refine DS (d:=d) hy ?_))
 exact aF hK
theorem aK5(hx:DP M (d+2) x)(r:GA S n h w l m O g)(hK:∀b,(LZ g)[9]? =some b->K (.bool b) S):x.call FU [.ptr h 0,.ptr m 0] S K:=by
 refine hx.call rfl λy hy=>?_;rw [Vq];unfold ZU XG zE rW jK ST uM BD gQ;have hK:=hK _ rfl;have hK:K (.bool ((FZ g.kind 512 || decide (g.text=[]))&&(!FZ g.kind 256 || !decide (g.text=[])))) S:=hK;cases h1:FZ g.kind 512<;>cases h2:FZ g.kind 256<;>cases h3:decide (g.text=[])<;>rw [h1,h2,h3]at hK<;>(repeat (first | rw [aL] | rw [aI] | rw [yG] | rw [EN] | rw [oZ] | rw [kB] | rw [fA] | rw [aG] | rw [r.lh] | rw [r.m9] | rw [aRi] | rw [aRj] | rw [h1] | rw [h2] | rw [h3] | rw [gX] | rw [eH] | rw [iH] | dsimp only | refine UK (d:=d) hy r ?_))<;>exact aF hK
theorem aK6(hx:DP M (d+2) x)(r:GA S n h w l m O g)(hK:∀b,(LZ g)[10]? =some b->K (.bool b) S):x.call FV [.ptr h 0,.ptr m 0] S K:=by
 refine hx.call rfl λy hy=>?_;rw [Vr];unfold ZV zE jK uM gQ;have hK:=hK _ rfl;have hK:K (.bool (FZ g.kind 1024 || decide (g.nums.length=0))) S:=hK;cases h1:FZ g.kind 1024<;>cases h3:decide (g.nums.length=0)<;>rw [h1,h3]at hK<;>(repeat (first | rw [aL] | rw [aI] | rw [EN] | rw [oZ] | rw [kB] | rw [fA] | rw [aG] | rw [r.lh] | rw [r.m10] | rw [dV] | rw [aRg] | rw [h1] | rw [h3] | rw [eH] | rw [iH] | dsimp only | refine UK (d:=d) hy r ?_))<;>exact aF hK
theorem aK7(hx:DP M (d+2) x)(r:GA S n h w l m O g)(hK:∀b,(LZ g)[11]? =some b->K (.bool b) S):x.call FW [.ptr m 0] S K:=by
 refine hx.call rfl λy hy=>?_;rw [Vs];unfold ZW Av rW ST gQ gG;have hK:=hK _ rfl;have hK:K (.bool (decide (g.text.length<=2048)&&decide (g.nums.length<=1024))) S:=hK;cases h1:decide (g.text.length<=2048)<;>cases h2:decide (g.nums.length<=1024)<;>rw [h1,h2]at hK<;>(repeat (first | rw [aL] | rw [aI] | rw [yG] | rw [oZ] | rw [kB] | rw [fA] | rw [aG] | rw [r.m9] | rw [r.m10] | rw [dV] | rw [CQ] | rw [aRh] | rw [h1] | rw [h2] | rw [eH] | rw [iH] | dsimp only))<;>exact aF hK
end
def Hf(n h w l m:Nat):List V:=[.func JI [] [.ptr n 0],.func JJ [] [.ptr w 0,.ptr h 0,.ptr m 0],.func JK [] [.ptr w 0,.ptr h 0,.ptr m 0,.ptr l 0],.func JL [] [.ptr w 0,.ptr h 0,.ptr m 0],.func JM [] [.ptr w 0,.ptr h 0,.ptr m 0],.func JN [] [.ptr w 0,.ptr h 0,.ptr m 0],.func JO [] [.ptr w 0,.ptr h 0,.ptr m 0],.func FS [] [.ptr w 0,.ptr h 0,.ptr m 0],.func FT [] [.ptr w 0,.ptr h 0,.ptr m 0],.func FU [] [.ptr h 0,.ptr m 0],.func FV [] [.ptr h 0,.ptr m 0],.func FW [] [.ptr m 0]]
theorem aK8{o:Nat}{v:V}{ps:List (Nat×Nat×V)}{cs:List V}{k:List V->Prop}(ho:pN v=true)(hl:o+1<=cs.length)(hk:vD ps (cs.set o v) k):vD ((o,1,v)::ps) cs k:=by
 have e:aE o [v] cs=cs.set o v:=by
  rw [aGq,if_pos (by omega)];simp [aE]
 rw [<-e]at hk;unfold vD;unfold yD;cases v<;>first | (cases ho;done) | exact⟨rfl,hl,hk⟩
def Nc:Nat->List V->List (Nat×Nat×V)
 | _,[]=>[]
 | o,v::l=>(o,1,v)::Nc (o+1) l
theorem aF8:∀(new pre rest:List V) {k:List V->Prop},new.all pN=true->rest.length=new.length->k (pre++new)->vD (Nc pre.length new) (pre++rest) k:=by
 intro new;induction new with
 | nil=>
  intro pre rest k _ hl hk;obtain rfl:rest=[]:=mS (by simpa using hl);exact hk
 | cons v new ih=>
  intro pre rest k ho hl hk;cases rest with
  | nil=>simp at hl
  | cons r rest=>
   simp only [PD,bW]at ho;refine aK8 ho.1 (by simp) ?_;have e:(pre++r::rest).set pre.length v=(pre++[v])++rest:=by simp
   rw [e];have:=ih (pre++[v]) rest (k:=k) ho.2 (by simpa using hl) (by simpa using hk)
   rwa [bH]at this
theorem aDk{new rest:List V}{k:List V->Prop}(ho:new.all pN=true)(hl:rest.length=new.length)(hk:k new):vD (Nc 0 new) rest k:=aF8 new [] rest ho hl hk
theorem aBf{el:TypeId}{n:Nat}{z0:Value}{u:V}{new:List V}{S:Hp}{K:KV}(hz:ED [z0]=some [u])(ho:new.all pN=true)(hl:new.length=n)(hk:∀j,S j=none->K (.own j 0 n n) (aM S j (.row new el))):dN el n [z0] (Nc 0 new) S K:=by
 unfold dN AD;rw [hz];refine aDk ho ?_ hk;simp [hl]
section
variable{M d:Nat}{x:VE}{S:Hp}{K:KV}{n h w l m:Nat}{O:Tag}{g:Ms}
theorem aPp(hx:DP M (d+2) x)(r:GA S n h w l m O g){i:Nat}{f:V}(hf:(Hf n h w l m)[i]? =some f)(hK:∀b,(LZ g)[i]? =some b->K (.bool b) S):fK x f [] S K:=by
 match i,hf with
 | 0,hf=>injection hf with hf;subst hf;exact aNy hx r hK
 | 1,hf=>injection hf with hf;subst hf;exact aNz hx r hK
 | 2,hf=>injection hf with hf;subst hf;exact aNA hx r hK
 | 3,hf=>injection hf with hf;subst hf;exact aNB hx r hK
 | 4,hf=>injection hf with hf;subst hf;exact aNC hx r hK
 | 5,hf=>injection hf with hf;subst hf;exact aND hx r hK
 | 6,hf=>injection hf with hf;subst hf;exact aNE hx r hK
 | 7,hf=>injection hf with hf;subst hf;exact aK3 hx r hK
 | 8,hf=>injection hf with hf;subst hf;exact aK4 hx r hK
 | 9,hf=>injection hf with hf;subst hf;exact aK5 hx r hK
 | 10,hf=>injection hf with hf;subst hf;exact aK6 hx r hK
 | 11,hf=>injection hf with hf;subst hf;exact aK7 hx r hK
 | i+12,hf=>exact absurd (dS.1 hf).1 (by rw [show(Hf n h w l m).length=12 from rfl];omega)
theorem aPq(hx:DP M (d+3) x)(r:GA S n h w l m O g){i:Nat}{f:V}(hf:(Hf n h w l m)[i]? =some f)(hK:∀b,(LZ g)[i]? =some b->K (.bool (!b)) S):fK x (.func qL [] []) [f] S K:=by
 show x.call qL [f] S K;refine hx.call rfl λy hy=>?_;rw [Vu];unfold ZX;refine aPp (d:=d) hy r hf λb hb=>?_;rw [gX];exact aF (hK b hb)
theorem aNF(hM:100<M)(hx:DP M (d+4) x)(r:GA S n h w l m O g){j:Nat}(rj:S j=some (.row (Hf n h w l m) 24))(hT:Al g=true->K (.int .i64 (.negSucc 0)) S)(hF:Al g=false->∀i:Nat,K (ni i) S):x.call dO [.own j 0 12 12,.func qL [] []] S K:=by
 refine hx.call rfl λy hy=>?_;rw [rZ];unfold kX;show bR y y.most (.own j 0 12 12) (.func qL [] []) (ni 12) (ni 0) S K;rw [hy.most];have hlen:(LZ g).length=12:=rfl
 have go:∀(q i k:Nat),i+q=12->q<k->((LZ g).drop i).all id=Al g->bR y k (.own j 0 12 12) (.func qL [] []) (ni 12) (ni i) S K:=by
  intro q;induction q with
  | zero=>
   intro i k hi hk hE;obtain⟨k,rfl⟩:=KJ hk;rw [iY];unfold eS;refine aH ?_;rw [dW,BC (by omega),cF];rw [OY (by omega)]at hE;exact aF (hT hE.symm)
  | succ q ih=>
   intro i k hi hk hE;obtain⟨k,rfl⟩:=KJ hk;rw [iY];unfold eS;refine aH ?_;have lN:i<12:=by omega
   have aNG:i<(Hf n h w l m).length:=lN;rw [dW,Gg lN,eY];refine⟨lN,?_⟩;dsimp only;have ef:(Hf n h w l m)[i]? =some (Hf n h w l m)[i]:=aP aNG;have ef2:(Hf n h w l m)[0+i*1]? =some (Hf n h w l m)[i]:=by rw [gB,lS];exact ef
   rw [fD (o:=0+i*1) rj ef2];refine aPq (d:=d) hy r ef λb hb=>?_;have aPr:i<(LZ g).length:=lN;rw [aP aPr]at hb;injection hb with hb;rw [zG aPr,PD,hb]at hE;cases b with
   | true=>
    rw [eH,cF,fP (by omega)];exact ih (i+1) k (by omega) (by omega) hE
   | false=>
    rw [iH,eY];exact aF (hF hE.symm i)
 exact go 12 0 M rfl (by omega) rfl
theorem aNH(hM:100<M)(hx:DP M (d+5) x)(r:GA S n h w l m O g){j:Nat}(rj:S j=some (.row (Hf n h w l m) 24))(hK:K (.bool (!Al g)) S):x.call fL [.own j 0 12 12,.func qL [] []] S K:=by
 refine hx.call rfl λy hy=>?_;rw [qY];unfold jW;refine aNF (d:=d) hM hy r rj (λe=>?_) (λe i=>?_)
 ·rw [kG]
  rw [e]at hK;exact aF hK
 ·show aD PP .geq 3 (ni i) (ni 0) _
  rw [Wp,aU (gF i)];rw [e]at hK;exact aF hK
theorem Ws{z0:Value}{u v:V}{t:TypeId}{k:V->Hp->Prop}(hz:ED [z0]=some [u])(hv:pN v=true)(hk:∀i,S i=none->k (.ptr i 0) (aM S i (.row [v] t))):eI [z0] t S λp S=>mE 1 p v S (k p):=by
 refine dQ hz λi hi=>?_;rw [RX aB (show 0< [u].length from Nat.zero_lt_one) hv,cW];exact hk i hi
theorem aNI(hM:100<M)(hx:DP M (d+6) x)(hk:g.kind<256)(hK:K (.bool (Al g)) S):x.call SS [.agg (nW O g)] S K:=by
 refine hx.call rfl λy hy=>?_;rw [aFV];unfold Qs gG;refine fR rfl λm hm=>?_;have eU:cP S (aM S m (.row (nW O g) 37)):= .aN hm;have rm:aM S m (.row (nW O g) 37) m=some (.row (nW O g) 37):=aB;generalize aM S m (.row (nW O g) 37)=S1 at eU rm;rw [aG,fD (o:=0) (v:=n8 g.kind) rm rfl];refine aK2 (n:=d+4) hy hk ?_;have st:∀{S S':Hp} {i:Nat} {v:V} {t:TypeId},S i=none->cP S (aM S i (.row [v] t)):=λh=> .aN h;refine Ws rfl rfl λn hn=>?_;have lA:=st (S':=S1) (v:=ni (vN g.kind)) (t:=3) hn;have rn:aM S1 n (.row [ni (vN g.kind)] 3) n=some (.row [ni (vN g.kind)] 3):=aB;have rm:=lA _ _ rm;have lA:=eU.trans lA;generalize aM S1 n (.row [ni (vN g.kind)] 3)=S2 at lA rn rm;refine Ws rfl rfl λh hh=>?_;have GG:=st (S':=S2) (v:= .func mU [] [.ptr n 0]) (t:=109) hh;have rh:aM S2 h (.row [.func mU [] [.ptr n 0]] 109) h=some (.row [.func mU [] [.ptr n 0]] 109):=aB;have rm:=GG _ _ rm;have rn:=GG _ _ rn;have GG:=lA.trans GG;generalize aM S2 h (.row [.func mU [] [.ptr n 0]] 109)=S3 at GG rh rn rm;refine Ws rfl rfl λw hw=>?_;have Gf:=st (S':=S3) (v:= .func lP [] []) (t:=110) hw;have rw_:aM S3 w (.row [.func lP [] []] 110) w=some (.row [.func lP [] []] 110):=aB;have rm:=Gf _ _ rm;have rn:=Gf _ _ rn;have rh:=Gf _ _ rh;have Gf:=GG.trans Gf;generalize aM S3 w (.row [.func lP [] []] 110)=S4 at Gf rw_ rh rn rm;refine Ws (v:=ni 0) rfl rfl λl hl=>?_;have hl0:S l=none:=Gf.none hl;have keep:∀{i:Nat} {o:Ob} {v:V},S4 i=some o->aM S4 l (.row [v] 3) i=some o:=λ{i o v} e=>by rw [aC (λc=>by rw [c,hl]at e;cases e)];exact e
 have leL:∀{v:V},cP S (aM S4 l (.row [v] 3)):=λ{v} i o e=>keep (Gf _ _ e);rw [fD (o:=0) (keep rh) rfl];show y.call mU [ni 1,.ptr n 0] _ _;refine aLV (n:=d+4) hy (keep rn) ?_
 have fin:∀S5,cP S S5->GA S5 n h w l m O g->vW y (.ptr m 0) (.ptr n 0) (.ptr h 0) (.ptr w 0) (.ptr l 0) S5 K:=by
  intro S5 le5 r;rw [ZR _ (by rw [hy.most];omega)];unfold JQ;refine aH ?_;refine aBf (new:=Hf n h w l m) rfl rfl rfl λj hj=>?_;have le6:cP S5 (aM S5 j (.row (Hf n h w l m) 24)):= .aN hj;refine aNH (d:=d) hM hy (r.hle le6) aB ?_;rw [gX,Bool.not_not];exact cL (le5.trans le6) hK
 cases hb:FZ g.kind 1 with
 | true=>
  rw [eY];rw [RX aB (show 0< [ni 0].length from Nat.zero_lt_one) rfl,cW];exact fin _ leL ⟨keep rn,keep rh,keep rw_,by rw [hb];exact aB,keep rm⟩
 | false=>
  rw [cF];exact fin _ leL ⟨keep rn,keep rh,keep rw_,by rw [hb];exact aB,keep rm⟩
end
def UG(x:VE):HK:=λS K=>
 eI aC6 31 S λv0 S=>
 fX aC6 [(0,1,(.int .u64 (.ofNat 23))),(1,1,(.int .u64 (.ofNat 11))),(2,1,(.int .u64 (.ofNat 4))),(3,1,(.int .u64 (.ofNat 9))),(4,1,(.int .i64 (.ofNat 5))),(5,1,(.int .i64 (.ofNat 4))),(6,1,(.int .i64 (.ofNat 1))),(7,1,(.int .i64 (.ofNat 1))),(8,1,(.int .i64 (.ofNat 1))),(9,1,(.int .i64 (.ofNat 1))),(10,1,(.int .i64 (.ofNat 1))),(11,1,(.int .i64 (.ofNat 1)))] λv1=>
 mE 12 v0 v1 S λS=>
 cU 12 v0 S λv2 _=>
 aQ v2 S K
theorem Ot(x:VE):nV PP fT xA x []=UG x:=by kernel_rfl
def Fm(x:VE)(a0 a1:V):HK:=λS K=>
 pO 31 a0 S λv0 S=>
 cU 12 v0 S λv1 S=>
 x.call Fl [v1] S λv2 S=>
 JC .not v2 λv3=>
 wF x v3 a1 S λv4 S=>
 jK x v3 (aD PP .lss 3 v4 (.int .i64 (.ofNat 0))) S λv6 S=>
 gQ x v3 (.bool true) v6 λv7=>
 wF x v7 a1 S λv8 S=>
 zE x v7 4 v0 S λv12 S=>
 jK x v7 (aD PP .gtr 3 v8 v12) S λmL S=>
 gQ x v7 (.bool true) mL λuN=>
 iQ uN (aQ (.tuple [.lU,(.int .i64 (.ofNat 1))]) S K) (cU 12 v0 S λuJ S=>fX aC7 [(0,12,uJ),(12,1,a1),(13,1,(.int .i64 (.ofNat 1)))] λv17=>pO 82 v17 S λBA S=>aQ (.tuple [BA,(.int .i64 (.ofNat 0))]) S K)
theorem aAW(x:VE)(a0 a1:V):nV PP fT DE x [a0,a1]=Fm x a0 a1:=by kernel_rfl
def HO(x:VE)(a0 a1:V):HK:=λS K=>
 pO 37 a1 S λv0 S=>
 aD PP .eql 25 a0 .lU λv1=>
 uM x v1 (cU 11 v0 S) S λv3 S=>
 uM x v1 (x.call SS [v3] S) S λv5 S=>
 jK x v1 (JC .not v5) S λv7 S=>
 gQ x v1 (.bool true) v7 λv8=>
 jK x v8 (bF 0 v0) S λv10 S=>
 uM x v8 (bJ v10 S) S λv12 S=>
 jK x v8 (aD PP .lss 5 v12 (.int .u8 (.ofNat 2))) S λmL S=>
 gQ x v8 (.bool true) mL λuN=>
 jK x uN (bF 0 v0) S λv17 S=>
 uM x uN (bJ v17 S) S λyT S=>
 jK x uN (aD PP .gtr 5 yT (.int .u8 (.ofNat 5))) S λv21 S=>
 gQ x uN (.bool true) v21 λv22=>
 jK x v22 (bF 3 v0) S λv24 S=>
 uM x v22 (bJ v24 S) S λv26 S=>
 wF x v22 a0 S λKQ S=>
 jK x v22 (jI PP KQ) S λJP S=>
 jK x v22 (bF 13 JP) S λv31 S=>
 uM x v22 (bJ v31 S) S λv33 S=>
 jK x v22 (aD PP .lss 3 v26 v33) S λv35 S=>
 gQ x v22 (.bool true) v35 λXH=>
 wF x XH a0 S λv37 S=>
 jK x XH (jI PP v37) S λv39 S=>
 zE x XH 17 v39 S λIh S=>
 wF x XH (.func qI [] [v0]) S λv44 S=>
 uM x XH (x.call gK [Ih,v44] S) S λv46 S=>
 gCf x v22 v33 v31 S (gCf x v22 v26 v24 S (gCf x uN yT v17 S (gCf x v8 v12 v10 S (gQ x XH (.bool true) v46 λv51=>iQ v51 (aQ (.bool false) S K) (gM 17 a0 λv53=>bJ v53 S λv54 S=>cU 11 v0 S λv55 S=>cU 11 v0 S λv56 _=>aT v56 v55 (bJ v53 S λv57 _=>aT v57 v54 ((dN 37 1 nS [(0,11,v55)] S λv58 S=>True)/\(dN 37 1 nS [(0,11,v55)] S λv59 S=>qG 37 11 112 v54 v59 S λv60 S=>gM 17 a0 λv62=>mE 1 v62 v60 S λS=>aQ (.bool true) S K))))))))
theorem WL(x:VE)(a0 a1:V):nV PP fT mJ x [a0,a1]=HO x a0 a1:=by kernel_rfl
def DG(x:VE)(a0 a1:V):HK:=λS K=>
 pO 37 a0 S λv0 S=>
 cU 11 v0 S λv1 S=>
 cU 11 a1 S λv2 S=>
 x.call NG [v1,v2] S λv3 S=>
 aQ v3 S K
theorem RI(x:VE)(a0 a1:V):nV PP fT qI x [a0,a1]=DG x a0 a1:=by kernel_rfl
def ZQ(x:VE)(a0 a1:V):HK:=λS K=>
 pO 37 a0 S λv0 S=>
 pO 37 a1 S λv1 S=>
 gG 1 v0 S λv3 S=>
 gG 1 v1 S λv5 S=>
 aD PP .eql 3 v3 v5 λv6=>
 Xj x v6 3 v0 v1 .eql 3 S λv17 S=>
 Xj x v17 4 v0 v1 .eql 3 S λv28 S=>
 Xj x v28 0 v0 v1 .eql 5 S λv39 S=>
 aQ v39 S K
theorem Vl(x:VE)(a0 a1:V):nV PP fT NG x [a0,a1]=ZQ x a0 a1:=by kernel_rfl
def LR(x:VE)(a0 a1 a2 a3:V):HK:=λS K=>
 x.call aJ [a0,a1,a2,a3,(.func sS [] [])] S λv0 S=>
 aQ v0 S K
theorem Dh(x:VE)(a0 a1 a2 a3:V):nV PP fT vS x [a0,a1,a2,a3]=LR x a0 a1 a2 a3:=by kernel_rfl
def HQ(x:VE)(a0:V):HK:=λS K=>
 pO 25 a0 S λv0 S=>
 bJ v0 S λv1 S=>
 aD PP .eql 25 v1 .lU λv2=>
 uM x v2 (bJ v0 S) S λv4 S=>
 jK x v2 (jI PP v4) S λv6 S=>
 XG x v2 14 v6 .eql 9 (.str []) S λpI S=>
 iQ pI (aQ (.tuple [(.str []),(.bool false)]) S K) (bJ v0 S λmL S=>gN 14 mL S λv17 S=>bJ v0 S λBA S=>bJ v0 S λyT S=>gM 0 yT λv21=>cU 12 v21 S λv22 S=>bJ v0 S λv23 S=>gM 12 v23 λv25=>bJ v25 S λv26 S=>bJ v0 S λKQ S=>gM 13 KQ λJP=>bJ JP S λv30 S=>aD PP .add 3 v30 (.int .i64 (.ofNat 1)) λv31=>bJ v0 S λv32 S=>gN 17 v32 S λv35 S=>x.call dY [v35] S λXH S=>bJ v0 S λv37 _=>aT v37 v32 (bJ JP S λXI _=>aT XI v30 (bJ v0 S λv39 _=>aT v39 KQ (bJ v25 S λv40 _=>aT v40 v26 (bJ v0 S λv41 _=>aT v41 v23 (cU 12 v21 S λFo _=>aT Fo v22 (bJ v0 S λIh _=>aT Ih yT (bJ v0 S λv44 _=>aT v44 BA (x.call bV [XH,(.func qJ [] [v0])] S λv45 S=>bJ v0 S λv46 _=>aT v46 v32 (bJ JP S λFp _=>aT Fp v30 (bJ v0 S λNr _=>aT Nr KQ (bJ v25 S λv49 _=>aT v49 v26 (bJ v0 S λv50 _=>aT v50 v23 (cU 12 v21 S λv51 _=>aT v51 v22 (bJ v0 S λVm _=>aT Vm yT (bJ v0 S λv53 _=>aT v53 BA (fX aC7 [(0,12,v22),(12,1,v26),(13,1,v31),(17,1,v45)] λv54=>jI PP BA λv55=>mE 18 v55 v54 S λS=>aQ (.tuple [v17,(.bool true)]) S K)))))))))))))))))
theorem WM(x:VE)(a0:V):nV PP fT sQ x [a0]=HQ x a0:=by kernel_rfl
def DH(x:VE)(a0 a1:V):HK:=λS K=>
 pO 37 a0 S λv0 S=>
 gG 3 v0 S λv2 S=>
 bJ a1 S λv3 S=>
 gN 13 v3 S λv6 S=>
 aD PP .leq 3 v2 v6 λv7=>
 aQ v7 S K
theorem RJ(x:VE)(a0 a1:V):nV PP fT qJ x [a0,a1]=DH x a0 a1:=by kernel_rfl
def lI(x:VE)(a0 a1:V):HK:=λS K=>
 x.call cA [a0,a1] S λv0 S=>
 aD PP .geq 3 v0 (.int .i64 (.ofNat 0)) λv1=>
 aQ v1 S K
theorem sV(x:VE)(a0 a1:V):nV PP fT gK x [a0,a1]=lI x a0 a1:=by kernel_rfl
def cE(x:VE)(m:Nat)(t0 t1 t7 t8:V):HK:=mT PP fT cA x [.r,.l,.r,.d] m [] [t0,t1,t7,t8]
def iJ(x:VE)(a0 a1:V):HK:=λS K=>
 dC a0 λv0=>
 cE x x.most a0 a1 v0 (.int .i64 (.ofNat 0)) S K
theorem mM(x:VE)(a0 a1:V):nV PP fT cA x [a0,a1]=iJ x a0 a1:=by kernel_rfl
def cD(x:VE)(m0:Nat)(t0 t1 t7 t8:V):HK:=λS K=>
 fG S λS=>
 aD PP .lss 3 t8 t7 λv0=>
 iQ v0 (jM 11 t0 t8 λv1=>cU 11 v1 S λv2 S=>fK x t1 [v2] S λv3 S=>iQ v3 (aQ t8 S K) (aD PP .add 3 t8 (.int .i64 (.ofNat 1)) λv4=>cE x m0 t0 t1 t7 v4 S K)) (aQ (.int .i64 (.negSucc 0)) S K)
theorem dD(x:VE)(m0:Nat)(t0 t1 t7 t8:V):cE x (m0+1) t0 t1 t7 t8=cD x m0 t0 t1 t7 t8:=by kernel_rfl
def cQ(x:VE)(m:Nat)(t0 t1 t5 t6:V):HK:=mT PP fT bV x [.r,.r,.r,.l,.r,.d] m [] [t0,t1,t5,t6]
def eO(x:VE)(m0:Nat)(t0 t1 t5 t6:V):HK:=DC PP fT bV x [.r,.r,.r,.l,.r,.d,.d,.r,.r] [m0] [t0,t1,t5,t6]
def mD(x:VE)(a0 a1:V):HK:=λS K=>
 x.call cA [a0,a1] S λv0 S=>
 aD PP .eql 3 v0 (.int .i64 (.negSucc 0)) λv1=>
 iQ v1 (aQ a0 S K) (aD PP .add 3 v0 (.int .i64 (.ofNat 1)) λv2=>cQ x x.most a0 a1 v0 v2 S K)
theorem tS(x:VE)(a0 a1:V):nV PP fT bV x [a0,a1]=mD x a0 a1:=by kernel_rfl
def fC(x:VE)(m0:Nat)(t0 t1 t5 t6:V):HK:=λS K=>
 fG S λS=>
 dC t0 λv0=>
 aD PP .lss 3 t6 v0 λv1=>
 iQ v1 (jM 11 t0 t6 λv2=>cU 11 v2 S λv3 S=>eI nS 37 S λv4 S=>mE 11 v4 v3 S λS=>cU 11 v4 S λv5 S=>fK x t1 [v5] S λv6 S=>JC .not v6 λv7=>iQ v7 (cU 11 v4 S λv8 S=>jM 11 t0 t5 λv9=>mE 11 v9 v8 S λS=>aD PP .add 3 t5 (.int .i64 (.ofNat 1)) λv10=>eO x m0 t0 t1 v10 t6 S K) (eO x m0 t0 t1 t5 t6 S K)) (Cy 37 11 t0 (some t5) none none S λv11=>RB nS v11 S λS=>Cy 37 11 t0 none (some t5) none S λv12=>aQ v12 S K)
theorem jJ(x:VE)(m0:Nat)(t0 t1 t5 t6:V):cQ x (m0+1) t0 t1 t5 t6=fC x m0 t0 t1 t5 t6:=by kernel_rfl
def eJ(x:VE)(m0:Nat)(t0 t1 t5 t6:V):HK:=λS K=>
 fG S λS=>
 aD PP .add 3 t6 (.int .i64 (.ofNat 1)) λv0=>
 cQ x m0 t0 t1 t5 v0 S K
theorem iO(x:VE)(hm:x.most≠0)(m0:Nat)(t0 t1 t5 t6:V)(S:Hp)(K:KV):eO x m0 t0 t1 t5 t6 S K=eJ x m0 t0 t1 t5 t6 S K:=(rM (hm:=hm) ..).trans (by kernel_rfl)
def oO(x:VE)(a0:V):HK:=λS K=>
 aD PP .eql 23 a0 .nil λv0=>
 iQ v0 (aQ .nil S K) (dN 37 0 nS [] S λv1 S=>qG 37 11 112 v1 a0 S λv2 S=>aQ v2 S K)
theorem xB(x:VE)(a0:V):nV PP fT dY x [a0]=oO x a0:=by kernel_rfl
def Gh(a b:Ms):Bool:=((decide (a.fr=b.fr)&&decide (a.ht=b.ht))&&decide (a.rd=b.rd))&&decide (a.kind=b.kind)
def Nd(m:Ms):List Dt:=[.int .u8 (.ofNat m.kind),.int .i64 m.fr,.int .i64 m.to,.int .i64 m.ht,.int .i64 m.rd,.int .i64 m.vl,.int .i64 m.ep,.int .i64 m.dl,.int .i64 m.id,.str m.text,.list (m.nums.map λn=>Dt.int .u64 (.ofNat n)) m.nums.length]
section
variable{M d:Nat}{x:VE}{S:Hp}{K:KV}{O O':Tag}{g g':Ms}
theorem aNJ(hx:DP M (d+1) x)(hK:K (.bool (Gh g g')) S):x.call NG [.agg (nW O g),.agg (nW O' g')] S K:=by
 refine hx.call rfl λy hy=>?_;rw [Vl];unfold ZQ Xj rW ST gQ gG;refine fR rfl λa ha=>?_;have eU:cP S (aM S a (.row (nW O g) 37)):= .aN ha;have ra:aM S a (.row (nW O g) 37) a=some (.row (nW O g) 37):=aB;generalize aM S a (.row (nW O g) 37)=S1 at eU ra;refine fR rfl λb hb=>?_;have lA:cP S1 (aM S1 b (.row (nW O' g') 37)):= .aN hb;have rb:aM S1 b (.row (nW O' g') 37) b=some (.row (nW O' g') 37):=aB;have ra:=lA _ _ ra;have le:=eU.trans lA;generalize aM S1 b (.row (nW O' g') 37)=S2 at le ra rb;have a0:LD a 0 S2 (n8 g.kind):=fD ra rfl;have a1:LD a 1 S2 (nz g.fr):=fD ra rfl;have a3:LD a 3 S2 (nz g.ht):=fD ra rfl;have a4:LD a 4 S2 (nz g.rd):=fD ra rfl;have b0:LD b 0 S2 (n8 g'.kind):=fD rb rfl;have b1:LD b 1 S2 (nz g'.fr):=fD rb rfl;have b3:LD b 3 S2 (nz g'.ht):=fD rb rfl;have b4:LD b 4 S2 (nz g'.rd):=fD rb rfl;have e1:LB .eql 3 (nz g.fr) (nz g'.fr) (.bool (decide (g.fr=g'.fr))):=λ{k}=>by rw [cV]
 have e3:LB .eql 3 (nz g.ht) (nz g'.ht) (.bool (decide (g.ht=g'.ht))):=λ{k}=>by rw [cV]
 have e4:LB .eql 3 (nz g.rd) (nz g'.rd) (.bool (decide (g.rd=g'.rd))):=λ{k}=>by rw [cV]
 have e0:LB .eql 5 (n8 g.kind) (n8 g'.kind) (.bool (decide (g.kind=g'.kind))):=λ{k}=>by rw [cV];congr 2;simp;omega
 unfold Gh at hK;generalize decide (g.fr=g'.fr)=p1 at e1 hK;generalize decide (g.ht=g'.ht)=p3 at e3 hK;generalize decide (g.rd=g'.rd)=p4 at e4 hK;generalize decide (g.kind=g'.kind)=p0 at e0 hK;cases p1<;>cases p3<;>cases p4<;>cases p0<;>(repeat (first | rw [aL] | rw [aI] | rw [yG] | rw [EN] | rw [oZ] | rw [kB] | rw [fA] | rw [aG] | rw [a0] | rw [a1] | rw [a3] | rw [a4] | rw [b0] | rw [b1] | rw [b3] | rw [b4] | rw [e0] | rw [e1] | rw [e3] | rw [e4] | dsimp only))<;>exact cL le hK
theorem aK9(hx:DP M (d+2) x){m:Nat}(rm:S m=some (.row (nW O' g') 37))(hK:K (.bool (Gh g g')) S):x.call qI [.agg (nW O g),.ptr m 0] S K:=by
 refine hx.call rfl λy hy=>?_;rw [RI];unfold DG;refine fR rfl λa ha=>?_;have eU:cP S (aM S a (.row (nW O g) 37)):= .aN ha;have ra:aM S a (.row (nW O g) 37) a=some (.row (nW O g) 37):=aB;have rm1:=eU _ _ rm;generalize aM S a (.row (nW O g) 37)=S1 at eU ra rm1;refine eX (n:=11) (i:=a) ra rfl ?_;refine eX (n:=11) (i:=m) rm1 rfl ?_;refine aNJ (d:=d) hy ?_;exact cL eU hK
end
theorem aBg{S0 S:Hp}(t:Tag)(d:Dt):Au S0 S (T t d) d:=by cases d<;>constructor
theorem aLW(t:Tag)(d:Dt):pN (T t d)=true:=by cases d<;>rfl
theorem vc1{v:V}{p:List V->Prop}(h:pN v=true):yD v p=p [v]:=by cases v<;>first | rfl | cases h
def tM(v:V)(j:Nat):Prop:=match v with
 | .acc i _=>i=j
 | .oR i _ _ _ _=>i=j
 | .own i _ _ _=>i=j
 | _=>False
def GB(vs:List V)(ds:List Dt):Prop:=∀(j:Nat) (d:Dt),ds[j]? =some d->∃t,vs[j]? =some (T t d)
inductive SL(el:TypeId)(k:Nat)(S0 S:Hp):V->List Dt->Nat->Prop
 | nil:SL el k S0 S .nil [] 0
 | acc {i n:Nat} {vs:List V} {ds:List Dt} (h0:S0 i=none) (h:S i=some (.iX vs el n)) (hl:vs.length=n*k) (hd:ds.length=n*k) (hv:GB vs ds):SL el k S0 S (.acc i n) ds n
 | oR {i m n:Nat} {vs:List V} {ds:List Dt} (h0:S0 i=none) (h:S i=some (.iX vs el m)) (hl:vs.length=m*k) (hn:n<=m) (hd:ds.length=n*k) (hv:GB vs ds):SL el k S0 S (.oR i m 0 n m) ds n
 | own {i:Nat} (h0:S0 i=none) (h:S i=some (.row [] el)):SL el k S0 S (.own i 0 0 0) [] 0
section
variable{el:TypeId}{k:Nat}{S0 S S':Hp}{v:V}{ds:List Dt}{n:Nat}
theorem SL.len(h:SL el k S0 S v ds n){K:V->Prop}:dC v K=K (ni n):=by cases h<;>rfl
theorem SL.one(h:SL el k S0 S v ds n):pN v=true:=by cases h<;>rfl
theorem SL.same(h:SL el k S0 S v ds n):VY v=true:=by cases h<;>rfl
theorem SL.up(h:SL el k S0 S v ds n)(hle:cP S S'):SL el k S0 S' v ds n:=by
 cases h with
 | nil=>exact .nil
 | acc h0 h hl hd hv=>exact .acc h0 (hle _ _ h) hl hd hv
 | oR h0 h hl hn hd hv=>exact .oR h0 (hle _ _ h) hl hn hd hv
 | own h0 h=>exact .own h0 (hle _ _ h)
theorem SL.base{S1:Hp}(h:SL el k S1 S v ds n)(hle:cP S0 S1):SL el k S0 S v ds n:=by
 cases h with
 | nil=>exact .nil
 | acc h0 h hl hd hv=>exact .acc (hle.none h0) h hl hd hv
 | oR h0 h hl hn hd hv=>exact .oR (hle.none h0) h hl hn hd hv
 | own h0 h=>exact .own (hle.none h0) h
theorem SL.frz(h:SL el k S0 S v ds n):Au S0 S v (.list ds n):=by
 cases h with
 | nil=>exact .nil
 | acc h0 h hl hd hv=>
  refine .acc h h0 (hl.trans hd.symm) λj v d x1 x2=>?_;obtain⟨t,q⟩:=hv j d x2;rw [x1]at q;injection q with q;subst q;exact aBg t d
 | @oR i m _ vs _ h0 h hl hn hd hv=>
  have:=lB k hn;refine .oR h h0 hn (by omega) λj v d x1 x2=>?_;obtain⟨t,q⟩:=hv j d x2;rw [gB,q]at x1;injection x1 with q;subst q;exact aBg t d
 | own h0 h=>exact .own h h0 (bI _) (bI _) λj v d x1 x2=>by cases x2
theorem SL.but(h:SL el k S0 S v ds n)(hs:∀j o,tM v j->S j=some o->S' j=some o):SL el k S0 S' v ds n:=by
 cases h with
 | nil=>exact .nil
 | acc h0 h hl hd hv=>exact .acc h0 (hs _ _ rfl h) hl hd hv
 | oR h0 h hl hn hd hv=>exact .oR h0 (hs _ _ rfl h) hl hn hd hv
 | own h0 h=>exact .own h0 (hs _ _ rfl h)
theorem SL.set(h:SL el k S0 S v ds n){i:Nat}{o:Ob}(hi:¬tM v i):SL el k S0 (aM S i o) v ds n:=h.but λj p h1 h2=>by
 rw [aC (λc:j=i=>hi (by subst c;exact h1))];exact h2
theorem SL.aPs(h:SL el k S0 S v ds n){b:Nat}(hb:S b=none):¬tM v b:=λe=>by
 cases h with
 | nil=>cases e
 | acc h0 h hl hd hv=>cases e;rw [hb]at h;cases h
 | oR h0 h hl hn hd hv=>cases e;rw [hb]at h;cases h
 | own h0 h=>cases e;rw [hb]at h;cases h
theorem SL.nat(h:SL el k S0 S v ds n){b:Nat}{c:V}{cs:List V}{t:TypeId}(hb:S b=some (.row (c::cs) t)):¬tM v b:=λe=>by
 cases h with
 | nil=>cases e
 | acc h0 h hl hd hv=>cases e;rw [h]at hb;cases hb
 | oR h0 h hl hn hd hv=>cases e;rw [h]at hb;cases hb
 | own h0 h=>cases e;rw [h]at hb;cases hb
theorem SL.at'(h:SL el k S0 S v ds n){b m:Nat}{cs:List V}{t:TypeId}(hb:S b=some (.row cs t))(hc:cs.length=m+1):¬tM v b:=by
 cases cs with
 | nil=>cases hc
 | cons c cs=>exact h.nat hb
theorem SL.at(h:SL el k S0 S v ds n){b:Nat}(e:tM v b):S0 b=none/\(S b=some (.row [] el)\/∃cs m,S b=some (.iX cs el m)):=by
 cases h with
 | nil=>cases e
 | acc h0 h hl hd hv=>cases e;exact⟨h0,.inr ⟨_,_,h⟩⟩
 | oR h0 h hl hn hd hv=>cases e;exact⟨h0,.inr ⟨_,_,h⟩⟩
 | own h0 h=>cases e;exact⟨h0,.inl h⟩
def wA(us:List V)(new:List Dt):Prop:=us.length=new.length/\∀(j:Nat) (d:Dt),new[j]? =some d->∃t,us[j]? =some (T t d)
theorem wA.one{us:List V}{new:List Dt}(h:wA us new):us.all pN=true:=by
 rw [dJ];intro u hu;obtain⟨j,hj,rfl⟩:=MG hu;have Ny:j<new.length:=by rw [<-h.1];exact hj
 obtain⟨t,q⟩:=h.2 j _ (aP Ny);rw [aP hj]at q;injection q with q;rw [q];exact aLW t _
theorem wA.nil:wA [] []:=⟨rfl,λj d e=>by cases e⟩
theorem wA.cons{us:List V}{new:List Dt}(t:Tag)(d:Dt)(h:wA us new):wA (T t d::us) (d::new):=⟨by simp [h.1],λj e q=>by match j with | 0=>injection q with q;subst q;exact⟨t,rfl⟩ | j+1=>exact h.2 j e q⟩
theorem wA.app{us ws:List V}{ds es:List Dt}(h:wA us ds)(g:wA ws es):wA (us++ws) (ds++es):=⟨by simp [h.1,g.1],λj e q=>by
 have hl:=h.1;rcases zJ j ds.length with hj | hj
 ·rw [fB hj]at q
  rw [fB (by omega)];exact h.2 j e q
 ·rw [iG hj]at q
  rw [iG (by omega),hl];exact g.2 _ e q⟩
theorem aLX(O:Tag):∀(ds:List Dt) (o:Nat),wA (Tl O o ds) ds:=by
 intro ds;induction ds with
 | nil=>intro o;exact .nil
 | cons d ds ih=>intro o;exact .cons _ d (ih _)
theorem GB.take{vs:List V}{ds:List Dt}(h:GB vs ds)(hl:ds.length<=vs.length):wA (vs.take ds.length) ds:=⟨by rw [jL];omega,λj d e=>by
 obtain⟨t,q⟩:=h j d e;exact⟨t,by rw [kR,if_pos (dS.1 e).1];exact q⟩⟩
theorem GB.app{vs us:List V}{ds new:List Dt}(h:GB vs ds)(hl:vs.length=ds.length)(hu:wA us new):GB (vs++us) (ds++new):=(wA.app ⟨hl,h⟩ hu).2
theorem GB.aE{vs us:List V}{ds new:List Dt}(h:GB vs ds)(hl:ds.length+us.length<=vs.length)(hu:wA us new):GB (aE ds.length us vs) (ds++new):=λj d e=>by
 rw [fW _ _ _ hl];have hul:=hu.1;rcases zJ j ds.length with hq | hq
 ·rw [fB hq]at e
  rw [if_neg (by omega)];exact h j d e
 ·rw [iG hq]at e
  have:=(dS.1 e).1;rw [if_pos (by omega)];exact hu.2 _ d e
theorem NU{o:Nat}{us vs:List V}(h:o+us.length<=vs.length):(aE o us vs).length=vs.length:=by unfold aE;simp;omega
theorem SL.src(h:SL el k S0 S v ds n){K:Nat->List V->Prop}(hk:∀us,wA us ds->K n us):TF k v S K:=by
 cases h with
 | nil=>exact hk _ .nil
 | acc h0 h hl hd hv=>
  unfold TF;simp only [h];exact⟨trivial,hl,hk _ ⟨hl.trans hd.symm,hv⟩⟩
 | @oR i m n vs ds h0 h hl hn hd hv=>
  have:=lB k hn;unfold TF;simp only [h];refine⟨trivial,?_⟩;rw [fH (by omega)];rw [DX,<-hd];exact hk _ (hv.take (by omega))
 | own h0 h=>
  unfold TF;simp only [h];rw [fH (by simp)];rw [KC];exact hk _ .nil
theorem SL.apps(h:SL el k S0 S v ds n)(hs:cP S0 S)(hl:n<=1000000){us:List V}{new:List Dt}{m:Nat}(hm:m<1000000)(hu:wA us new)(hul:new.length=(m+1)*k)(h1:m=0\/∀i q o c,v≠ .oR i q o n c){b:Nat}(hb:b<=200){x:V}(hx:∀{K:Nat->List V->Prop},K (m+1) us->TF k x S K){K:KV}
 (hk:∀u S',cP S0 S'->(∀j o,S j=some o->¬tM v j->S' j=some o)->(∀j,tM u j->tM v j\/S j=none)->SL el k S0 S' u (ds++new) (n+(m+1))->((∀i q o n c,v≠ .oR i q o n c)->∀i q o n c,u≠ .oR i q o n c)->K u S'):qG el k b v x S K:=by
 have aBh:us.length=(m+1)*k:=by rw [hu.1,hul]
 have hmb:(n+(m+1))*b<=140737488355328/\n+(m+1)<=140737488355328:=by
  have:(n+(m+1))*b<=2000000*200:=Nat.mul_le_mul (by omega) hb;omega
 unfold qG;refine hx ?_;refine⟨hu.one,?_⟩;cases h with
 | nil=>
  refine⟨by simpa using hmb,λi hi=>?_⟩;have Hl:cP S (aM S i (.iX us el (m+1))):= .aN hi;have:=hk (.acc i (m+1)) _ (hs.trans Hl) (λq o e _=>Hl _ _ e) (λq e=> .inr (by cases e;exact hi)) (by rw [PB,gB];exact .acc (hs.none hi) aB aBh hul hu.2) (λ_ _ _ _ _ _ e=>by cases e);exact this
 | @acc i _ vs _ h0 h Hi hd hv=>
  simp only [h];have el1:(vs++us).length=(n+(m+1))*k:=by rw [bH,Hi,aBh,<-mG]
  refine⟨trivial,trivial,Hi,hmb,?_⟩;have Hl:∀q o,q≠i->S q=some o->aM S i (.iX (vs++us) el (n+(m+1))) q=some o:=λq o hq e=>by rw [aC hq];exact e
  exact hk _ _ (λq o e=>Hl q o (λc=>by rw [c,h0]at e;cases e) (hs _ _ e)) (λq o e IF=>Hl q o (λc=>IF (show i=q from c.symm)) e) (λq e=> .inl (by cases e;exact rfl)) (.acc h0 aB el1 (by rw [bH,hd,hul,<-mG]) (hv.app (Hi.trans hd.symm) hu)) (λ_ _ _ _ _ _ e=>by cases e)
 | @oR i q _ vs _ h0 h Hi hn hd hv=>
  obtain rfl:m=0:=h1.resolve_right λc=>absurd rfl (c i q 0 q);simp only [h];refine⟨trivial,trivial,hmb,λhc=>?_,λhc=>?_⟩
  ·have e3:=lB k hc
   rw [mG]at e3;have e4:0+n*k=ds.length:=by omega
   refine⟨by omega,?_⟩;have Hl:∀p o,p≠i->S p=some o->aM S i (.iX (aE (0+n*k) us vs) el q) p=some o:=λp o hp e=>by rw [aC hp];exact e
   refine hk _ _ (λp o e=>Hl p o (λc=>by rw [c,h0]at e;cases e) (hs _ _ e)) (λp o e IF=>Hl p o (λc=>IF (show i=p from c.symm)) e) (λp e=> .inl (by cases e;exact rfl)) (.oR h0 aB ?_ hc ?_ ?_) (λc=>absurd rfl (c _ _ _ _ _))
   ·rw [NU (by omega)];exact Hi
   ·rw [bH,hd,hul,<-mG]
   ·rw [e4];exact hv.aE (by omega) hu
  ·have:n=q:=by omega
   subst this;have el1:(vs++us).length=(n+(0+1))*k:=by rw [bH,Hi,aBh,<-mG]
   refine⟨by trivial,by trivial,by trivial,Hi,?_⟩;have Hl:∀p o,p≠i->S p=some o->aM S i (.iX (vs++us) el (n+(0+1))) p=some o:=λp o hp e=>by rw [aC hp];exact e
   exact hk _ _ (λp o e=>Hl p o (λc=>by rw [c,h0]at e;cases e) (hs _ _ e)) (λp o e IF=>Hl p o (λc=>IF (show i=p from c.symm)) e) (λp e=> .inl (by cases e;exact rfl)) (.acc h0 aB el1 (by rw [bH,hd,hul,<-mG]) (hv.app (Hi.trans hd.symm) hu)) (λ_ _ _ _ _ _ e=>by cases e)
 | @own i h0 h=>
  simp only [h];refine⟨by simpa using hmb,by simp,λc=>absurd c (by omega),λ_ j hj=>?_⟩;have Hl:cP S (aM S j (.iX us el (0+(m+1)))):= .aN hj;have:=hk (.acc j (0+(m+1))) _ (hs.trans Hl) (λq o e _=>Hl _ _ e) (λq e=> .inr (by cases e;exact hj)) (by rw [PB];exact .acc (hs.none hj) aB (by rw [gB];exact aBh) (by rw [gB];exact hul) hu.2) (λ_ _ _ _ _ _ e=>by cases e);simpa using this
theorem SL.app(h:SL el k S0 S v ds n)(hs:cP S0 S)(hl:n<=1000000){zs:List Value}{zv us:List V}{new:List Dt}(hz:ED zs=some zv)(Ph:zv.length=k)(hu:wA us new)(hul:new.length=k){b:Nat}(hb:b<=200){K:KV}
 (hk:∀u S',cP S0 S'->(∀j o,S j=some o->¬tM v j->S' j=some o)->(∀j,tM u j->tM v j\/S j=none)->SL el k S0 S' u (ds++new) (n+1)->K u S'):dN el 1 zs [(0,k,.agg us)] S λv2 S=>qG el k b v v2 S K:=by
 have aBh:us.length=k:=by rw [hu.1,hul]
 refine sE hz Ph aBh hu.one λj hj=>?_;have TX:cP S (aM S j (.row us el)):= .aN hj;have nj:=h.aPs hj;refine(h.up TX).apps (m:=0) (new:=new) (hs.trans TX) hl (by omega) hu (by omega) (.inl rfl) hb (λ{K} hK=>LN (m:=1) aB (by rw [Nat.one_mul];omega) hK) λu S' e1 e2 e3 e4 _=>?_;exact hk u S' e1 (λq o e IF=>e2 q o (TX _ _ e) IF) (λq e=>(e3 q e).elim .inl λc=> .inr (TX.none c)) e4
theorem SL.ldn(h:SL el k S0 S v ds n){i:Nat}(hi:i<n):∃us,wA us ((ds.drop (i*k)).take k)/\∀{K:KV},(jM k v (ni i) λp=>cU k p S K)=K (.agg us) S:=by
 have hle:i*k+k<=n*k:=by
  have:=lB k hi
  rwa [Nat.succ_mul]at this
 have part:∀{vs:List V},n*k<=vs.length->ds.length=n*k->GB vs ds->wA ((vs.drop (i*k)).take k) ((ds.drop (i*k)).take k):=λ{vs} h1 h2 hv=>⟨by rw [jL,qT,jL,qT];omega,λj d e=>by
  rw [kR]at e;split at e
  ·rename_i hj
   rw [kS]at e;obtain⟨t,q⟩:=hv _ _ e;exact⟨t,by rw [kR,if_pos hj,kS];exact q⟩
  ·cases e⟩
 cases h with
 | nil=>omega
 | own=>omega
 | @acc b _ vs _ h0 h hl hd hv=>
  refine⟨_,part (by omega) hd hv,λ{K}=>?_⟩;have e1:(jM k (.acc b n) (ni i) λp=>cU k p S K)=(i<n/\cU k (.qX b n (i*k)) S K):=rfl;rw [e1]
  have e2:cU k (.qX b n (i*k)) S K=K (.agg ((vs.drop (i*k)).take k)) S:=by
   unfold cU;simp only [h];rw [fH (by omega)];simp
  rw [e2];exact propext ⟨λq=>q.2,λq=>⟨hi,q⟩⟩
 | @oR b m _ vs _ h0 h hl hn hd hv=>
  have:=lB k hn;refine⟨_,part (by omega) hd hv,λ{K}=>?_⟩;have e1:(jM k (.oR b m 0 n m) (ni i) λp=>cU k p S K)=(i<n/\cU k (.qX b m (0+i*k)) S K):=rfl;rw [e1,gB]
  have e2:cU k (.qX b m (i*k)) S K=K (.agg ((vs.drop (i*k)).take k)) S:=by
   unfold cU;simp only [h];rw [fH (by omega)];simp
  rw [e2];exact propext ⟨λq=>q.2,λq=>⟨hi,q⟩⟩
end
def pE(l:List Ms):List Dt:=l.flatMap Nd
theorem An(m:Ms):(Nd m).length=11:=rfl
theorem JV(l:List Ms):(pE l).length=l.length*11:=by
 induction l with
 | nil=>rfl
 | cons a l ih=>show(Nd a++pE l).length=_;rw [bH,ih,An,qS];omega
theorem Ao(l m:List Ms):pE (l++m)=pE l++pE m:=by unfold pE;rw [Rr]
theorem Nf{l:List Ms}:∀{i:Nat} {m:Ms},l[i]? =some m->((pE l).drop (i*11)).take 11=Nd m:=by
 induction l with
 | nil=>intro i m h;cases h
 | cons a l ih=>
  intro i m h;have e:pE (a::l)=Nd a++pE l:=rfl
  match i,h with
  | 0,h=>injection h with h;subst h;rw [e,KC,DX];exact Rt (An a)
  | i+1,h=>rw [e,show(i+1)*11=11+i*11 by omega,<-KB,Ja (An a)];exact ih h
theorem Dr{us:List V}{m:Ms}(h:wA us (Nd m)):∃t,us=nW t m:=by
 obtain⟨hl,h⟩:=h;have hl:us.length=11:=hl
 match us,hl with
 | [a0,a1,a2,a3,a4,a5,a6,a7,a8,a9,a10],_=>
  obtain⟨t0,e0⟩:=h 0 _ rfl;obtain⟨t1,e1⟩:=h 1 _ rfl;obtain⟨t2,e2⟩:=h 2 _ rfl;obtain⟨t3,e3⟩:=h 3 _ rfl;obtain⟨t4,e4⟩:=h 4 _ rfl;obtain⟨t5,e5⟩:=h 5 _ rfl;obtain⟨t6,e6⟩:=h 6 _ rfl;obtain⟨t7,e7⟩:=h 7 _ rfl;obtain⟨t8,e8⟩:=h 8 _ rfl;obtain⟨t9,e9⟩:=h 9 _ rfl;obtain⟨t10,e10⟩:=h 10 _ rfl;injection e0 with e0;injection e1 with e1;injection e2 with e2;injection e3 with e3;injection e4 with e4;injection e5 with e5;injection e6 with e6;injection e7 with e7;injection e8 with e8;injection e9 with e9;injection e10 with e10;subst e0 e1 e2 e3 e4 e5 e6 e7 e8 e9 e10;exact⟨t10,rfl⟩
section
variable{M d:Nat}{x:VE}{S:Hp}{K:KV}{S0:Hp}{v f:V}{l:List Ms}{p:Ms->Bool}
theorem aNK(hM:100000<M)(hx:DP M (d+1) x)(h:SL 37 11 S0 S v (pE l) l.length)(hl:l.length<100000)
 (hf:∀y,DP M d y->∀a∈l,∀t,∀K:KV,K (.bool (p a)) S->fK y f [.agg (nW t a)] S K) (hT:∀i,l.any p=true->K (ni i) S) (hF:l.any p=false->K (.int .i64 (.negSucc 0)) S):x.call cA [v,f] S K:=by
 refine hx.call rfl λy hy=>?_;rw [mM];unfold iJ;rw [h.len,hy.most]
 have go:∀(q i k:Nat),i+q=l.length->q<k->(l.drop i).any p=l.any p->cE y k v f (ni l.length) (ni i) S K:=by
  intro q;induction q with
  | zero=>
   intro i k hi hk hE;obtain⟨k,rfl⟩:=KJ hk;rw [dD];unfold cD;refine aH ?_;rw [dW,BC (by omega),cF];rw [OY (by omega)]at hE;exact aF (hF hE.symm)
  | succ q ih=>
   intro i k hi hk hE;obtain⟨k,rfl⟩:=KJ hk;rw [dD];unfold cD;refine aH ?_;have lN:i<l.length:=by omega
   obtain⟨us,TI,Ei⟩:=h.ldn lN;rw [Nf (aP lN)]at TI;obtain⟨t,rfl⟩:=Dr TI;rw [dW,Gg lN,eY,Ei];refine hf y hy _ (nO lN) t _ ?_;rw [zG lN,Rw]at hE;cases e:p l[i]with
   | true=>
    rw [e]at hE;rw [eY];exact aF (hT i hE.symm)
   | false=>
    rw [e]at hE;rw [cF,fP (by omega)];exact ih (i+1) k (by omega) (by omega) hE
 exact go l.length 0 M (by omega) (by omega) rfl
theorem aNL(hM:100000<M)(hx:DP M (d+2) x)(h:SL 37 11 S0 S v (pE l) l.length)(hl:l.length<100000)
 (hf:∀y,DP M d y->∀a∈l,∀t,∀K:KV,K (.bool (p a)) S->fK y f [.agg (nW t a)] S K) (hK:K (.bool (l.any p)) S):x.call gK [v,f] S K:=by
 refine hx.call rfl λy hy=>?_;rw [sV];unfold lI;refine aNK (d:=d) hM hy h hl hf (λi e=>?_) (λe=>?_)
 ·show aD PP .geq 3 (ni i) (ni 0) _
  rw [Wp,aU (gF i)];rw [e]at hK;exact aF hK
 ·rw [kG]
  rw [e]at hK;exact aF hK
end
def KP(ht:Int)(l:List Ms)(m:Ms):Bool:=Al m&& !(decide (m.kind<2))&& !(decide (5<m.kind))&& !(decide (m.ht<ht))&& !(l.any λa=>Gh a m)
section
variable{M d:Nat}{x:VE}{S:Hp}{K:KV}{S0:Hp}{l:List Ms}{O:Tag}{m:Ms}
theorem aPt:RA PP 25=some .ptr:=by kernel_rfl
theorem Rc{b:Nat}{k:V->Prop}:aD PP .eql 25 (.ptr b 0) .lU k=k (.bool false):=propext ⟨λh=>h.2.2.2.2,λh=>⟨rfl,aPt,.inr rfl,λe=>absurd e (by decide),h⟩⟩
theorem aLa{p:Prop}:aT (.agg (nW O m)) (.agg (nW O m)) p=p:=dX rfl
theorem aNM(hM:100000<M)(hx:DP M (d+7) x){b:Nat}{cs:List V}{ht:Int}{kv:V}(rb:S b=some (.row cs 82))(xV:cs.length=18)(h13:cs[13]? =some (nz ht))(h17:cs[17]? =some kv)(hb0:S0 b=none)(hs:cP S0 S)(hk:SL 37 11 S0 S kv (pE l) l.length)(hl:l.length<90000)(pQ:m.kind<256)
 (hF:KP ht l m=false->K (.bool false) S)
 (hT:KP ht l m=true->∀u S',cP S0 S'->(∀j o,j≠b->S j=some o->¬tM kv j->S' j=some o)->S' b=some (.row (cs.set 17 u) 82)->(∀j,tM u j->tM kv j\/S j=none)->SL 37 11 S0 S' u (pE (l++[m])) (l.length+1)->K (.bool true) S'):
 x.call mJ [.ptr b 0,.agg (nW O m)] S K:=by
 refine hx.call rfl λy hy=>?_;rw [WL];unfold HO zE jK uM wF gCf gQ gM;refine fR rfl λa ha=>?_;have eU:cP S (aM S a (.row (nW O m) 37)):= .aN ha;have ra:aM S a (.row (nW O m) 37) a=some (.row (nW O m) 37):=aB;have rb1:=eU _ _ rb;have Tg:=hk.up eU;have hab:a≠b:=λc=>by rw [c,rb]at ha;cases ha
 generalize aM S a (.row (nW O m) 37)=S1 at eU ra rb1 Tg;have lm:∀{K:KV},cU 11 (.ptr a 0) S1 K=K (.agg (nW O m)) S1:=λ{K}=>by rw [NB ra,fH (aW rfl)];rfl
 have l0:LD a 0 S1 (n8 m.kind):=fD ra rfl;have l3:LD a 3 S1 (nz m.ht):=fD ra rfl;have lh:LD b 13 S1 (nz ht):=fD rb1 h13;have lk:LD b 17 S1 kv:=fD rb1 h17;have smk:∀{p:Prop},aT kv kv p=p:=λ{p}=>dX hk.same;have q2:LB .lss 5 (n8 m.kind) (.int .u8 (.ofNat 2)) (.bool (decide (m.kind<2))):=λ{k}=>by rw [bO];congr 2;simp;omega
 have q5:LB .gtr 5 (n8 m.kind) (.int .u8 (.ofNat 5)) (.bool (decide (5<m.kind))):=λ{k}=>by rw [jR];congr 2;simp;omega
 have qh:LB .lss 3 (nz m.ht) (nz ht) (.bool (decide (m.ht<ht))):=λ{k}=>by rw [bO]
 unfold KP at hF hT;rw [Rc];rw [aL,aI,lm];try dsimp only
 rw [aL,aI];try dsimp only
 refine aNI (d:=d) (by omega) hy pQ ?_;generalize Al m=p1 at hF hT;generalize decide (m.kind<2)=p2 at hF hT q2;generalize decide (5<m.kind)=p3 at hF hT q5;generalize decide (m.ht<ht)=p4 at hF hT qh;cases p1<;>cases p2<;>cases p3<;>cases p4<;>(repeat (first | rw [aL] | rw [aI] | rw [yG] | rw [EN] | rw [oZ] | rw [kB] | rw [fA] | rw [tL] | rw [yF] | rw [CA] | rw [Da] | rw [aG] | rw [aV] | rw [l0] | rw [l3] | rw [lh] | rw [lk] | rw [q2] | rw [q5] | rw [qh] | rw [gX] | rw [KO] | rw [smk] | rw [eH] | rw [iH] | dsimp only))
 all_goals first
  | (rw [eY];exact cL eU (hF rfl))
  | skip
 refine aNL (d:=d+4) (p:=λa=>Gh a m) (f:= .func qI [] [.ptr a 0]) hM hy Tg (by omega) (λz hz g hg t K hK=>aK9 (d:=d+2) hz ra hK) ?_;generalize (l.any λa=>Gh a m)=p5 at hF hT;cases p5<;>(repeat (first | rw [aL] | rw [aI] | rw [yG] | rw [EN] | rw [oZ] | rw [kB] | rw [fA] | rw [tL] | rw [yF] | rw [CA] | rw [Da] | rw [aG] | rw [aV] | rw [l0] | rw [l3] | rw [lh] | rw [lk] | rw [q2] | rw [q5] | rw [qh] | rw [gX] | rw [KO] | rw [smk] | rw [eH] | rw [iH] | dsimp only))
 all_goals first
  | (rw [eY];exact cL eU (hF rfl))
  | skip
 rw [cF];rw [lm,lm,aLa,lk,smk];have ts:wA (nW O m) (Nd m):= .cons O _ (.cons O _ (.cons O _ (.cons O _ (.cons O _ (.cons O _ (.cons O _ (.cons O _ (.cons O _ (.cons O _ (.cons O _ .nil))))))))));have zr:ED nS=some [n8 0,ni 0,ni 0,ni 0,ni 0,ni 0,ni 0,ni 0,ni 0,.str [],.nil]:=rfl;refine⟨sE zr rfl rfl ts.one λ_ _=>trivial,?_⟩;refine Tg.app (hs.trans eU) (by omega) zr rfl ts rfl (by decide) λu S2 Oy kp AX sl=>?_;have nb:¬tM kv b:=Tg.at' rb1 xV;have rb2:=kp _ _ rb1 nb;rw [aV,aG,RX rb2 (by rw [xV];decide) sl.one];refine aF (hT rfl u _ (λj o e=>by rw [aC (λc=>by rw [c,hb0]at e;cases e)];exact Oy _ _ e) (λj o h1 h2 h3=>by rw [aC h1];exact kp _ _ (eU _ _ h2) h3) aB (λj hj=>(AX j hj).imp id eU.none) ?_);have e:pE (l++[m])=pE l++Nd m:=by rw [Ao];show pE l++(Nd m++[])=_;rw [nP]
 rw [e];exact sl.set (λc=>(AX b c).elim nb λc=>by rw [rb1]at c;cases c)
end
theorem aEB:RA PP 23=some .slice:=by kernel_rfl
theorem aNN{v:V}{k:V->Prop}(h:NA v=some (.slice,false))(hv:aD PP .eql 23 v .nil k=VZ PP .eql 23 v .nil k):aD PP .eql 23 v .nil k=k (.bool false):=by
 rw [hv];unfold VZ;rw [h];exact propext ⟨λh=>h.2.2.2.2,λh=>⟨rfl,aEB,.inr rfl,λe=>absurd e (by decide),h⟩⟩
def zM:List Value:=nS
section
variable{M d:Nat}{x:VE}{S:Hp}{K:KV}{S0:Hp}{v f:V}{l:List Ms}
theorem Nh(hx:DP M (d+1) x)(hs:cP S0 S)(h:SL 37 11 S0 S v (pE l) l.length)(hl:l.length<1000000)
 (hK:∀u S',cP S S'->SL 37 11 S S' u (pE l) l.length->(∀i q o n c,u≠ .oR i q o n c)->K u S'):x.call dY [v] S K:=by
 refine hx.call rfl λy hy=>?_;rw [xB];unfold oO
 have go:(dN 37 0 zM [] S λv1 S=>qG 37 11 112 v1 v S λv2 S=>aQ v2 S K):=by
  intro j hj;have hle:cP S (aM S j (.row [] 37)):= .aN hj;have own:SL 37 11 S (aM S j (.row [] 37)) (.own j 0 0 0) [] 0:= .own hj aB;have src:∀{K:Nat->List V->Prop},(∀us,wA us (pE l)->K l.length us)->TF 11 v (aM S j (.row [] 37)) K:=λ{K} hK=>(h.up hle).src hK;show qG 37 11 112 (.own j 0 0 0) v (aM S j (.row [] 37)) _;cases hl0:l.length with
  | zero=>
   have e0:l=[]:=mS hl0;subst e0;unfold qG;refine src λus hu=>?_;exact⟨bI _,aF (hK _ _ hle own λ_ _ _ _ _ e=>by cases e)⟩
  | succ q=>
   unfold qG;refine src λus hu=>?_;rw [hl0];refine⟨hu.one,?_⟩;simp only [aB];refine⟨by omega,by simp,λc=>absurd c (by omega),λ_ i hi=>?_⟩;have e2:(List.take (0*11) (List.drop 0 ([]:List V)))++us=us:=by simp
   rw [e2,show 0+(q+1)=l.length by omega];refine aF (hK _ _ (hle.trans (.aN hi)) (.acc (hle.none hi) aB ?_ (JV l) hu.2) λ_ _ _ _ _ e=>by cases e);rw [hu.1,JV]
 have ne:∀{w:V},NA w=some (.slice,false)->(aD PP .eql 23 w .nil λv0=>iQ v0 (aQ .nil S K) (dN 37 0 zM [] S λv1 S=>qG 37 11 112 v1 v S λv2 S=>aQ v2 S K)):=λ{w} hw=>by
  rw [aNN hw (by cases w<;>first | rfl | cases hw)];exact go
 generalize hn:l.length=n at h;generalize hd:pE l=ds at h;cases h with
 | nil=>
  have e0:l=[]:=mS hn;subst e0;exact⟨rfl,aEB,.inr rfl,(λ_ _ e=>by cases e),aF (hK _ _ (.refl S) .nil λ_ _ _ _ _ e=>by cases e)⟩
 | acc h0 h hl hd hv=>exact ne rfl
 | oR h0 h hl hn hd hv=>exact ne rfl
 | own h0 h=>exact ne rfl
end
structure aI6(M d:Nat)(f:V)(p:Ms->Bool)(l:List Ms)(v:V)(J:List Ms->Hp->Prop):Prop where
 ask:∀(y:VE),DP M d y->∀(pre:List Ms) (a:Ms),(∃suf,l=pre++a::suf)->∀(t:Tag) (S:Hp) (K:KV),J pre S->(∀S',J (pre++[a]) S'->(∀j,tM v j->S' j=S j)->(∀r t' a',S r=some (.row (nW t' a') 37)->S' r=some (.row (nW t' a') 37))->K (.bool (p a)) S')->fK y f [.agg (nW t a)] S K
 own:∀(pre:List Ms) (S:Hp) (vs vs':List V) (n j:Nat),tM v j->J pre S->S j=some (.iX vs 37 n)->J pre (aM S j (.iX vs' 37 n))
 new:∀(pre:List Ms) (S:Hp) (i:Nat) (o:Ob),J pre S->S i=none->J pre (aM S i o)
theorem JW{l:List Ms}{p:Ms->Bool}{j:Nat}(h:j<l.length):(l.take (j+1)).filter p=(l.take j).filter p++(if p l[j]then [l[j]]else []):=by
 rw [tO,aP h,UQ]
 congr 1
 simp only [Option.toList,JZ,Iz]
theorem GB.pre{vs:List V}{ds es:List Dt}(h:GB vs (ds++es)):GB vs ds:=λj d e=>h j d (by rw [fB (dS.1 e).1];exact e)
theorem GB.drop{vs:List V}{ds:List Dt}(h:GB vs ds)(k:Nat):GB (vs.drop k) (ds.drop k):=λj d e=>by
 rw [kS]at e;obtain⟨t,q⟩:=h _ _ e;exact⟨t,by rw [kS];exact q⟩
theorem aBj(l:List Ms):∀(j:Nat),pE (l.drop j)=(pE l).drop (j*11):=by
 induction l with
 | nil=>intro j;cases j<;>rfl
 | cons a l ih=>
  intro j;cases j with
  | zero=>rw [KC];rfl
  | succ j=>
   rw [aBK,ih];show _=(Nd a++pE l).drop _;rw [show(j+1)*11=11+j*11 by omega,<-KB,Ja (An a)]
section
variable{M d:Nat}{x:VE}{S:Hp}{K:KV}{S0:Hp}{v f:V}{l:List Ms}{p:Ms->Bool}{n:Nat}{J:List Ms->Hp->Prop}
theorem aNQ(hM:100000<M)(hx:DP M (d+1) x)(h:SL 37 11 S0 S v (pE l) l.length)(hl:l.length<100000)(A:aI6 M d f p l v J)(hJ:J [] S)
 (hT:∀i S',(hi:i<l.length)->(l.take i).filter p=[]->p l[i]=true->J (l.take (i+1)) S'->(∀j,tM v j->S' j=S j)->K (ni i) S') (hF:∀S',l.filter p=[]->J l S'->(∀j,tM v j->S' j=S j)->K (.int .i64 (.negSucc 0)) S'):x.call cA [v,f] S K:=by
 refine hx.call rfl λy hy=>?_;rw [mM];unfold iJ;rw [h.len,hy.most]
 have go:∀(q i k:Nat) (S':Hp),i+q=l.length->q<k->(l.take i).filter p=[]->J (l.take i) S'->(∀j,tM v j->S' j=S j)->cE y k v f (ni l.length) (ni i) S' K:=by
  intro q;induction q with
  | zero=>
   intro i k S' hi hk hE hj he;obtain⟨k,rfl⟩:=KJ hk;rw [dD];unfold cD;refine aH ?_;rw [dW,BC (by omega),cF];rw [oS (by omega)]at hE hj;exact aF (hF S' hE hj he)
  | succ q ih=>
   intro i k S' hi hk hE hj he;obtain⟨k,rfl⟩:=KJ hk;rw [dD];unfold cD;refine aH ?_;have lN:i<l.length:=by omega
   obtain⟨us,TI,Ei⟩:=(h.but λj o h1 h2=>by rw [he j h1];exact h2:SL 37 11 S0 S' v (pE l) l.length).ldn lN;rw [Nf (aP lN)]at TI;obtain⟨t,rfl⟩:=Dr TI;rw [dW,Gg lN,eY,Ei];have es:l=l.take i++l[i]::l.drop (i+1):=by rw [<-zG lN,MF]
   have et:l.take i++[l[i]]=l.take (i+1):=by rw [tO,aP lN];rfl
   refine A.ask y hy _ _ ⟨_,es⟩ t S' _ hj λS2 Hn TC _=>?_;rw [et]at Hn;cases e:p l[i]with
   | true=>
    rw [eY];exact aF (hT i S2 lN hE e Hn (λj h=>(TC j h).trans (he j h)))
   | false=>
    rw [cF,fP (by omega)];exact ih (i+1) k S2 (by omega) (by omega) (by rw [JW lN,hE,e];rfl) Hn (λj h=>(TC j h).trans (he j h))
 exact go l.length 0 M S (by omega) (by omega) rfl hJ (λ_ _=>rfl)
theorem aI7(hM:100000<M)(hx:DP M (d+2) x)(h:SL 37 11 S0 S v (pE l) l.length)(hl:l.length<100000)(ha:∀i q c,v≠ .oR i q 0 l.length c)(A:aI6 M d f p l v J)(A1:aI6 M (d+1) f p l v J)(hJ:J [] S)
 (hK:∀u S',J l S'->(∀j,tM u j->tM v j)->SL 37 11 S0 S' u (pE (l.filter λa=> !p a)) (l.filter λa=> !p a).length->K u S'):x.call bV [v,f] S K:=by
 refine hx.call rfl λy hy=>?_;rw [tS];unfold mD;refine aNQ (d:=d) hM hy h hl A hJ (λi S1 hi hE hp hj he=>?_) λS1 hE hj he=>?_
 ·rw [cV,show decide ((Int.ofNat i:Int)= .negSucc 0)=false from rfl,cF,fP (by omega),hy.most]
  generalize hd:pE l=ds at h;generalize hn:l.length=n at h ha;cases h with
  | nil=>omega
  | own h0 h=>omega
  | oR h0 h hl hn hd hv=>exact absurd rfl (ha _ _ _)
  | @acc b' _ vs _ h0 h XC Kk hv=>
   have hlen:∀{K:V->Prop},dC (.acc b' n) K=K (ni n):=λ{K}=>rfl
   have go:∀(q i j k:Nat) (S':Hp) (vs:List V),j+q=n->q<k->i<j->((l.take j).filter λa=> !p a).length=i->J (l.take j) S'->S' b'=some (.iX vs 37 n)->vs.length=n*11->GB vs (pE ((l.take j).filter λa=> !p a))->GB (vs.drop (j*11)) (pE (l.drop j))->
    cQ y k (.acc b' n) f (ni i) (ni j) S' K:=by
    intro q;induction q with
    | zero=>
     intro i j k S' vs hj hk XS hi hJ he XC h1 h2;obtain⟨k,rfl⟩:=KJ hk;rw [jJ];unfold fC;refine aH ?_;rw [hlen,dW,BC (by omega),cF];refine Ie he (by omega) ?_;have zl:(List.replicate (n-i) [n8 0,ni 0,ni 0,ni 0,ni 0,ni 0,ni 0,ni 0,ni 0,.str [],.nil]).flatten.length=(n-i)*11:=by simp
     have e11:i*11+(n-i)*11=n*11:=by rw [<-mG];congr 1;omega
     refine Lu (z:=[n8 0,ni 0,ni 0,ni 0,ni 0,ni 0,ni 0,ni 0,ni 0,.str [],.nil]) he rfl (by omega) (by rw [zl];omega) ?_;refine aEe aB (by omega) (by omega) ?_;rw [oS (by omega)]at hi hJ h1;refine aF (hK _ _ (A.own _ _ _ _ _ _ rfl hJ he) (λj e=>e) ?_);rw [hi];refine .oR h0 aB ?_ (by omega) (by rw [JV,hi]) λj' d e=>?_
     ·rw [NU (by rw [zl];omega)];exact XC
     ·have hlt:=(dS.1 e).1
      rw [JV,hi]at hlt;rw [fW _ _ _ (by rw [zl];omega),if_neg (by omega)];exact h1 _ _ e
    | succ q ih=>
     intro i j k S' vs hj hk XS hi hJ he XC h1 h2;obtain⟨k,rfl⟩:=KJ hk;rw [jJ];unfold fC;refine aH ?_;have MC:j<l.length:=by omega
     have aRF:j*11+11<=n*11:=by
      have:=lB 11 (show j+1<=n by omega);omega
     rw [hlen,dW,Gg (by omega),eY,wZ (by omega)]
     have TI:wA ((vs.drop (j*11)).take 11) (Nd l[j]):=by
      have h3:GB (vs.drop (j*11)) (Nd l[j]++pE (l.drop (j+1))):=by
       rw [zG MC]at h2;exact h2
      exact h3.pre.take (by rw [An,qT];omega)
     obtain⟨t,ht⟩:=Dr TI
     have ld:∀{K:KV},cU 11 (.qX b' n (j*11)) S' K=K (.agg (nW t l[j])) S':=λ{K}=>by
      unfold cU;simp only [he];rw [fH (by omega),ht];simp
     rw [ld];intro r hr;have rr:aM S' r (.row [n8 0,ni 0,ni 0,ni 0,ni 0,ni 0,ni 0,ni 0,ni 0,.str [],.nil] 37) r=some (.row [n8 0,ni 0,ni 0,ni 0,ni 0,ni 0,ni 0,ni 0,ni 0,.str [],.nil] 37):=aB;refine gJ (cs:=nW t l[j]) rr rfl rfl (by rfl) ?_;rw [cW];have hrb:r≠b':=λc=>by rw [c,he]at hr;cases hr
     have rr:aM S' r (.row (nW t l[j]) 37) r=some (.row (nW t l[j]) 37):=aB;have hJ1:=A1.new _ _ r (.row (nW t l[j]) 37) hJ hr;have Tj:aM S' r (.row (nW t l[j]) 37) b'=some (.iX vs 37 n):=by rw [aC hrb.symm];exact he
     generalize aM S' r (.row (nW t l[j]) 37)=S1 at rr hJ1 Tj;refine eX (n:=11) (i:=r) rr rfl ?_;have es:l=l.take j++l[j]::l.drop (j+1):=by rw [<-zG MC,MF]
     have et:l.take j++[l[j]]=l.take (j+1):=by rw [tO,aP MC];rfl
     refine A1.ask y hy _ _ ⟨_,es⟩ t S1 _ hJ1 λS2 Hn TC hr2=>?_;rw [et]at Hn;have rr2:=hr2 _ _ _ rr;have he2:=(TC b' rfl).trans Tj
     have hd1:GB (vs.drop ((j+1)*11)) (pE (l.drop (j+1))):=by
      have:=h2.drop 11;rw [KB]at this;rw [aBj]at this ⊢;rw [KB]at this;rw [show(j+1)*11=j*11+11 by omega];exact this
     have hft:=JW (p:=λa=> !p a) MC;rw [show ∀{b:Bool} {k:V->Prop},JC .not (.bool b) k=k (.bool (!b))from λ{b k}=>rfl];cases e:p l[j]with
     | true=>
      rw [e]at hft;rw [eH];have hft:(l.take (j+1)).filter (λa=> !p a)=(l.take j).filter λa=> !p a:=hft.trans (nP ((l.take j).filter λa=> !p a));rw [cF,iO _ (by rw [hy.most];omega)];unfold eJ;refine aH ?_;rw [fP (by omega)];exact ih i (j+1) k S2 vs (by omega) (by omega) (by omega) (by rw [hft];exact hi) Hn he2 XC (by rw [hft];exact h1) hd1
     | false=>
      rw [e]at hft;rw [iH];have hft:(l.take (j+1)).filter (λa=> !p a)=((l.take j).filter λa=> !p a)++[l[j]]:=hft;rw [eY];refine eX (n:=11) (i:=r) rr2 rfl ?_;rw [wZ (by omega)]
      have aRG:i*11+11<=j*11:=by
       have:=lB 11 (show i+1<=j by omega);omega
      have st:∀{k:Hp->Prop},k (aM S2 b' (.iX (aE (i*11) (nW t l[j]) vs) 37 n))->mE 11 (.qX b' n (i*11)) (.agg (nW t l[j])) S2 k:=λ{k} hk=>by
       unfold mE;simp only [he2];exact⟨trivial,rfl,rfl,by omega,hk⟩
      refine st ?_;rw [fP (by omega),iO _ (by rw [hy.most];omega)];unfold eJ;refine aH ?_;rw [fP (by omega)];have DT:(pE ((l.take j).filter λa=> !p a)).length=i*11:=by rw [JV,hi]
      have aRH:(nW t l[j]).length=11:=rfl;refine ih (i+1) (j+1) k _ _ (by omega) (by omega) (by omega) (by rw [hft,bH,hi];rfl) (A.own _ _ _ _ _ _ rfl Hn he2) aB (by rw [NU (by omega)];exact XC) ?_ ?_
      ·rw [hft,Ao,<-DT]
       refine h1.aE (by omega) ?_;have:pE [l[j]]=Nd l[j]:=by show Nd l[j]++[]=_;rw [nP]
       rw [this,<-ht];exact TI
      ·intro j' d' e'
       obtain⟨t',q'⟩:=hd1 j' d' e';refine⟨t',?_⟩;rw [kS]at q' ⊢;rw [fW _ _ _ (by omega),if_neg (by omega)];exact q'
   have hv1:=hv;rw [<-hd]at hv1;refine go (n-(i+1)) i (i+1) M S1 vs (by omega) (by omega) (by omega) ?_ hj ((he b' rfl).trans h) XC ?_ ?_
   ·have:(l.take (i+1)).filter (λa=> !p a)=l.take i:=by
     rw [JW hi,hp];show _++[]=_;rw [nP,Rq];intro a ha;cases e:p a with
     | false=>rfl
     | true=>
      have:a∈(l.take i).filter p:=gE.2 ⟨ha,e⟩;rw [hE]at this;cases this
    rw [this,jL];omega
   ·have:(l.take (i+1)).filter (λa=> !p a)=l.take i:=by
     rw [JW hi,hp];show _++[]=_;rw [nP,Rq];intro a ha;cases e:p a with
     | false=>rfl
     | true=>
      have:a∈(l.take i).filter p:=gE.2 ⟨ha,e⟩;rw [hE]at this;cases this
    rw [this];have e3:pE l=pE (l.take i)++pE (l.drop i):=by rw [<-Ao,MF]
    rw [e3]at hv1;exact hv1.pre
   ·rw [aBj];exact hv1.drop _
 ·rw [cV,show decide ((.negSucc 0:Int)= .negSucc 0)=true from rfl,eY]
  have:(l.filter λa=> !p a)=l:=by
   rw [Rq];intro a ha;cases e:p a with
   | false=>rfl
   | true=>
    have:a∈l.filter p:=gE.2 ⟨ha,e⟩;rw [hE]at this;cases this
  refine aF (hK v S1 hj (λj e=>e) ?_);rw [this];exact h.but λj o h1 h2=>by rw [he j h1];exact h2
end
abbrev hp0:Hp:=λ_=>none
structure Bd where
 me:Int
 ht:Int
 dec:List UInt8
 dI:Option Ba
 told:List (Int×List UInt8)
 kept:List Ms
def toC(p:Int×List UInt8):List Dt:=[.int .i64 p.1,.str p.2]
def GC(l:List (Int×List UInt8)):List Dt:=l.flatMap toC
def iF(B:Bd)(bv tv kv:V):List V:=[nu 23,nu 11,nu 4,nu 9,ni 5,ni 4,ni 1,ni 1,ni 1,ni 1,ni 1,ni 1,nz B.me,nz B.ht,.str B.dec,bv,tv,kv]
inductive WZ(S:Hp):V->Option Ba->(Nat->Prop)->Prop
 | no:WZ S .lU none (λ_=>False)
 | is {q t m:Nat} {a:Ba} (k:vP S q t m 124 a):WZ S (.ptr q 0) (some a) (λj=>j=q\/j=t\/j=m)
structure Brd(S:Hp)(b:Nat)(B:Bd)(bv tv kv:V)(SB:Nat->Prop):Prop where
 row:S b=some (.row (iF B bv tv kv) 82)
 told:SL 75 2 hp0 S tv (GC B.told) B.told.length
 kept:SL 37 11 hp0 S kv (pE B.kept) B.kept.length
 dI:WZ S bv B.dI SB
 nb:¬SB b
 tna:∀i q o n c,tv≠ .oR i q o n c
def Own(b:Nat)(tv kv:V)(SB:Nat->Prop)(j:Nat):Prop:=j=b\/tM tv j\/tM kv j\/SB j
def rV(S:Hp)(b:Nat)(B:Bd)(sd:Nat->Prop):Prop:=∃bv tv kv SB,Brd S b B bv tv kv SB/\sd=Own b tv kv SB
structure Ds(sd:Nat->Prop)(S S':Hp)(KT:Nat->Prop):Prop where
 keep:∀j o,¬sd j->S j=some o->S' j=some o
 new:∀j,KT j->sd j\/S j=none
theorem Ds.refl(sd:Nat->Prop)(S:Hp):Ds sd S S sd:=⟨λ_ _ _ h=>h,λ_ h=> .inl h⟩
theorem Ds.trans{sd sd1 sd2:Nat->Prop}{S S1 S2:Hp}(h:Ds sd S S1 sd1)(k:Ds sd1 S1 S2 sd2):Ds sd S S2 sd2:=by
 refine⟨λj o hn hj=>k.keep j o (λc=>?_) (h.keep j o hn hj),λj hj=>?_⟩
 ·rcases h.new j c with c | c
  ·exact hn c
  ·rw [hj]at c;cases c
 ·rcases k.new j hj with c | c
  ·exact h.new j c
  ·by_cases e:sd j
   ·exact .inl e
   ·right
    cases q:S j with
    | none=>rfl
    | some o=>rw [h.keep j o e q]at c;cases c
theorem Ds.le{sd:Nat->Prop}{S S1:Hp}(h:cP S S1):Ds sd S S1 sd:=⟨λj o _ e=>h j o e,λ_ h=> .inl h⟩
section
variable{S S':Hp}{b:Nat}{B:Bd}{bv tv kv:V}{SB sd:Nat->Prop}
theorem WZ.same{o:Option Ba}(h:WZ S bv o SB):VY bv=true:=by cases h<;>rfl
theorem WZ.up{o:Option Ba}(h:WZ S bv o SB)(hle:cP S S'):WZ S' bv o SB:=by
 cases h with
 | no=>exact .no
 | is k=>exact .is (k.le hle)
theorem vP.but{q t m:Nat}{a:Ba}(k:vP S q t m 124 a)(hs:∀j o,(j=q\/j=t\/j=m)->S j=some o->S' j=some o):vP S' q t m 124 a:=by
 obtain⟨l0,h1,h2⟩:=k.Ii;exact⟨hs _ _ (.inl rfl) k.row,⟨l0,⟨hs _ _ (.inr (.inl rfl)) h1.row,hs _ _ (.inr (.inr rfl)) h1.map⟩,h2⟩,k.inv,k.bt,k.bm,k.tm⟩
theorem WZ.but{o:Option Ba}(h:WZ S bv o SB)(hs:∀j p,SB j->S j=some p->S' j=some p):WZ S' bv o SB:=by
 cases h with
 | no=>exact .no
 | is k=>exact .is (k.but hs)
theorem WZ.sh{o:Option Ba}(h:WZ S bv o SB){j:Nat}(hj:SB j):(∃c cs t,S j=some (.row (c::cs) t))\/∃es,S j=some (.map es):=by
 cases h with
 | no=>cases hj
 | is k=>
  obtain⟨l0,h1,h2⟩:=k.Ii;rcases hj with rfl | rfl | rfl
  ·exact .inl ⟨_,_,_,k.row⟩
  ·exact .inl ⟨_,_,_,h1.row⟩
  ·exact .inr ⟨_,h1.map⟩
theorem SL.aGa{el:TypeId}{k:Nat}{S0:Hp}{v:V}{ds:List Dt}{n:Nat}(h:SL el k S0 S v ds n){o:Option Ba}(hb:WZ S bv o SB){j:Nat}(hj:tM v j):¬SB j:=λc=>by
 rcases hb.sh c with ⟨a,cs,t,e⟩ | ⟨es,e⟩
 ·exact h.nat e hj
 ·rcases(h.at hj).2 with e2 | ⟨cs,m,e2⟩
  ·rw [e]at e2;cases e2
  ·rw [e]at e2;cases e2
theorem SL.ne2{el el2:TypeId}{k k2:Nat}{S0 S1:Hp}{v w:V}{ds es:List Dt}{n m:Nat}(h:SL el k S0 S v ds n)(g:SL el2 k2 S1 S w es m)(wC:el≠el2){j:Nat}(h1:tM v j):¬tM w j:=λh2=>by
 rcases(h.at h1).2 with e | ⟨cs,q,e⟩<;>rcases(g.at h2).2 with e2 | ⟨cs2,q2,e2⟩<;>(rw [e]at e2;cases e2;try exact wC rfl)
theorem Brd.up(h:Brd S b B bv tv kv SB)(hle:cP S S'):Brd S' b B bv tv kv SB:=⟨hle _ _ h.row,h.told.up hle,h.kept.up hle,h.dI.up hle,h.nb,h.tna⟩
theorem Brd.some_(h:Brd S b B bv tv kv SB){j:Nat}(hj:Own b tv kv SB j):∃o,S j=some o:=by
 rcases hj with rfl | hj | hj | hj
 ·exact⟨_,h.row⟩
 ·rcases(h.told.at hj).2 with e | ⟨_,_,e⟩<;>exact⟨_,e⟩
 ·rcases(h.kept.at hj).2 with e | ⟨_,_,e⟩<;>exact⟨_,e⟩
 ·rcases h.dI.sh hj with ⟨_,_,_,e⟩ | ⟨_,e⟩<;>exact⟨_,e⟩
theorem Brd.but(h:Brd S b B bv tv kv SB)(hs:∀j o,Own b tv kv SB j->S j=some o->S' j=some o):Brd S' b B bv tv kv SB:=
 ⟨hs _ _ (.inl rfl) h.row,h.told.but λj o h1 h2=>hs j o (.inr (.inl h1)) h2,h.kept.but λj o h1 h2=>hs j o (.inr (.inr (.inl h1))) h2,h.dI.but λj o h1 h2=>hs j o (.inr (.inr (.inr h1))) h2,h.nb,h.tna⟩
theorem rV.up(h:rV S b B sd)(hle:cP S S'):rV S' b B sd:=by
 obtain⟨bv,tv,kv,SB,h1,h2⟩:=h;exact⟨bv,tv,kv,SB,h1.up hle,h2⟩
theorem Brd.setRow(h:Brd S b B bv tv kv SB){B':Bd}(e1:B'.told=B.told)(e2:B'.kept=B.kept)(e3:B'.dI=B.dI):Brd (aM S b (.row (iF B' bv tv kv) 82)) b B' bv tv kv SB:=by
 have n1:¬tM tv b:=h.told.nat h.row;have n2:¬tM kv b:=h.kept.nat h.row;refine⟨aB,by rw [e1];exact h.told.set n1,by rw [e2];exact h.kept.set n2,?_,h.nb,h.tna⟩;rw [e3];exact h.dI.but λj p h1 h2=>by rw [aC (λc=>h.nb (by rw [<-c];exact h1))];exact h2
end
def Bd.next(B:Bd):Bd:={me:=B.me,ht:=B.ht+1,dec:=[],dI:=none,told:=[],kept:=B.kept.filter λa=> !decide (a.ht<=B.ht)}
section
variable{M d:Nat}{x:VE}{S:Hp}{K:KV}{b:Nat}{B:Bd}{sd:Nat->Prop}
theorem aLd(hx:DP M (d+1) x){bv tv kv:V}{i:Nat}{t:Tag}{g:Ms}(rb:S b=some (.row (iF B bv tv kv) 82))(ri:S i=some (.row [.ptr b 0] 25))(hK:K (.bool (decide (g.ht<=B.ht))) S):x.call qJ [.agg (nW t g),.ptr i 0] S K:=by
 refine hx.call rfl λy hy=>?_;rw [RJ];unfold DH gN gG;refine fR rfl λa ha=>?_;have eU:cP S (aM S a (.row (nW t g) 37)):= .aN ha;have ra:aM S a (.row (nW t g) 37) a=some (.row (nW t g) 37):=aB;have rb:=eU _ _ rb;have ri:=eU _ _ ri;generalize aM S a (.row (nW t g) 37)=S1 at eU ra rb ri;have l3:LD a 3 S1 (nz g.ht):=fD ra rfl;have li:LD i 0 S1 (.ptr b 0):=fD ri rfl;have lb:LD b 13 S1 (nz B.ht):=fD rb rfl;rw [aG,l3,li,aV,aG,lb,yR];exact cL eU hK
theorem aDl(hM:100000<M)(hx:DP M (d+4) x)(h:rV S b B sd)(hl:B.kept.length<90000)(hht:0<=B.ht/\B.ht<1000000)
 (h0:B.dec=[]->K (.tuple [.str [],.bool false]) S)
 (h1:B.dec≠[]->∀S' KT,rV S' b B.next KT->Ds sd S S' KT->K (.tuple [.str B.dec,.bool true]) S'):x.call sQ [.ptr b 0] S K:=by
 obtain⟨bv,tv,kv,SB,h,rfl⟩:=h;refine hx.call rfl λy hy=>?_;rw [WM];unfold HQ XG jK uM gQ gN gM;intro i hi;have eU:cP S (aM S i (.row [.ptr b 0] 25)):= .aN hi;have ri:aM S i (.row [.ptr b 0] 25) i=some (.row [.ptr b 0] 25):=aB;have g:=h.up eU;generalize aM S i (.row [.ptr b 0] 25)=S1 at eU ri g
 have ld:∀{S2:Hp},cP S1 S2->(LD i 0 S2 (.ptr b 0))/\(LD b 12 S2 (nz B.me))/\(LD b 13 S2 (nz B.ht))/\(LD b 14 S2 (.str B.dec))/\(LD b 17 S2 kv)/\(∀{K:KV},cU 12 (.ptr b 0) S2 K=K (.agg [nu 23,nu 11,nu 4,nu 9,ni 5,ni 4,ni 1,ni 1,ni 1,ni 1,ni 1,ni 1]) S2):=λ{S2} le=>
  ⟨fD (le _ _ ri) rfl,fD (le _ _ g.row) rfl,fD (le _ _ g.row) rfl,fD (le _ _ g.row) rfl,fD (le _ _ g.row) rfl,λ{K}=>by rw [NB (le _ _ g.row),fH (aW rfl)];rfl⟩
 obtain⟨l0,WY,ON,UJ,l17,lp⟩:=ld (.refl S1);have sp:∀{p:Prop} {a:Nat},aT (.ptr a 0) (.ptr a 0) p=p:=λ{p a}=>dX rfl;have sz:∀{p:Prop} {z:Int},aT (nz z) (nz z) p=p:=λ{p z}=>dX rfl;have sa:∀{p:Prop},aT (.agg [nu 23,nu 11,nu 4,nu 9,ni 5,ni 4,ni 1,ni 1,ni 1,ni 1,ni 1,ni 1]) (.agg [nu 23,nu 11,nu 4,nu 9,ni 5,ni 4,ni 1,ni 1,ni 1,ni 1,ni 1,ni 1]) p=p:=λ{p}=>dX rfl;have q9:LB .eql 9 (.str B.dec) (.str []) (.bool (decide (B.dec=[]))):=λ{k}=>rfl
 have ad:LB .add 3 (nz B.ht) (.int .i64 (.ofNat 1)) (nz (B.ht+1)):=λ{k}=>by
  rw [iM]
  congr 2
  exact wrap_small (by simp only [lR];omega) (by simp only [lR];omega)
 cases hd:decide (B.dec=[])with
 | true=>
  rw [hd]at q9
  repeat (first | rw [aL] | rw [aI] | rw [Rc] | rw [l0] | rw [UJ] | rw [aV] | rw [aG] | rw [q9] | rw [fA] | rw [eY] | dsimp only)
  exact cL eU (h0 (MI hd))
 | false=>
  rw [hd]at q9
  repeat (first | rw [aL] | rw [aI] | rw [Rc] | rw [l0] | rw [UJ] | rw [WY] | rw [ON] | rw [l17] | rw [lp] | rw [ad] | rw [aV] | rw [aG] | rw [q9] | rw [fA] | rw [cF] | dsimp only)
  have aNv:B.dec≠[]:=Bb hd;have hs0:cP hp0 S1:=λj o e=>by cases e
  refine Nh (d:=d+2) hy hs0 g.kept (by omega) λu S2 lA sl nas=>?_;obtain⟨m0,m12,m13,m14,m17,mp⟩:=ld lA
  repeat (first | rw [m0] | rw [m12] | rw [m13] | rw [mp] | rw [sp] | rw [sz] | rw [sa])
  have na:∀i q c,u≠ .oR i q 0 B.kept.length c:=λi q c=>nas _ _ _ _ _
  have ask:∀d',aI6 M (d'+1) (.func qJ [] [.ptr i 0]) (λa=>decide (a.ht<=B.ht)) B.kept u λ_ S'=>cP S1 S':=λd'=>
   ⟨λz hz pre a _ t S' K hJ hK=>aLd (B:=B) (bv:=bv) (tv:=tv) (kv:=kv) (d:=d') hz (hJ _ _ g.row) (hJ _ _ ri) (hK S' hJ (λ_ _=>rfl) λ_ _ _ e=>e),
    λpre S' vs vs' n j hj hJ he k o e=>by rw [aC (λc=>by rw [c,(sl.at hj).1]at e;cases e)];exact hJ _ _ e,
    λpre S' j o hJ hj=>hJ.trans (.aN hj)⟩
  refine aI7 (d:=d+1) (J:=λ_ S'=>cP S1 S') hM hy sl (by omega) na (ask d) (ask (d+1)) lA λw S3 GG AX sw=>?_;obtain⟨n0,n12,n13,n14,n17,np⟩:=ld GG
  repeat (first | rw [n0] | rw [n12] | rw [n13] | rw [np] | rw [sp] | rw [sz] | rw [sa])
  have r3:=GG _ _ g.row
  have fin:∀{k:V->Prop},k (.agg (iF B.next .lU .nil w))->fX aC7 [(0,12,.agg [nu 23,nu 11,nu 4,nu 9,ni 5,ni 4,ni 1,ni 1,ni 1,ni 1,ni 1,ni 1]),(12,1,nz B.me),(13,1,nz (B.ht+1)),(17,1,w)] k:=λ{k} hk=>by
   show vD _ _ _;refine⟨rfl,rfl,aW rfl,?_⟩;refine⟨rfl,aW rfl,rfl,aW rfl,?_⟩;show yD w _;rw [vc1 sw.one];exact⟨rfl,aW rfl,hk⟩
  refine fin ?_;rw [aV];refine gJ (cs:=iF B.next .lU .nil w) r3 ?_ rfl rfl ?_
  ·have:=sw.one
   unfold iF;simp only [PD,List.all_nil,this];rfl
  refine aF (h1 aNv _ (Own b .nil w λ_=>False) ⟨.lU,.nil,w,λ_=>False,⟨aB,.nil,?_,.no,(λc=>c),λ_ _ _ _ _ e=>by cases e⟩,rfl⟩ ⟨λj o hn e=>?_,λj hj=>?_⟩)
  ·have:¬tM w b:=λc=>by have:=(sw.at c).1;rw [g.row]at this;cases this
   exact(sw.base hs0).set this
  ·rw [aC (λc=>hn (.inl c))];exact GG _ _ (eU _ _ e)
  ·rcases hj with hj | hj | hj | hj
   ·exact .inl (.inl hj)
   ·cases hj
   ·exact .inr (eU.none (sw.at hj).1)
   ·cases hj
end
def OV(l:List Int):List Dt:=l.map (Dt.int .i64)
def zvs(l:List Int):List V:=l.map (V.int .i64)
theorem aED(l:List Int):(OV l).length=l.length:=jB _
theorem aLe(l:List Int):(zvs l).all pN=true:=by rw [dJ];intro v hv;obtain⟨n,_,rfl⟩:=mF.1 hv;rfl
theorem aNR(O:Tag)(l:List Int):∀o,Tl O o (OV l)=zvs l:=by
 induction l with
 | nil=>intro o;rfl
 | cons a l ih=>intro o;show T (.sub O o) (.int .i64 a)::Tl O (o+1) (OV l)=_;rw [ih];rfl
inductive ZC(S S':Hp):V->List Int->Prop
 | nil:ZC S S' .nil []
 | own {j:Nat}:ZC S S' (.own j 0 0 0) []
 | acc {i:Nat} {l:List Int} (h0:S i=none) (hl:0<l.length) (h:S' i=some (.iX (zvs l) 3 l.length)):ZC S S' (.acc i l.length) l
section
variable{M n:Nat}{x:VE}{S:Hp}{K:KV}
theorem Rf:RA PP 33=some .slice:=by kernel_rfl
theorem aI8(hx:DP M (n+1) x){O:Tag}{l:List Int}(hl:l.length<1000000)(hK:∀w S',cP S S'->ZC S S' w l->K w S'):x.call oI [.list O (OV l) l.length] S K:=by
 refine hx.call rfl λy hy=>?_;rw [FX];unfold uC
 have rest:(dN 3 0 WJ [] S λv1 S=>qG 3 1 8 v1 (.list O (OV l) l.length) S λv2 S=>aQ v2 S K):=by
  intro j hj;have hle:cP S (aM S j (.row [] 3)):= .aN hj;show qG 3 1 8 (.own j 0 0 0) (.list O (OV l) l.length) (aM S j (.row [] 3)) _;refine⟨by rw [aED];omega,?_⟩;rw [oS (by rw [aED];omega),aNR];cases hl0:l.length with
  | zero=>
   have e0:l=[]:=mS hl0;subst e0;exact⟨bI _,aF (hK _ _ hle .own)⟩
  | succ q=>
   refine⟨aLe l,?_⟩;simp only [aB];refine⟨by omega,by simp,λc=>absurd c (by omega),λ_ i hi=>?_⟩;have e2:(List.take (0*1) (List.drop 0 ([]:List V)))++zvs l=zvs l:=by simp
   rw [e2,show 0+(q+1)=l.length by omega];exact aF (hK _ _ (hle.trans (.aN hi)) (.acc (hle.none hi) (by omega) aB))
 cases l with
 | nil=>exact⟨Rf,aF (hK _ _ (.refl S) .nil),rest⟩
 | cons a l=>exact⟨rfl,Rf,.inr rfl,(λe=>by cases e),rest⟩
end
section
variable{M n:Nat}{x:VE}{S S0:Hp}{K:KV}{w:V}{l:List Int}
theorem aLf(hx:DP M (n+1) x)(h:ZC S0 S w l)(hs:cP S0 S)(hl:l.length<1000000)(hK:∀S',cP S0 S'->ZC S0 S' w (BY l)->(∀j,(∀m,w≠ .acc j m)->S' j=S j)->K (.tuple []) S'):x.call pB [w] S K:=by
 have e0:BY []=[]:=by unfold BY;simp
 cases h with
 | nil=>exact hx.yE (g:=aBi 3 (V.int .i64) BY none) rfl (.inl ⟨_,rfl,.inl rfl,hK S hs (by rw [e0];exact .nil) λ_ _=>rfl⟩)
 | @own j=>exact hx.yE (g:=aBi 3 (V.int .i64) BY none) rfl (.inl ⟨_,rfl,.inr (.inl ⟨_,_,_,rfl⟩),hK S hs (by rw [e0];exact .own) λ_ _=>rfl⟩)
 | @acc i _ h0 hp h=>
  refine hx.yE (g:=aBi 3 (V.int .i64) BY none) rfl (.inr (.inl ⟨i,l,rfl,hp,hl,h,hK _ (λq o e=>?_) ?_ λq hq=>aC λc=>by subst c;exact hq _ rfl⟩))
  ·rw [aC (λc=>by rw [c,h0]at e;cases e)];exact hs q o e
  ·have el:(BY l).length=l.length:=QS l
   have:=ZC.acc (l:=BY l) h0 (by omega) (S':=aM S i (.iX (zvs (BY l)) 3 l.length)) (by rw [el];exact aB);rw [el]at this;exact this
end
theorem aLg(zs:List Int)(j:Nat):∀m,(dq zs (j+m)).length<=(dq zs j).length+m:=by
 intro m;induction m with
 | zero=>exact bI _
 | succ m ih=>
  show(if kp zs (j+m)then dq zs (j+m)++[zs.getD (j+m) 0]else dq zs (j+m)).length<=_;split
  ·rw [bH];simp;omega
  ·omega
section
variable{x:VE}{K:KV}{zs:List Int}{i n:Nat}{S':Hp}
theorem aNS(hn:zs.length=n)(hM:n<x.most)(hb:n<1000000000)(hs:S' i=none)(hk:(dd zs).length≠n->∀O,K (.list O (rC (dd zs)) (dd zs).length) S'){S:Hp}(hle:cP S' S)(hi:S i=some (.iX (ints zs) 3 n))(tZ:(dd zs).length=n->K (.acc i n) S):
 ∀(m k:Nat),1<=k->k<=n->n<=k+m->dq zs k=zs.take k->dZ x (m+1) (.acc i n) (.int .i64 (.ofNat k)) S K:=by
 have fin:∀k,n=k->dq zs k=zs.take k->aQ (.acc i n) S K:=by
  intro k h1 h2;subst h1;have e4:dd zs=zs:=by unfold dd;rw [hn,h2,<-hn,US]
  exact aF (tZ (by rw [e4];exact hn))
 intro m;induction m with
 | zero=>
  intro k h1 h2 h3 h4;rw [fV];unfold dP;refine aH ?_;rw [CB,bO,bG,if_neg (by simp;omega)];exact fin k (by omega) h4
 | succ m ih=>
  intro k h1 h2 h3 h4;rw [fV];unfold dP;refine aH ?_;rw [CB,bO,bG];by_cases hlt:k<n
  ·rw [if_pos (by simp;omega),wZ hlt]
   refine Lt hi (AW (by omega)) ?_;rw [tJ,aDa (by omega) (by omega),wZ (by omega)];refine Lt hi (AW (by omega)) ?_;rw [cV,bG,lS,lS];have hz:¬k=0:=by omega
   by_cases hd:zs.getD k 0=zs.getD (k-1) 0
   ·rw [if_pos (by simp only [hd];simp)]
    refine Ie hi hlt ?_;obtain⟨p,hp⟩:=pV (show x.most≠0 by omega);rw [hp];have e5:dq zs (k+1)=zs.take k:=(Wi (by omega) hd).trans h4;have e6:(dq zs (k+1)).length=k:=by rw [e5,jL];omega
    have e7:(dd zs).length≠n:=by
     have:=aLg zs (k+1) (n-(k+1));rw [show k+1+(n-(k+1))=zs.length by omega]at this;unfold dd;omega
    exact aLQ hn hM hb hs (hk e7) (m+1) h1 p 1 k S zs hle hi hn (bI _) (by omega) (by omega) e6.symm (by omega) e5.symm rfl
   ·rw [if_neg (by rw [aR hd];simp),iM,KG (by omega)]
    refine ih (k+1) (by omega) (by omega) (by omega) ?_;rw [aC9 hd,tO,aP (by omega),h4,RV (by omega)];rfl
  ·rw [if_neg (by simp;omega)]
   exact fin k (by omega) h4
end
section
variable{M d i n:Nat}{x:VE}{S S':Hp}{K:KV}{zs:List Int}
theorem aDm(hx:DP M (d+1) x)(hn:zs.length=n)(hM:n<M)(hb:n<1000000000)(hs:S' i=none)(hle:cP S' S)(h1:2<=n)(hi:S i=some (.iX (ints zs) 3 n))(hk:(dd zs).length≠n->∀O,K (.list O (rC (dd zs)) (dd zs).length) S')(tZ:(dd zs).length=n->K (.acc i n) S):x.call bN [.acc i n] S K:=by
 refine hx.call rfl λy hy=>?_;rw [mX];unfold jQ;have hm:y.most=M:=hy.most;rw [CB,bO,bG]
 have one:dq zs 1=zs.take 1:=by
  cases zs with
  | nil=>simp at hn;omega
  | cons a l=>rfl
 rw [if_neg (by simp;omega)];obtain⟨p,hp⟩:=pV (show y.most≠0 by omega);rw [hp];exact aNS hn (by omega) hb hs hk hle hi tZ p 1 (bI _) (by omega) (by omega) one
end
def RZ(l:List Int):Bool:=decide (l.length=4)&&(decide ((dd (BY l)).length=4)&&(decide (1<=(BY l).getD 0 0)&&decide ((BY l).getD 3 0<=5)))
section
variable{M d:Nat}{x:VE}{S:Hp}{K:KV}{b:Nat}{B:Bd}{bv tv kv:V}
theorem aBk(hM:100000<M)(hx:DP M (d+2) x){O:Tag}{l:List Int}(hl:l.length<100000)(rb:S b=some (.row (iF B bv tv kv) 82))(hK:K (.bool (RZ l)) S):x.call rP [.ptr b 0,.list O (OV l) l.length] S K:=by
 refine hx.call rfl λy hy=>?_;rw [LS];unfold yU Av rW ST BD gCt gQ gM;refine aI8 hy (by omega) λw S2 lA hw=>?_;refine aLf hy hw lA (by omega) λS3 GG hw3 _=>?_;have rb3:=GG _ _ rb;have l5:LD b 5 S3 (ni 4):=fD rb3 rfl;have l4:LD b 4 S3 (ni 5):=fD rb3 rfl;have l5':LD b 5 S (ni 4):=fD rb rfl;have si:∀{p:Prop} {n:Nat},aT (ni n) (ni n) p=p:=λ{p n}=>dX rfl;rw [show ∀k:V->Prop,dC (.list O (OV l) l.length) k=k (ni l.length)from λ_=>rfl,aV,aG,aG,l5,Mz];by_cases e:l.length=4
 ·have es:(BY l).length=4:=by rw [QS];exact e
  have ec:RZ l=(decide ((dd (BY l)).length=4)&&(decide (1<=(BY l).getD 0 0)&&decide ((BY l).getD 3 0<=5))):=by unfold RZ;rw [aU e];rfl
  rw [ec]at hK;rw [aU e]
  repeat (first | rw [aL] | rw [aI] | rw [aV] | rw [aG] | rw [l5] | dsimp only)
  generalize BY l=zs at hw3 es hK;cases hw3 with
  | nil=>simp at es
  | own=>simp at es
  | @acc i _ h0 hp h=>
   refine aDm (d:=d) (zs:=zs) (n:=zs.length) (S':=S) hy rfl (by omega) (by omega) h0 GG (by omega) h (λe2 t2=>?_) λe2=>?_
   ·rw [aR (by omega:¬(dd zs).length=4),Bool.false_and]at hK
    have g5:∀{k:V->Prop},dC (.list t2 (rC (dd zs)) (dd zs).length) k=k (ni (dd zs).length):=λ{k}=>rfl;have q5:∀{t:TypeId} {k:V->Prop},aD PP .eql t (ni (dd zs).length) (ni 4) k=k (.bool false):=λ{t k}=>by rw [Mz,aR (by omega)]
    repeat (first | rw [aL] | rw [aI] | rw [tL] | rw [yF] | rw [yG] | rw [kB] | rw [fA] | rw [si] | rw [l5'] | rw [g5] | rw [q5] | dsimp only)
    exact aF hK
   ·rw [aU (by omega:(dd zs).length=4),Jb]at hK
    have hz:zs.length=4:=es;have g5:∀{k:V->Prop},dC (.acc i zs.length) k=k (ni 4):=λ{k}=>by rw [hz];rfl
    have q5:∀{t:TypeId} {k:V->Prop},aD PP .eql t (ni 4) (ni 4) k=k (.bool true):=λ{t k}=>by rw [Mz];rfl
    have at_:∀(p:Nat),p<4->∀{K:KV},bJ (.qX i zs.length (p*1)) S3 K=K (nz (zs.getD p 0)) S3:=λp hp {K}=>by
     unfold bJ;simp only [h];have:=AW (l:=zs) (p:=p) (by omega);rw [kF (show(zvs zs)[p*1]? =some (nz (zs.getD p 0))by rw [lS];exact this)];exact propext ⟨λq=>q.2,λq=>⟨trivial,q⟩⟩
    have a0:∀{K:KV},bJ (.qX i zs.length (0*1)) S3 K=K (nz (zs.getD 0 0)) S3:=at_ 0 (by omega);have a3:∀{K:KV},bJ (.qX i zs.length (3*1)) S3 K=K (nz (zs.getD 3 0)) S3:=at_ 3 (by omega);have x0:∀{k:V->Prop},jM 1 (.acc i zs.length) (.int .i64 (.ofNat 0)) k=k (.qX i zs.length (0*1)):=λ{k}=>wZ (by omega);have x3:∀{k:V->Prop},jM 1 (.acc i zs.length) (ni 3) k=k (.qX i zs.length (3*1)):=λ{k}=>wZ (by omega);have s1:∀{t:TypeId} {k:V->Prop},aD PP .sub t (ni 4) (.int .i64 (.ofNat 1)) k=k (ni 3):=λ{t k}=>by rw [tJ];rfl
    have c0:∀{t:TypeId} {k:V->Prop},aD PP .geq t (nz (zs.getD 0 0)) (.int .i64 (.ofNat 1)) k=k (.bool (decide (1<=zs.getD 0 0))):=λ{t k}=>by rw [kG];rfl
    have c3:∀{t:TypeId} {k:V->Prop},aD PP .leq t (nz (zs.getD 3 0)) (ni 5) k=k (.bool (decide (zs.getD 3 0<=5))):=λ{t k}=>by rw [yR];rfl
    generalize decide (1<=zs.getD 0 0)=p0 at hK c0;generalize decide (zs.getD 3 0<=5)=p3 at hK c3;cases p0<;>(repeat (first | rw [aL] | rw [aI] | rw [tL] | rw [yF] | rw [yG] | rw [kB] | rw [fA] | rw [aV] | rw [aG] | rw [si] | rw [l5] | rw [l4] | rw [g5] | rw [q5] | rw [x0] | rw [x3] | rw [a0] | rw [a3] | rw [s1] | rw [c0] | rw [c3] | dsimp only))<;>exact cL GG hK
 ·have ec:RZ l=false:=by unfold RZ;rw [aR e];rfl
  rw [ec]at hK;rw [aR e]
  repeat (first | rw [aL] | rw [yG] | rw [fA] | rw [yF] | rw [si] | rw [l5] | dsimp only)
  exact cL GG hK
def uK(l:List Int)(z:Int):Int:=match l.findIdx? (λa=>decide (z=a))with
 | some i=> .ofNat i
 | none=> .negSucc 0
theorem aDn(hx:DP M (d+1) x){O:Tag}{l:List Int}(hl:l.length<M)(Hi:l.length<1000000000){z:Int}(hK:K (nz (uK l z)) S):x.call fQ [.list O (OV l) l.length,nz z] S K:=by
 refine hx.call rfl λy hy=>?_;rw [FY];unfold uD;rw [show ∀k:V->Prop,dC (.list O (OV l) l.length) k=k (ni l.length)from λ_=>rfl,hy.most]
 have go:∀(q i k:Nat),i+q=l.length->q<k->(l.take i).any (λa=>decide (z=a))=false->iD y k (.list O (OV l) l.length) (nz z) (ni l.length) (ni i) S K:=by
  intro q;induction q with
  | zero=>
   intro i k hi hk hE;obtain⟨k,rfl⟩:=KJ hk;rw [pS];unfold kV;refine aH ?_;rw [dW,BC (by omega),cF];rw [oS (by omega)]at hE
   have:uK l z= .negSucc 0:=by
    unfold uK;rw [List.findIdx?_eq_none_iff.2 (λa ha=>by simpa using(Be.1 hE a ha))]
   rw [this]at hK;exact aF hK
  | succ q ih=>
   intro i k hi hk hE;obtain⟨k,rfl⟩:=KJ hk;rw [pS];unfold kV;refine aH ?_;have lN:i<l.length:=by omega
   rw [dW,Gg lN,eY,nR lN,OE,lS];have:(OV l)[i]? =some (.int .i64 l[i]):=by unfold OV;rw [jA,aP lN];rfl
   rw [kF this];show aD PP .eql 3 (nz z) (nz l[i]) _;rw [cV];by_cases e:z=l[i]
   ·rw [aU e,eY]
    have:uK l z= .ofNat i:=by
     unfold uK
     rw [Ri.2 ⟨lN,by simpa using e,λj hj=>by
      have:=Be.1 hE l[j] (by rw [List.mem_take_iff_getElem];exact⟨j,by omega,rfl⟩);simpa using this⟩]
    rw [this]at hK;exact aF hK
   ·rw [aR e,cF,fP (by omega)]
    refine ih (i+1) k (by omega) (by omega) ?_;rw [tO,aP lN,List.any_append,hE];simp [e]
 exact go l.length 0 M (by omega) (by omega) rfl
end
def qQ(x:VE)(m:Nat)(t1 t4 t79 t80 t81:V):HK:=mT PP fT CR x [.r,.r,.r,.l,.r,.d] m [] [t1,t4,t79,t80,t81]
def UH(x:VE)(a0:V):HK:=λS K=>
 pO 68 a0 S λv0 S=>
 gG 0 v0 S λv2 S=>
 gG 1 v0 S λv4 S=>
 gG 2 v0 S λv6 S=>
 gG 3 v0 S λv8 S=>
 x.call AK [v2,v4,v6,v8] S λv9 S=>
 nF 0 v9 λv10=>
 nF 1 v9 λv11=>
 aD PP .neq 26 v11 (.int .i64 (.ofNat 0)) λv12=>
 XG x v12 4 v0 .lss 3 (.int .i64 (.ofNat 0)) S λyT S=>
 XG x yT 4 v0 .geq 3 (.int .i64 (.ofNat 100)) S λv26 S=>
 XG x v26 5 v0 .lss 3 (.int .i64 (.ofNat 1)) S λv33 S=>
 XG x v33 5 v0 .gtr 3 (.int .i64 (.ofNat 3)) S λv40 S=>
 XG x v40 6 v0 .lss 3 (.int .i64 (.ofNat 0)) S λFp S=>
 XG x Fp 6 v0 .gtr 3 (.int .i64 (.ofNat 1099511627776)) S λv54 S=>
 zE x v54 7 v0 S λv58 S=>
 zE x v54 9 v0 S λv62 S=>
 zE x v54 4 v0 S λv66 S=>
 uM x v54 (x.call vG [v58,v62,v66] S) S λv68 S=>
 jK x v54 (JC .not v68) S λv70 S=>
 gQ x v54 (.bool true) v70 λv71=>
 zE x v71 8 v0 S λv75 S=>
 zE x v71 10 v0 S λv79 S=>
 zE x v71 4 v0 S λv83 S=>
 uM x v71 (x.call vG [v75,v79,v83] S) S λv85 S=>
 jK x v71 (JC .not v85) S λv87 S=>
 gQ x v71 (.bool true) v87 λv88=>
 zE x v88 13 v0 S λv92 S=>
 jK x v88 (JA v92) S λv94 S=>
 jK x v88 (aD PP .gtr 3 v94 (.int .i64 (.ofNat 2048))) S λv96 S=>
 gQ x v88 (.bool true) v96 λv97=>
 iQ v97 (aQ (.tuple [.lU,(.int .i64 (.ofNat 4))]) S K) (gG 14 v0 S λv99 S=>dC v99 λaQ6=>qQ x x.most v0 v10 v99 aQ6 (.int .i64 (.ofNat 0)) S K)
theorem Ox(x:VE)(a0:V):nV PP fT CR x [a0]=UH x a0:=by kernel_rfl
def tU(x:VE)(m0:Nat)(t1 t4 t79 t80 t81:V):HK:=λS K=>
 fG S λS=>
 aD PP .lss 3 t81 t80 λv0=>
 iQ v0 (jM 5 t79 t81 λv1=>cU 5 v1 S λv2 S=>eI tR 94 S λv3 S=>mE 5 v3 v2 S λS=>gG 1 v3 S λv5 S=>aD PP .geq 3 v5 (.int .i64 (.ofNat 100)) λv6=>wF x v6 t4 S λv7 S=>uM x v6 (cU 5 v3 S) S λv9 S=>uM x v6 (x.call eT [v7,v9] S) S λv11 S=>jK x v6 (JC .not v11) S λpI S=>gQ x v6 (.bool true) pI λmL=>iQ mL (aQ (.tuple [.lU,(.int .i64 (.ofNat 4))]) S K) (aD PP .add 3 t81 (.int .i64 (.ofNat 1)) λuN=>qQ x m0 t1 t4 t79 t80 uN S K)) (bF 14 t1 λuJ=>mE 1 uJ .nil S λS=>cU 15 t1 S λv17 S=>gM 0 t4 λyT=>mE 15 yT v17 S λS=>aQ (.tuple [t4,(.int .i64 (.ofNat 0))]) S K)
theorem BJ(x:VE)(m0:Nat)(t1 t4 t79 t80 t81:V):qQ x (m0+1) t1 t4 t79 t80 t81=tU x m0 t1 t4 t79 t80 t81:=by kernel_rfl
def tV(x:VE)(a0:V):HK:=λS K=>
 eI WK 68 S λv0 S=>
 aD PP .eql 80 a0 .lU λv1=>
 iQ v1 (fX WK [] λv2=>mE 15 v0 v2 S λS=>cU 15 v0 S λv3 _=>aQ v3 S K) (gM 0 a0 λv5=>cU 15 v5 S λv6 S=>eI WK 68 S λv7 S=>mE 15 v7 v6 S λS=>gN 15 a0 S λv10 S=>x.call fU [v10] S λv11 S=>bF 14 v7 λv12=>mE 1 v12 v11 S λS=>cU 15 v7 S λpI S=>mE 15 v0 pI S λS=>cU 15 v0 S λmL _=>aQ mL S K)
theorem BK(x:VE)(a0:V):nV PP fT pG x [a0]=tV x a0:=by kernel_rfl
def fF(x:VE)(m:Nat)(t3 t12 t13 t14:V):HK:=mT PP fT pH x [.r,.r,.r,.l,.r,.d] m [] [t3,t12,t13,t14]
def tW(x:VE)(a0:V):HK:=λS K=>
 aD PP .eql 80 a0 .lU λv0=>
 iQ v0 (aQ .nil S K) (gN 15 a0 S λv3 S=>x.call fU [v3] S λv4 S=>dC v4 λv5=>fF x x.most .nil v4 v5 (.int .i64 (.ofNat 0)) S K)
theorem BL(x:VE)(a0:V):nV PP fT pH x [a0]=tW x a0:=by kernel_rfl
def nE(x:VE)(m0:Nat)(t3 t12 t13 t14:V):HK:=λS K=>
 fG S λS=>
 aD PP .lss 3 t14 t13 λv0=>
 iQ v0 (jM 5 t12 t14 λv1=>cU 5 v1 S λv2 S=>eI tR 94 S λv3 S=>mE 5 v3 v2 S λS=>gG 2 v3 S λv5 S=>aD PP .eql 5 v5 (.int .u8 (.ofNat 2)) λv6=>iQ v6 (gG 4 v3 S λv8 S=>dN 9 1 [(.string ⟨⟨[]⟩⟩)] [(0,1,v8)] S λv9 S=>qG 9 1 16 t3 v9 S λv10 S=>aD PP .add 3 t14 (.int .i64 (.ofNat 1)) λv11=>fF x m0 v10 t12 t13 v11 S K) (aD PP .add 3 t14 (.int .i64 (.ofNat 1)) λv12=>fF x m0 t3 t12 t13 v12 S K)) (x.call dG [t3] S λpI S=>x.call cM [t3] S λmL S=>aQ mL S K)
theorem sI(x:VE)(m0:Nat)(t3 t12 t13 t14:V):fF x (m0+1) t3 t12 t13 t14=nE x m0 t3 t12 t13 t14:=by kernel_rfl
def eQ(x:VE)(m:Nat)(t0 t3 t16 t17 Vv:V):HK:=mT PP fT oA x [.r,.r,.r,.l,.r,.d] m [] [t0,t3,t16,t17,Vv]
def FD(x:VE)(a0:V):HK:=λS K=>
 aD PP .eql 25 a0 .lU λv0=>
 iQ v0 (aQ .nil S K) (gN 15 a0 S λv3 S=>x.call pH [v3] S λv4 S=>gN 17 a0 S λv7 S=>dC v7 λv8=>eQ x x.most a0 v4 v7 v8 (.int .i64 (.ofNat 0)) S K)
theorem TP(x:VE)(a0:V):nV PP fT oA x [a0]=FD x a0:=by kernel_rfl
def oN(x:VE)(m0:Nat)(t0 t3 t16 t17 Vv:V):HK:=λS K=>
 fG S λS=>
 aD PP .lss 3 Vv t17 λv0=>
 iQ v0 (jM 11 t16 Vv λv1=>cU 11 v1 S λv2 S=>eI nS 37 S λv3 S=>mE 11 v3 v2 S λS=>gG 0 v3 S λv5 S=>aD PP .eql 5 v5 (.int .u8 (.ofNat 2)) λv6=>Av x v6 3 v3 S λv10 S=>BD x v6 t0 S λv11 S=>rW x v6 (jI PP v11) S λpI S=>Av x v6 13 pI S λv17 S=>rW x v6 (aD PP .eql 3 v10 v17) S λyT S=>gQ x v6 yT (.bool false) λv20=>iQ v20 (gG 9 v3 S λv22 S=>dN 9 1 [(.string ⟨⟨[]⟩⟩)] [(0,1,v22)] S λv23 S=>qG 9 1 16 t3 v23 S λv24 S=>aD PP .add 3 Vv (.int .i64 (.ofNat 1)) λv25=>eQ x m0 t0 v24 t16 t17 v25 S K) (aD PP .add 3 Vv (.int .i64 (.ofNat 1)) λv26=>eQ x m0 t0 t3 t16 t17 v26 S K)) (x.call dG [t3] S λKQ S=>x.call cM [t3] S λv28 S=>aQ v28 S K)
theorem uG(x:VE)(m0:Nat)(t0 t3 t16 t17 Vv:V):eQ x (m0+1) t0 t3 t16 t17 Vv=oN x m0 t0 t3 t16 t17 Vv:=by kernel_rfl
section
variable{M n:Nat}{x:VE}{S0 S:Hp}{v:V}{ls:List (List UInt8)}{K:KV}
theorem aPz{vs:List V}(hv:GB vs (eF ls))(hl:ls.length<=vs.length):vs=ls.map V.str++vs.drop ls.length:=by
 have e:vs.take ls.length=ls.map V.str:=by
  apply uO;intro j;rw [jA];rcases zJ j ls.length with h | h
  ·obtain⟨t,q⟩:=hv j (.str ls[j]) (by unfold eF;rw [jA,aP h];rfl)
   rw [kR,if_pos h,q,aP h];rfl
  ·rw [GH (by rw [jL];omega),GH h];rfl
 rw [<-e,MF]
theorem aNY(rest:List V):GB (ls.map V.str++rest) (eF ls):=λj d e=>by
 unfold eF at e;rw [jA]at e;cases h:ls[j]? with
 | none=>rw [h]at e;cases e
 | some tx=>
  rw [h]at e;injection e with e;subst e;have hj:=(dS.1 h).1;exact⟨.root 0,by rw [fB (by rw [jB];exact hj),jA,h];rfl⟩
theorem aLZ{f:FuncId}{g:List (List UInt8)->List (List UInt8)}{m:Option (List (List UInt8)->Nat)}(hf:gT f=some (aBi 9 V.str g m))(hg:∀ls,(g ls).length=ls.length)(hx:DP M (n+1) x)(h:SL 9 1 S0 S v (eF ls) ls.length)(hs:cP S0 S)(hl:ls.length<1000000)
 (VM:ls=[]->v= .nil\/(∃i o c,v= .own i o 0 c)\/(∃i q o c,v= .oR i q o 0 c)\/(∃i,v= .acc i 0)->SL 9 1 S0 S v (eF ls) ls.length->K (Wt m v []) S)
 (hK:∀i q vs rest,S0 i=none->(v= .acc i q/\q=ls.length/\rest=[]\/v= .oR i q 0 ls.length q/\ls.length<=q)->(ls.map V.str++rest).length=q->vs=(g ls).map V.str++rest->cP S0 (aM S i (.iX vs 9 q))->(∀j,j≠i->aM S i (.iX vs 9 q) j=S j)->aM S i (.iX vs 9 q) i=some (.iX vs 9 q)->K (Wt m v ls) (aM S i (.iX vs 9 q))):x.call f [v] S K:=by
 refine hx.yE hf ?_;have up:∀{i:Nat} {o:Ob},S0 i=none->cP S0 (aM S i o):=λ{i o} h0 j p e=>by rw [aC (λc=>by rw [c,h0]at e;cases e)];exact hs _ _ e
 by_cases e0:ls=[]
 ·have h':=h
  have hv:v= .nil\/(∃i o c,v= .own i o 0 c)\/(∃i q o c,v= .oR i q o 0 c)\/(∃i,v= .acc i 0):=by
   subst e0;generalize hd:eF []=ds at h';generalize hn:([]:List (List UInt8)).length=n' at h';cases h' with
   | nil=>exact .inl rfl
   | acc=>subst hn;exact .inr (.inr (.inr ⟨_,rfl⟩))
   | oR=>subst hn;exact .inr (.inr (.inl ⟨_,_,_,_,rfl⟩))
   | own=>exact .inr (.inl ⟨_,_,_,rfl⟩)
  exact .inl ⟨v,rfl,hv,VM e0 hv h⟩
 ·have hp:0<ls.length:=List.length_pos_iff.2 e0
  generalize hd:eF ls=ds at h;generalize hn:ls.length=n' at h;cases h with
  | nil=>omega
  | own=>omega
  | @acc i _ vs _ h0 h XC Kk hv=>
   subst hd hn;rw [lS]at XC;have e:=aPz hv (by omega);rw [OY (by omega),nP]at e;rw [e]at h;refine .inr (.inl ⟨i,ls,rfl,hp,hl,h,?_⟩);refine hK i ls.length _ [] h0 (.inl ⟨rfl,rfl,rfl⟩) (by simp) (by rw [nP]) (up h0) (λj hj=>aC hj) aB
  | @oR i q _ vs _ h0 h XC hnm Kk hv=>
   subst hd hn;rw [lS]at XC;have e:=aPz hv (by omega);rw [e]at h;refine .inr (.inr ⟨i,q,ls,_,rfl,hp,hnm,hl,h,?_⟩);refine hK i q _ _ h0 (.inr ⟨rfl,hnm⟩) (by rw [<-e];exact XC) rfl (up h0) (λj hj=>aC hj) aB
theorem aLr(hx:DP M (n+1) x)(h:SL 9 1 S0 S v (eF ls) ls.length)(hs:cP S0 S)(hl:ls.length<1000000)
 (hK:∀S',cP S0 S'->(∀j o,¬tM v j->S j=some o->S' j=some o)->SL 9 1 S0 S' v (eF (HE ls)) (HE ls).length->K (.tuple []) S'):x.call dG [v] S K:=by
 refine aLZ (g:=HE) (m:=none) rfl wX hx h hs hl (λe _ h=>?_) λi q vs rest h0 hv hql e up kp at_=>?_
 ·refine hK S hs (λ_ _ _ e=>e) ?_
  have:HE ls=ls:=by rw [e];unfold HE;simp
  rw [this];exact h
 ·have el:((HE ls).map V.str++rest).length=q:=by rw [bH,jB,wX,<-hql,bH,jB]
  have AX:tM v i:=by rcases hv with ⟨rfl,_⟩ | ⟨rfl,_⟩<;>rfl
  refine hK _ up (λj o hn e=>by rw [kp j (λc=>hn (by rw [c];exact AX))];exact e) ?_;subst e;have eD:(eF (HE ls)).length=ls.length:=by rw [Qx,wX]
  rcases hv with ⟨rfl,rfl,rfl⟩ | ⟨rfl,hq⟩
  ·rw [wX]
   exact .acc h0 at_ (by rw [el,lS]) (by rw [eD,lS]) (aNY _)
  ·rw [wX]
   exact .oR h0 at_ (by rw [el,lS]) hq (by rw [eD,lS]) (aNY _)
theorem aLs(hx:DP M (n+1) x)(h:SL 9 1 S0 S v (eF ls) ls.length)(hs:cP S0 S)(hl:ls.length<1000000)
 (hK:∀u S',cP S0 S'->(∀j o,¬tM v j->S j=some o->S' j=some o)->(∀j,tM u j->tM v j)->SL 9 1 S0 S' u (eF (Qd ls)) (Qd ls).length->K u S'):x.call cM [v] S K:=by
 refine aLZ (g:=cpT) (m:=some λls=>(Qd ls).length) rfl Hw hx h hs hl (λe hv h=>?_) λi q vs rest h0 hv hql e up kp at_=>?_
 ·have ed:Qd ls=ls:=by rw [e];rfl
  have e2:(Qd ([]:List (List UInt8))).length=0:=rfl;rcases hv with rfl | ⟨i,o,c,rfl⟩ | ⟨i,q,o,c,rfl⟩ | ⟨i,rfl⟩
  ·exact hK _ S hs (λ_ _ _ e=>e) (λ_ q=>q) (by rw [ed];exact h)
  ·exact hK _ S hs (λ_ _ _ e=>e) (λ_ q=>q) (by rw [ed];exact h)
  ·exact hK _ S hs (λ_ _ _ e=>e) (λ_ q=>q) (by rw [ed];exact h)
  ·subst e
   refine hK (.oR i 0 0 0 0) S hs (λ_ _ _ e=>e) (λ_ q=>q) ?_;rw [ed];generalize hd:eF []=ds at h;generalize hn:([]:List (List UInt8)).length=n' at h;cases h with
   | acc h0 h XC Kk hv=>exact .oR h0 h XC (bI _) Kk hv
 ·have hle:=Lk ls
  have el:((cpT ls).map V.str++rest).length=q:=by rw [bH,jB,Hw,<-hql,bH,jB]
  have AX:tM v i:=by rcases hv with ⟨rfl,_⟩ | ⟨rfl,_⟩<;>rfl
  have hq:ls.length<=q:=by rw [<-hql,bH,jB];omega
  have eu:Wt (some λls:List (List UInt8)=>(Qd ls).length) v ls= .oR i q 0 (Qd ls).length q:=by rcases hv with ⟨rfl,_⟩ | ⟨rfl,_⟩<;>rfl
  rw [eu];refine hK _ _ up (λj o hn e=>by rw [kp j (λc=>hn (by rw [c];exact AX))];exact e) (λj hj=>by cases hj;exact AX) ?_;subst e;refine .oR h0 at_ (by rw [el,lS]) (by omega) (by rw [Qx,lS]) ?_;unfold cpT;rw [Iy,DW];exact aNY _
theorem SL.aPA(h:SL 9 1 S0 S v (eF ls) ls.length)(hs:cP S0 S)(hl:ls.length<=1000000){tx:List UInt8}
 (hk:∀u S',cP S0 S'->(∀j o,S j=some o->¬tM v j->S' j=some o)->(∀j,tM u j->tM v j\/S j=none)->SL 9 1 S0 S' u (eF (ls++[tx])) (ls++[tx]).length->K u S'):dN 9 1 [(.string ⟨⟨[]⟩⟩)] [(0,1,.str tx)] S λv2 S=>qG 9 1 16 v v2 S K:=by
 have bT:∀{K:KV},(∀j,S j=none->K (.own j 0 1 1) (aM S j (.row [.str tx] 9)))->dN 9 1 [(.string ⟨⟨[]⟩⟩)] [(0,1,.str tx)] S K:=λh=>⟨rfl,by simp,h⟩;refine bT λj hj=>?_;have TX:cP S (aM S j (.row [.str tx] 9)):= .aN hj;have nj:=h.aPs hj;refine(h.up TX).apps (m:=0) (us:=[.str tx]) (new:=[.str tx]) (hs.trans TX) hl (by omega) (.cons (.root 0) (.str tx) .nil) rfl (.inl rfl) (by decide) (λ{K} hK=>LN (m:=1) aB rfl hK) λu S' e1 e2 e3 e4 _=>?_;refine hk u S' e1 (λq o e IF=>e2 q o (TX _ _ e) IF) (λq e=>(e3 q e).elim .inl λc=> .inr (TX.none c)) ?_;have:eF (ls++[tx])=eF ls++[.str tx]:=by unfold eF;rw [Iy];rfl
 rw [this,bH];exact e4
end
def SA(l:List Vo):List (List UInt8):=(l.filter λv=>decide (v.kd=2)).map (·.tx)
theorem aDp{l:List Vo}{i:Nat}(h:i<l.length):SA (l.take (i+1))=SA (l.take i)++(if l[i].kd=2 then [l[i].tx]else []):=by
 unfold SA;rw [tO,aP h,UQ,Iy]
 congr 1
 by_cases c:l[i].kd=2
 ·simp [c]
 ·simp [c]
theorem Dw(l:List Vo):(SA l).length<=l.length:=by
 unfold SA;rw [jB];exact DU _ _
def yI(l:List Vo):List (List UInt8):=Qd (HE (SA l))
section
variable{M n b t m:Nat}{x:VE}{S S0:Hp}{K:KV}{a:Ba}{v:V}{l:List Vo}
theorem aJj(hx:DP M (n+1) x){ls:List (List UInt8)}{t3:V}(hs:cP S0 S)(hl:ls.length<1000000)(ac:SL 9 1 S0 S t3 (eF ls) ls.length)
 (hk:∀v S',cP S0 S'->SL 9 1 S0 S' v (eF (Qd (HE ls))) (Qd (HE ls)).length->aQ v S' K):(x.call dG [t3] S λpI S=>x.call cM [t3] S λmL S=>aQ mL S K):=by
 refine aLr hx ac hs hl λS1 h1 _ ac1=>?_;refine aLs hx ac1 h1 (by rw [wX];exact hl) λu S2 h2 _ _ ac2=>?_;exact hk u S2 h2 ac2
theorem aJk(hM:100000<M)(hx:DP M (n+1) x)(hlen:l.length<=10000)(hk:∀v S',cP S0 S'->SL 9 1 S0 S' v (eF (yI l)) (yI l).length->K v S'):
 ∀(q i:Nat) (t3:V) (S:Hp),l.length<=i+q->i<=l.length->cP S0 S->SL 94 5 S0 S v (wT l) l.length->SL 9 1 S0 S t3 (eF (SA (l.take i))) (SA (l.take i)).length->fF x (q+1) t3 v (.int .i64 (.ofNat l.length)) (.int .i64 (.ofNat i)) S K:=by
 have fin:∀(i:Nat) (t3:V) (S:Hp),l.length<=i->cP S0 S->SL 9 1 S0 S t3 (eF (SA (l.take i))) (SA (l.take i)).length->(x.call dG [t3] S λpI S=>x.call cM [t3] S λmL S=>aQ mL S K):=λi t3 S h1 c ac=>by
  rw [oS h1]at ac;have rY:=Dw l;exact aJj hx c (by omega) ac λv S' h2 ac2=>aF (hk v S' h2 ac2)
 intro q;induction q with
 | zero=>
  intro i t3 S h1 h2 c g ac;rw [sI];unfold nE gG;refine aH ?_;rw [dW,BC (by omega),cF];exact fin i t3 S (by omega) c ac
 | succ q ih=>
  intro i t3 S h1 h2 c g ac;rw [sI];unfold nE gG;refine aH ?_;rw [dW];by_cases hi:i<l.length
  ·have rY:=Dw (l.take i)
   rw [jL]at rY;obtain⟨us,TI,Ei⟩:=g.ldn hi;rw [Dn l i l[i] (aP hi)]at TI
   obtain rfl:us=l[i].vv:=by
    obtain⟨hl5,TI⟩:=TI;have hl5:us.length=5:=hl5
    match us,hl5 with
    | [a0,a1,a2,a3,a4],_=>
     obtain⟨t0,e0⟩:=TI 0 _ rfl;obtain⟨t1,e1⟩:=TI 1 _ rfl;obtain⟨t2,e2⟩:=TI 2 _ rfl;obtain⟨t3,e3⟩:=TI 3 _ rfl;obtain⟨t4,e4⟩:=TI 4 _ rfl;injection e0 with e0;injection e1 with e1;injection e2 with e2;injection e3 with e3;injection e4 with e4;subst e0 e1 e2 e3 e4;rfl
   rw [Gg hi,eY,Ei];refine dQ (l:=OM.vv) rfl λp hp=>?_;refine gJ aB (by rfl) (by rfl) (by rfl) ?_;rw [cW];have eU:cP S (aM S p (.row l[i].vv 94)):= .aN hp;have rp:aM S p (.row l[i].vv 94) p=some (.row l[i].vv 94):=aB;have ac1:=ac.up eU;have g1:=g.up eU;generalize aM S p (.row l[i].vv 94)=S1 at eU rp ac1 g1;obtain⟨m0,m1,m2,m3,m4⟩:=Dp rp;have c1:=c.trans eU;have et:=aDp hi;have ek:LB .eql 5 (.int .u8 (.ofNat l[i].kd)) (.int .u8 (.ofNat 2)) (.bool (decide (l[i].kd=2))):=λ{k}=>by rw [cV];congr 2;simp;omega
   rw [aG,m2,ek];by_cases ck:l[i].kd=2
   ·rw [aU ck,eY,aG,m4]
    rw [if_pos ck]at et;refine ac1.aPA c1 (by omega) λu S2 e1 kp AX ac2=>?_;rw [fP (by omega)];refine ih (i+1) u S2 (by omega) (by omega) e1 (g1.but λj o h1 h2=>kp j o h2 (ac1.ne2 g1 (by decide) · h1)) ?_;rw [et];exact ac2
   ·rw [aR ck,cF,fP (by omega)]
    rw [if_neg ck,nP]at et;refine ih (i+1) t3 S1 (by omega) (by omega) c1 g1 ?_;rw [et];exact ac1
  ·rw [BC hi,cF]
   exact fin i t3 S (by omega) c ac
theorem aJl(l:List Vo):wA (voV l) (wT l):=by
 induction l with
 | nil=>exact .nil
 | cons a l ih=>exact .cons (.root 0) _ (.cons (.root 0) _ (.cons (.root 0) _ (.cons (.root 0) _ (.cons (.root 0) _ ih))))
theorem aJm(hM:100000<M)(hx:DP M (n+2) x)(k:vP S b t m 124 a)(hk:∀v S',cP S S'->SL 9 1 S S' v (eF (yI a.l)) (yI a.l).length->K v S'):x.call pH [.ptr b 0] S K:=by
 refine hx.call rfl λy hy=>?_;rw [BL];unfold tW gN;refine JD EL ?_;have MD:LD b 15 S (.ptr t 0):=aZ k.row;rw [cF,aV,aG,MD];obtain⟨l0,h1,h2,h3⟩:=k.okl;have hs:=Dm k.inv.OJ h3;have hlen:=RU k.inv.OJ k.inv.ok.1.2 λv hv=>(k.inv.vs v hv).1;have hmm:y.most=M:=hy.most;obtain⟨p,hp⟩:=pV (show y.most≠0 by omega);refine hy.yE (f:=fU) (g:=Do) rfl ⟨t,m,a.s.n.toNat,l0,rfl,h1,h2,by rw [hs];exact k.inv.OJ,λe=>?_,λe q hq=>?_⟩
 ·rw [hs]at e
  show dC .nil _;rw [hp];have:=aJk (l:=a.l) (v:= .nil) hM hy (by omega) hk p 0 .nil S (by omega) (by omega) (.refl S) (by rw [e];exact .nil) .nil;rw [e]at this;exact this
 ·rw [hs]
  show fF y y.most .nil (.acc q a.l.length) (ni a.l.length) _ _ _;rw [hp];refine aJk (l:=a.l) hM hy (by omega) hk p 0 .nil _ (by omega) (by omega) (.aN hq) ?_ .nil;have XC:(voV a.l).length=a.l.length*5:=by rw [(aJl a.l).1,JU]
  exact .acc hq aB XC (JU _) (aJl a.l).2
end
def Bd.texts(B:Bd):List (List UInt8):=Qd (HE ((match B.dI with | none=>[] | some a=>yI a.l)++(B.kept.filter λm=>decide (m.kind=2)&&decide (m.ht=B.ht)).map (·.text)))
theorem Nl(l:List Vo):(yI l).length<=l.length:=by
 have h1:=Dw l;have h2:=Lk (HE (SA l));rw [wX]at h2;unfold yI;omega
section
variable{M n b:Nat}{x:VE}{S S0:Hp}{K:KV}{B:Bd}{sd:Nat->Prop}
theorem aLt{p:Ms->Bool}{pre:List (List UInt8)}{l:List Ms}{i:Nat}(h:i<l.length):pre++((l.take (i+1)).filter p).map (·.text)=(pre++((l.take i).filter p).map (·.text))++(if p l[i]then [l[i].text]else []):=by
 rw [tO,aP h,UQ,Iy,DW]
 congr 2
 by_cases c:p l[i]=true
 ·simp [c]
 ·simp [c]
theorem aEG(hM:100000<M)(hx:DP M (n+4) x)(h:rV S b B sd)(hl:B.kept.length<90000)(pQ:∀m∈B.kept,m.kind<256)(hK:∀O,K (.list O (eF B.texts) B.texts.length) S):x.call oA [.ptr b 0] S K:=by
 refine hx.call rfl λy hy=>?_;rw [TP];unfold FD gN;obtain⟨bv,tv,kv,SB,g,rfl⟩:=h;have MD:LD b 15 S bv:=fD g.row rfl;rw [Rc,cF,aV,aG,MD]
 let pre:List (List UInt8):=match B.dI with | none=>[] | some a=>yI a.l
 have Gr:pre.length<=20000:=by
  show(match B.dI with | none=>[] | some a=>yI a.l).length<=20000;have gb:=g.dI;cases hb:B.dI with
  | none=>exact gF _
  | some a=>
   rw [hb]at gb;cases gb with
   | is k=>have:=RU k.inv.OJ k.inv.ok.1.2 λv hv=>(k.inv.vs v hv).1;have:=Nl a.l;show(yI a.l).length<=_;omega
 have fin:∀(S1:Hp) (t3:V) (ls:List (List UInt8)),cP S S1->ls.length<1000000->Qd (HE ls)=B.texts->SL 9 1 S S1 t3 (eF ls) ls.length->(y.call dG [t3] S1 λKQ S=>y.call cM [t3] S λv28 S=>aQ v28 S K):=λS1 t3 ls h1 h2 h3 h4=>by
  refine aJj (n:=n+2) hy h1 h2 h4 λv S2 h5 h6=>?_;rw [h3]at h6;exact DD h5 h6.frz hK
 have loop:∀(q i k:Nat) (t3:V) (S1:Hp),i+q=B.kept.length->q<k->cP S S1->SL 9 1 S S1 t3 (eF (pre++((B.kept.take i).filter λm=>decide (m.kind=2)&&decide (m.ht=B.ht)).map (·.text))) (pre++((B.kept.take i).filter λm=>decide (m.kind=2)&&decide (m.ht=B.ht)).map (·.text)).length->
  eQ y k (.ptr b 0) t3 kv (ni B.kept.length) (ni i) S1 K:=by
  have aPB:∀i,(pre++((B.kept.take i).filter λm=>decide (m.kind=2)&&decide (m.ht=B.ht)).map (·.text)).length<=110000:=λi=>by
   have:=DU (λm:Ms=>decide (m.kind=2)&&decide (m.ht=B.ht)) (B.kept.take i);rw [jL]at this;rw [bH,jB];omega
  intro q;induction q with
  | zero=>
   intro i k t3 S1 hi hk h1 ac;obtain⟨k,rfl⟩:=KJ hk;rw [uG];unfold oN Av rW ST BD gQ gG;refine aH ?_;rw [dW,BC (by omega),cF];have:=aPB i;rw [oS (by omega)]at ac this;exact fin S1 t3 (pre++(B.kept.filter λm=>decide (m.kind=2)&&decide (m.ht=B.ht)).map (·.text)) h1 (by omega) rfl ac
  | succ q ih=>
   intro i k t3 S1 hi hk h1 ac;obtain⟨k,rfl⟩:=KJ hk;rw [uG];unfold oN Av rW ST BD gQ gG;refine aH ?_;have lN:i<B.kept.length:=by omega
   have kp:=g.kept.up h1;obtain⟨us,TI,Ei⟩:=kp.ldn lN;rw [Nf (aP lN)]at TI;obtain⟨t,rfl⟩:=Dr TI;rw [dW,Gg lN,eY,Ei];intro r hr;refine gJ (cs:=nW t B.kept[i]) aB rfl rfl (by rfl) ?_;rw [cW];have lA:cP S1 (aM S1 r (.row (nW t B.kept[i]) 37)):= .aN hr;have rr:aM S1 r (.row (nW t B.kept[i]) 37) r=some (.row (nW t B.kept[i]) 37):=aB;have ac1:=ac.up lA;have h2:=h1.trans lA;have rb:=h2 _ _ g.row;generalize aM S1 r (.row (nW t B.kept[i]) 37)=S2 at lA rr ac1 h2 rb;have hkd:=pQ _ (nO lN);have et:=aLt (p:=λm=>decide (m.kind=2)&&decide (m.ht=B.ht)) (pre:=pre) lN;have hlb:=aPB i;generalize B.kept[i]=g0 at rr hkd et;have l0:LD r 0 S2 (n8 g0.kind):=fD rr rfl;have l3:LD r 3 S2 (nz g0.ht):=fD rr rfl;have l9:LD r 9 S2 (.str g0.text):=fD rr rfl;have ON:LD b 13 S2 (nz B.ht):=fD rb rfl;have qk:LB .eql 5 (n8 g0.kind) (.int .u8 (.ofNat 2)) (.bool (decide (g0.kind=2))):=λ{k}=>by rw [cV];congr 2;simp;omega
   have qh:LB .eql 3 (nz g0.ht) (nz B.ht) (.bool (decide (g0.ht=B.ht))):=λ{k}=>by rw [cV]
   have skip:(decide (g0.kind=2)&&decide (g0.ht=B.ht))=false->(aD PP .add 3 (ni i) (.int .i64 (.ofNat 1)) λv26=>eQ y k (.ptr b 0) t3 kv (ni B.kept.length) v26 S2 K):=λe=>by
    rw [fP (by omega)];rw [e,if_neg (by simp),nP]at et;refine ih (i+1) k t3 S2 (by omega) (by omega) h2 ?_;rw [et];exact ac1
   rw [aG,l0,qk];cases e1:decide (g0.kind=2)with
   | false=>
    repeat (first | rw [aL] | rw [yG] | rw [fA] | rw [cF] | dsimp only)
    exact skip (by rw [e1];rfl)
   | true=>
    repeat (first | rw [aL] | rw [aI] | rw [aV] | rw [aG] | rw [l3] | rw [ON] | rw [qh] | rw [kB] | dsimp only)
    cases e2:decide (g0.ht=B.ht)with
    | false=>
     rw [cF];exact skip (by rw [e1,e2];rfl)
    | true=>
     rw [eY,l9];rw [e1,e2,if_pos (show(true&&true)=true from rfl)]at et;refine ac1.aPA h2 (by omega) λu S3 e3 kp3 AX ac3=>?_;rw [fP (by omega)];refine ih (i+1) k u S3 (by omega) (by omega) e3 ?_;rw [et];exact ac3
 have start:∀v S1,cP S S1->SL 9 1 S S1 v (eF pre) pre.length->(jI PP (.ptr b 0) λv5=>bF 17 v5 λv6=>bJ v6 S1 λv7 S=>dC v7 λv8=>eQ y y.most (.ptr b 0) v v7 v8 (.int .i64 (.ofNat 0)) S K):=λv S1 h1 h2=>by
  have l17:LD b 17 S1 kv:=fD (h1 _ _ g.row) rfl;rw [aV,aG,l17,g.kept.len];refine loop B.kept.length 0 y.most v S1 (by omega) (by rw [hy.most];omega) h1 ?_;rw [List.take_zero,Iz,List.map_nil,nP];exact h2
 have gb:=g.dI;cases hb:B.dI with
 | none=>
  rw [hb]at gb;cases gb with
  | no=>
   refine hy.call rfl λz hz=>?_;rw [BL];unfold tW gN;have ne:LB .eql 80 .lU .lU (.bool true):=λ{k}=>propext ⟨λh=>h.2.2.2.2,λh=>⟨rfl,EL,.inr rfl,λ_ _ e=>(by cases e),h⟩⟩;rw [ne,eY];refine aF (start .nil S (.refl S) ?_);show SL 9 1 S S .nil (eF (match B.dI with | none=>[] | some a=>yI a.l)) (match B.dI with | none=>[] | some a=>yI a.l).length;rw [hb];exact .nil
 | some a=>
  rw [hb]at gb;cases gb with
  | is k=>
   refine aJm (n:=n+1) hM hy k λv S1 h1 h2=>start v S1 h1 ?_;show SL 9 1 S S1 v (eF (match B.dI with | none=>[] | some a=>yI a.l)) (match B.dI with | none=>[] | some a=>yI a.l).length;rw [hb];exact h2
end
def qO(x:VE)(m:Nat)(t1 t2 t3 t4 t5:V):HK:=mT PP fT vT x [.r,.r,.r,.r,.l,.r,.d] m [] [t1,t2,t3,t4,t5]
def pJ(x:VE)(m:Nat)(t1 t2 t3 t6:V):HK:=mT PP fT vT x [.r,.r,.r,.r,.r,.l,.r,.d] m [] [t1,t2,t3,t6]
def Aa(x:VE)(a0:V):HK:=λS K=>
 pO 71 a0 S λv0 S=>
 eI Dg 61 S λv1 S=>
 gG 0 v0 S λv3 S=>
 gG 1 v0 S λv5 S=>
 gG 2 v0 S λv7 S=>
 gG 19 v0 S λv9 S=>
 fX Dg [(0,1,v3),(1,1,v5),(2,1,v7),(19,1,v9)] λv10=>
 eI Dg 61 S λv11 S=>
 mE 20 v11 v10 S λS=>
 bF 3 v0 λv12=>
 cU 15 v12 S λpI S=>
 eI WK 68 S λmL S=>
 mE 15 mL pI S λS=>
 gG 0 mL S λuJ S=>
 gG 1 mL S λBA S=>
 gG 2 mL S λv20 S=>
 gG 3 mL S λv22 S=>
 gG 4 mL S λv24 S=>
 gG 5 mL S λv26 S=>
 gG 6 mL S λv28 S=>
 gG 7 mL S λv30 S=>
 gG 8 mL S λv32 S=>
 gG 9 mL S λIG S=>
 gG 10 mL S λXH S=>
 gG 11 mL S λXI S=>
 gG 12 mL S λv40 S=>
 gG 13 mL S λFo S=>
 fX WK [(0,1,uJ),(1,1,BA),(2,1,v20),(3,1,v22),(4,1,v24),(5,1,v26),(6,1,v28),(7,1,v30),(8,1,v32),(9,1,IG),(10,1,XH),(11,1,XI),(12,1,v40),(13,1,Fo)] λIh=>
 bF 3 v11 λv44=>
 mE 15 v44 Ih S λS=>
 qO x x.most v0 v1 v11 mL (.int .i64 (.ofNat 0)) S K
theorem Vx(x:VE)(a0:V):nV PP fT vT x [a0]=Aa x a0:=by kernel_rfl
def tT(x:VE)(m0:Nat)(t1 t2 t3 t4 t5:V):HK:=λS K=>
 fG S λS=>
 gG 14 t4 S λv1 S=>
 dC v1 λv2=>
 aD PP .lss 3 t5 v2 λv3=>
 iQ v3 (bF 3 t3 λv4=>bF 14 v4 λv5=>bJ v5 S λv6 S=>bF 14 t4 λv7=>bJ v7 S λv8 S=>jM 5 v8 t5 λv9=>cU 5 v9 S λv10 S=>cU 5 v9 S λv11 _=>aT v11 v10 (bJ v7 S λv12 _=>aT v12 v8 (bJ v5 S λpI _=>aT pI v6 ((dN 93 1 tR [(0,5,v10)] S λmL S=>True)/\(dN 93 1 tR [(0,5,v10)] S λuN S=>qG 93 5 48 v6 uN S λuJ S=>bJ v7 S λv17 _=>aT v17 v8 (bF 3 t3 λBA=>bF 14 BA λyT=>mE 1 yT uJ S λS=>aD PP .add 3 t5 (.int .i64 (.ofNat 1)) λv20=>qO x m0 t1 t2 t3 t4 v20 S K)))))) (pJ x x.most t1 t2 t3 (.int .i64 (.ofNat 0)) S K)
theorem BG(x:VE)(m0:Nat)(t1 t2 t3 t4 t5:V):qO x (m0+1) t1 t2 t3 t4 t5=tT x m0 t1 t2 t3 t4 t5:=by kernel_rfl
def sW(x:VE)(m0:Nat)(t1 t2 t3 t6:V):HK:=λS K=>
 fG S λS=>
 gG 18 t1 S λv1 S=>
 dC v1 λv2=>
 aD PP .lss 3 t6 v2 λv3=>
 iQ v3 (bF 18 t3 λv4=>bJ v4 S λv5 S=>bF 18 t1 λv6=>bJ v6 S λv7 S=>jM 2 v7 t6 λv8=>cU 2 v8 S λv9 S=>cU 2 v8 S λv10 _=>aT v10 v9 (bJ v6 S λv11 _=>aT v11 v7 (bJ v4 S λv12 _=>aT v12 v5 ((dN 91 1 NI [(0,2,v9)] S λpI S=>True)/\(dN 91 1 NI [(0,2,v9)] S λmL S=>qG 91 2 24 v5 mL S λuN S=>bJ v6 S λuJ _=>aT uJ v7 (bF 18 t3 λv17=>mE 1 v17 uN S λS=>aD PP .add 3 t6 (.int .i64 (.ofNat 1)) λBA=>pJ x m0 t1 t2 t3 BA S K)))))) (cU 20 t3 S λyT S=>mE 20 t2 yT S λS=>cU 20 t2 S λv20 _=>aQ v20 S K)
theorem AS(x:VE)(m0:Nat)(t1 t2 t3 t6:V):pJ x (m0+1) t1 t2 t3 t6=sW x m0 t1 t2 t3 t6:=by kernel_rfl
def rG(x:VE)(t3 t5 t8:V):HK:=DC PP fT vU x [.r,.r,.r,.r,.r,.r] [] [t3,t5,t8]
def lK(x:VE)(m:Nat)(t3 t5 t8 t84 t85 t86:V):HK:=mT PP fT vU x [.r,.r,.r,.r,.r,.r,.l,.r,.d] m [] [t3,t5,t8,t84,t85,t86]
def nL(x:VE)(m:Nat)(t5 t8 t130 t131 aA8:V):HK:=mT PP fT vU x [.r,.r,.r,.r,.r,.r,.r,.l,.r,.d] m [] [t5,t8,t130,t131,aA8]
def Ab(x:VE)(a0 a1 a2:V):HK:=λS K=>
 pO 31 a0 S λv0 S=>
 pO 71 a2 S λv1 S=>
 cU 12 v0 S λv2 S=>
 x.call DE [v2,a1] S λv3 S=>
 nF 0 v3 λv4=>
 nF 1 v3 λv5=>
 aD PP .neq 26 v5 (.int .i64 (.ofNat 0)) λv6=>
 iQ v6 (aQ (.tuple [.lU,v5]) S K) (gG 0 v1 S λv8 S=>aD PP .lss 3 v8 (.int .i64 (.ofNat 1)) λv9=>XG x v9 0 v1 .gtr 3 (.int .i64 (.ofNat 65)) S λuJ S=>zE x uJ 1 v1 S λv20 S=>jK x uJ (JA v20) S λv22 S=>jK x uJ (aD PP .gtr 3 v22 (.int .i64 (.ofNat 2048))) S λv24 S=>gQ x uJ (.bool true) v24 λv25=>iQ v25 (aQ (.tuple [.lU,(.int .i64 (.ofNat 4))]) S K) (gG 0 v1 S λKQ S=>gM 13 v4 λJP=>mE 1 JP KQ S λS=>gG 2 v1 S λv31 S=>iQ v31 (bF 3 v1 λv32=>cU 15 v32 S λv33 S=>x.call CR [v33] S λIG S=>nF 0 IG λv35=>nF 1 IG λXH=>gM 15 v4 λXI=>mE 1 XI v35 S λS=>aD PP .neq 26 XH (.int .i64 (.ofNat 0)) λv39=>jK x v39 (bF 3 v1) S λv41 S=>gEf x v39 0 v41 v1 .neq 3 S λVm S=>jK x Vm (bF 3 v1) S λv54 S=>zE x Vm 1 v54 S λv58 S=>zE x Vm 5 v0 S λv62 S=>jK x Vm (aD PP .neq 3 v58 v62) S λv64 S=>gQ x Vm (.bool true) v64 λv65=>jK x v65 (bF 3 v1) S λv67 S=>zE x v65 2 v67 S λv71 S=>zE x v65 6 v0 S λv75 S=>jK x v65 (aD PP .neq 3 v71 v75) S λv77 S=>gQ x v65 (.bool true) v77 λv78=>iQ v78 (aQ (.tuple [.lU,(.int .i64 (.ofNat 4))]) S K) (rG x v0 v1 v4 S K)) (bF 3 v1 λv79=>cU 15 v79 S λv80 S=>x.call EH [v80] S λv81 S=>JC .not v81 λv82=>iQ v82 (aQ (.tuple [.lU,(.int .i64 (.ofNat 4))]) S K) (rG x v0 v1 v4 S K))))
theorem Vy(x:VE)(a0 a1 a2:V):nV PP fT vU x [a0,a1,a2]=Ab x a0 a1 a2:=by kernel_rfl
def DR(x:VE)(t3 t5 t8:V):HK:=λS K=>
 fG S λS=>
 gG 18 t5 S λv1 S=>
 dC v1 λv2=>
 lK x x.most t3 t5 t8 v1 v2 (.int .i64 (.ofNat 0)) S K
theorem RT(x:VE)(hm:x.most≠0)(t3 t5 t8:V)(S:Hp)(K:KV):rG x t3 t5 t8 S K=DR x t3 t5 t8 S K:=(rM (hm:=hm) ..).trans (by kernel_rfl)
def rU(x:VE)(m0:Nat)(t3 t5 t8 t84 t85 t86:V):HK:=λS K=>
 fG S λS=>
 aD PP .lss 3 t86 t85 λv0=>
 iQ v0 (jM 2 t84 t86 λv1=>cU 2 v1 S λv2 S=>eI NI 75 S λv3 S=>mE 2 v3 v2 S λS=>gG 0 v3 S λv5 S=>aD PP .lss 3 v5 (.int .i64 (.ofNat 1)) λv6=>zE x v6 0 v3 S λv10 S=>zE x v6 4 t3 S λmL S=>jK x v6 (aD PP .gtr 3 v10 mL) S λuJ S=>gQ x v6 (.bool true) uJ λv17=>wF x v17 t86 S λBA S=>jK x v17 (aD PP .gtr 3 BA (.int .i64 (.ofNat 0))) S λv20 S=>wF x v17 v20 S λv21 S=>Av x v21 0 v3 S λv25 S=>Av x v21 18 t5 S λJP S=>BD x v21 t86 S λv30 S=>rW x v21 (aD PP .sub 3 v30 (.int .i64 (.ofNat 1))) S λv32 S=>rW x v21 (jM 2 JP v32) S λIG S=>Av x v21 0 IG S λXI S=>rW x v21 (aD PP .leq 3 v25 XI) S λv40 S=>jK x v17 (gQ x v21 v40 (.bool false)) S λFo S=>gQ x v17 (.bool true) Fo λIh=>XG x Ih 1 v3 .eql 9 (.str []) S λv50 S=>zE x v50 1 v3 S λv54 S=>jK x v50 (JA v54) S λv56 S=>jK x v50 (aD PP .gtr 3 v56 (.int .i64 (.ofNat 2048))) S λv58 S=>gQ x v50 (.bool true) v58 λv59=>iQ v59 (aQ (.tuple [.lU,(.int .i64 (.ofNat 4))]) S K) (aD PP .add 3 t86 (.int .i64 (.ofNat 1)) λv60=>lK x m0 t3 t5 t8 t84 t85 v60 S K)) (gG 19 t5 S λv62 S=>dC v62 λv63=>nL x x.most t5 t8 v62 v63 (.int .i64 (.ofNat 0)) S K)
theorem yY(x:VE)(m0:Nat)(t3 t5 t8 t84 t85 t86:V):lK x (m0+1) t3 t5 t8 t84 t85 t86=rU x m0 t3 t5 t8 t84 t85 t86:=by kernel_rfl
def rA(x:VE)(m0:Nat)(t5 t8 t130 t131 aA8:V):HK:=λS K=>
 fG S λS=>
 aD PP .lss 3 aA8 t131 λv0=>
 iQ v0 (jM 11 t130 aA8 λv1=>cU 11 v1 S λv2 S=>eI nS 37 S λv3 S=>mE 11 v3 v2 S λS=>cU 11 v3 S λv4 S=>x.call mJ [t8,v4] S λv5 S=>JC .not v5 λv6=>iQ v6 (aQ (.tuple [.lU,(.int .i64 (.ofNat 4))]) S K) (aD PP .add 3 aA8 (.int .i64 (.ofNat 1)) λv7=>nL x m0 t5 t8 t130 t131 v7 S K)) (bF 1 t5 λv8=>bJ v8 S λv9 S=>gG 18 t5 S λv11 S=>x.call eK [v11] S λv12 S=>bJ v8 S λpI _=>aT pI v9 (gM 14 t8 λuN=>mE 1 uN v9 S λS=>gM 16 t8 λv17=>mE 1 v17 v12 S λS=>aQ (.tuple [t8,(.int .i64 (.ofNat 0))]) S K))
theorem xF(x:VE)(m0:Nat)(t5 t8 t130 t131 aA8:V):nL x (m0+1) t5 t8 t130 t131 aA8=rA x m0 t5 t8 t130 t131 aA8:=by kernel_rfl
def OH(x:VE)(a0:V):HK:=λS K=>
 pO 68 a0 S λv0 S=>
 gG 14 v0 S λv2 S=>
 dC v2 λv3=>
 aD PP .eql 3 v3 (.int .i64 (.ofNat 0)) λv4=>
 Vk x v4 0 v0 .eql 3 (.int .i64 (.ofNat 0)) S λv11 S=>
 Vk x v11 1 v0 .eql 3 (.int .i64 (.ofNat 0)) S λBA S=>
 Vk x BA 2 v0 .eql 3 (.int .i64 (.ofNat 0)) S λv25 S=>
 Vk x v25 3 v0 .eql 3 (.int .i64 (.ofNat 0)) S λv32 S=>
 Vk x v32 4 v0 .eql 3 (.int .i64 (.ofNat 0)) S λv39 S=>
 Vk x v39 5 v0 .eql 3 (.int .i64 (.ofNat 0)) S λv46 S=>
 Vk x v46 6 v0 .eql 3 (.int .i64 (.ofNat 0)) S λv53 S=>
 Vk x v53 7 v0 .eql 9 (.str []) S λv60 S=>
 Vk x v60 8 v0 .eql 9 (.str []) S λv67 S=>
 Vk x v67 9 v0 .eql 3 (.int .i64 (.ofNat 0)) S λv74 S=>
 Vk x v74 10 v0 .eql 3 (.int .i64 (.ofNat 0)) S λv81 S=>
 Av x v81 11 v0 S λv85 S=>
 rW x v81 (JC .not v85) S λv87 S=>
 gQ x v81 v87 (.bool false) λv88=>
 Av x v88 12 v0 S λv92 S=>
 rW x v88 (JC .not v92) S λv94 S=>
 gQ x v88 v94 (.bool false) λv95=>
 Vk x v95 13 v0 .eql 9 (.str []) S λaQZ S=>
 aQ aQZ S K
theorem Ha(x:VE)(a0:V):nV PP fT EH x [a0]=OH x a0:=by kernel_rfl
def EX(x:VE)(a0:V):HK:=λS K=>
 eI Dg 71 S λv0 S=>
 aD PP .eql 25 a0 .lU λv1=>
 iQ v1 (fX Dg [] λv2=>mE 20 v0 v2 S λS=>cU 20 v0 S λv3 _=>aQ v3 S K) (gM 13 a0 λv5=>bJ v5 S λv6 S=>gM 14 a0 λv8=>bJ v8 S λv9 S=>gM 15 a0 λv11=>bJ v11 S λv12 S=>aD PP .neq 80 v12 .lU λpI=>gN 15 a0 S λuJ S=>gM 16 a0 λBA=>bJ BA S λyT S=>gM 17 a0 λv21=>bJ v21 S λv22 S=>x.call pG [uJ] S λv23 S=>bJ v21 S λv24 _=>aT v24 v22 (bJ BA S λv25 _=>aT v25 yT (bJ v11 S λv26 _=>aT v26 v12 (bJ v8 S λKQ _=>aT KQ v9 (bJ v5 S λv28 _=>aT v28 v6 (x.call eK [yT] S λJP S=>bJ v21 S λv30 _=>aT v30 v22 (bJ v11 S λv31 _=>aT v31 v12 (bJ v8 S λv32 _=>aT v32 v9 (bJ v5 S λv33 _=>aT v33 v6 (x.call dY [v22] S λIG S=>bJ v11 S λv35 _=>aT v35 v12 (bJ v8 S λXH _=>aT XH v9 (bJ v5 S λv37 _=>aT v37 v6 (fX Dg [(0,1,v6),(1,1,v9),(2,1,pI),(3,15,v23),(18,1,JP),(19,1,IG)] λXI=>mE 20 v0 XI S λS=>cU 20 v0 S λv39 _=>aQ v39 S K)))))))))))))
theorem TN(x:VE)(a0:V):nV PP fT nZ x [a0]=EX x a0:=by kernel_rfl
def IA(x:VE)(a0 a1 a2 a3:V):HK:=λS K=>
 x.call aJ [a0,a1,a2,a3,(.func qK [] [])] S λv0 S=>
 aQ v0 S K
theorem WS(x:VE)(a0 a1 a2 a3:V):nV PP fT sR x [a0,a1,a2,a3]=IA x a0 a1 a2 a3:=by kernel_rfl
def lQ(x:VE)(a0:V):HK:=λS K=>
 aD PP .eql 69 a0 .nil λv0=>
 iQ v0 (aQ .nil S K) (dN 75 0 NI [] S λv1 S=>qG 75 2 24 v1 a0 S λv2 S=>aQ v2 S K)
theorem tI(x:VE)(a0:V):nV PP fT eK x [a0]=lQ x a0:=by kernel_rfl
section
variable{M n b t m:Nat}{x:VE}{S:Hp}{K:KV}{ty:TypeId}{a:Ba}
def iL(s:Bs)(v:V):List V:=[.int .i64 s.h,.int .i64 s.n,.int .i64 s.t,.int .i64 s.me,.int .i64 s.rd,.int .i64 s.st,.int .i64 s.LY,.str s.lock,.str s.valid,.int .i64 s.yZ,.int .i64 s.nU,.bool s.prop,.bool s.seen,.str s.dec,v]
def stV(a:Ba)(O:Tag):V:= .agg (iL a.s (.list O (wT a.l) a.l.length))
theorem aEz{S':Hp}{s:Bs}{v:V}{l:List Vo}(hl:cP S' S)(hf:Au S' S v (.list (wT l) l.length))(hk:∀O,K (.agg (iL s (.list O (wT l) l.length))) S'):aQ (.agg (iL s v)) S K:=by
 refine⟨S',λO=> .agg (iL s (.list (O 14) (wT l) l.length)),hl,λO=> .agg ⟨rfl,λj v u e1 e2=>?_⟩,λO=>hk _⟩
 match j with
 | 14=>injection e1 with e1;injection e2 with e2;subst e1 e2;exact .dat hf
 | 0 | 1 | 2 | 3 | 4 | 5 | 6 | 7 | 8 | 9 | 10 | 11 | 12 | 13=>injection e1 with e1;injection e2 with e2;subst e1 e2;exact .keep _
 | j+15=>simp [iL]at e1
def zSt:List Value:=WK
def Rb:Bs:=⟨0,0,0,0,0,0,0,[],[],0,0,false,false,[]⟩
theorem aKZ(hx:DP M (n+2) x)(k:vP S b t m ty a)(hk:∀O,K (stV a O) S):x.call pG [.ptr b 0] S K:=by
 refine hx.call rfl λy hy=>?_;rw [BK];unfold tV gN gM;refine dQ (l:=iL Rb .nil) rfl λi hi=>?_;have eU:cP S (aM S i (.row (iL Rb .nil) 68)):= .aN hi;have ri:aM S i (.row (iL Rb .nil) 68) i=some (.row (iL Rb .nil) 68):=aB;generalize aM S i (.row (iL Rb .nil) 68)=S1 at eU ri;have k1:=k.le eU;refine JD EL ?_;rw [bG,if_neg (by simp)];simp only [aV,aG];rw [NB k1.row,fH (by simp [lM])];show eI zSt 68 S1 λv7 S=>mE 15 v7 (.agg (iL a.s .nil)) S _;refine dQ (l:=iL Rb .nil) rfl λj hj=>?_;refine gJ aB (by rfl) (by rfl) (by rfl) ?_;rw [cW];have XS:i≠j:=λe=>by rw [e,hj]at ri;cases ri
 have lA:cP S1 (aM S1 j (.row (iL a.s .nil) 68)):= .aN hj;have rj:aM S1 j (.row (iL a.s .nil) 68) j=some (.row (iL a.s .nil) 68):=aB;have Qz:=lA _ _ ri;generalize aM S1 j (.row (iL a.s .nil) 68)=S2 at lA rj Qz;have k2:=k1.le lA;have le:=eU.trans lA;have MD:LD b 15 S2 (.ptr t 0):=aZ k2.row;simp only [MD];obtain⟨l0,h1,h2,h3⟩:=k2.okl;have hs:=Dm k.inv.OJ h3
 have fin:∀(v:V) (S3:Hp),S3 i=some (.row (iL Rb .nil) 68)->S3 j=some (.row (iL a.s .nil) 68)->pN v=true->cP S S3->(∀S4,cP S S4->(∀q o,S3 q=some o->QW o=true->S4 q=some o)->Au S S4 v (.list (wT a.l) a.l.length))->
  mE 1 (.ptr j 14) v S3 λS=>cU 15 (.ptr j 0) S λpI S=>mE 15 (.ptr i 0) pI S λS=>cU 15 (.ptr i 0) S λmL _=>aQ mL S K:=by
  intro v S3 e1 e2 e3 e4 e5;refine nJ e2 e3 (by simp [iL]) ?_;refine eX aB (by rfl) ?_;refine gJ (by rw [aC XS];exact e1) (by simp [aE,iL,e3];exact⟨rfl,rfl,rfl,rfl,rfl,rfl,rfl,rfl,rfl,rfl,rfl,rfl,rfl,rfl⟩) (by rfl) (by rfl) ?_;refine eX aB (by rfl) ?_;have hi4:S i=none:=hi;have hj4:S j=none:=eU.none hj;refine aEz (l:=a.l) (EM (EM e4 hj4) hi4) (e5 _ (EM (EM e4 hj4) hi4) λq o q1 q2=>?_) hk;rw [aC (λq3=>by rw [q3,e1]at q1;injection q1 with q1;subst q1;cases q2),aC (λq3=>by rw [q3,e2]at q1;injection q1 with q1;subst q1;cases q2)];exact q1
 refine hy.yE (f:=fU) (g:=Do) rfl ⟨t,m,a.s.n.toNat,l0,rfl,h1,h2,by rw [hs];exact k.inv.OJ,λe=>?_,λe q hq=>?_⟩
 ·rw [hs]at e
  refine fin .nil S2 Qz rj rfl le λS4 q1 _=>?_;rw [e];exact .nil
 ·rw [hs]
  refine fin (.acc q a.l.length) _ (by rw [aC (λe=>by rw [<-e,Qz]at hq;cases hq)];exact Qz) (by rw [aC (λe=>by rw [<-e,rj]at hq;cases hq)];exact rj) rfl (EM le (le.none hq)) λS4 q1 q2=>?_;refine .acc (q2 q _ aB rfl) (le.none hq) (by rw [Wh,JU]) λz v d e1 e2=>?_;rw [aIH a.l (.root 0),jA,e2]at e1;injection e1 with e1;subst e1;exact .T
end
end Go.Am
