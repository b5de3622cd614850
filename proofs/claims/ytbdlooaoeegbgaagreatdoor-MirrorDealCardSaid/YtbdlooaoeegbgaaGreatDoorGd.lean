/- VM: maps. -/
import Derived.Test.YtbdlooaoeegbgaaGreatDoorGc
import Derived.Test.YtbdlooaoeegbgaaGreatDoorGb
import GoSem.ClaimJoined
import Derived.OpenShut
import Derived.LaidMore
import Derived.SizedLaws
import Derived.Stop.Joined
import Derived.Handed

namespace Go.Am
open Go.RowKit Go.MapKept
section
variable{P:Program}{B:Nat->Prop}{Sb:St}{c c' d:Cx}{h h':Hp}{Sz S':St}{C C':Nat->Prop}
theorem Je (k:IntKind):vN k k=true:=by cases k<;>rfl
theorem aAX{t:TypeId}{ct:CT} (h:PT P t=some ct):lV P t=true:=by
 unfold PT at h;unfold lV;split at h<;>simp_all
theorem aDs{t:TypeId}{ct:CT} (hc:PT P t=some ct){a b:V}{a' b':Value} (ha:dX c Sz C a a') (hb:dX c Sz C b b') (oa:Tg ct a) (ob:Tg ct b) (k:Bool->Bool):∃e:Bool,(e=true↔a=b)/\pK P t a' b' k=k e:=by
 unfold PT at hc;split at hc
 ·rename_i ik hu
  injection hc with hc;subst hc;cases ha<;>try (cases oa;done)
  rename_i j x;cases hb<;>try (cases ob;done)
  rename_i j' y;have oa:j=ik:=oa;have ob:j'=ik:=ob;subst oa ob;refine⟨Jj x y,?_,?_⟩
  ·rw [DK]
   constructor
   ·intro h;rw [beq_iff_eq.1 h]
   ·intro h;injection h with _ h;subst h;simp
  ·unfold pK
   simp only [hu,Je,kH]
 ·rename_i hu
  injection hc with hc;subst hc;cases ha<;>try (cases oa;done)
  rename_i x;cases hb<;>try (cases ob;done)
  rename_i y;refine⟨TE x y,?_,?_⟩
  ·rw [DL]
   constructor
   ·intro h;rw [beq_iff_eq.1 h]
   ·intro h;injection h with h;subst h;simp
  ·unfold pK
   simp only [hu,kH]
 ·rename_i hu
  injection hc with hc;subst hc;cases ha<;>try (cases oa;done)
  rename_i x;cases hb<;>try (cases ob;done)
  rename_i y;refine⟨x==y,?_,?_⟩
  ·constructor
   ·intro h;rw [beq_iff_eq.1 h]
   ·intro h;injection h with h;subst h;simp
  ·unfold pK
   simp only [hu,kH]
 ·cases hc
theorem aAY{k:Bool->Bool}:∀{fs:List Field} {l:List CT} {a b:List V} {a' b':List Value},BI P fs=some l->iT c Sz C a a'->iT c Sz C b b'->NJ l a->NJ l b->∃e:Bool,(e=true↔a=b)/\BW P fs a' b' k=k e:=by
 intro fs;induction fs with
 | nil=>
  intro l a b a' b' hl ha hb oa ob;simp [BI]at hl;subst hl;cases a with
  | cons=>cases oa
  | nil=>cases b with
   | cons=>cases ob
   | nil=>exact⟨true,by simp,rfl⟩
 | cons f fs ih=>
  intro l a b a' b' hl ha hb oa ob;unfold BI at hl;split at hl
  ·rename_i ct hct
   split at hl
   ·rename_i l' hl'
    injection hl with hl;subst hl;cases a with
    | nil=>cases oa
    | cons x a=>cases b with
     | nil=>cases ob
     | cons y b=>
      obtain⟨x',a'',rfl,rx,ra⟩:=ha.cons_inv;obtain⟨y',b'',rfl,ry,rb⟩:=hb.cons_inv;obtain⟨e2,g3,g4⟩:=ih hl' ra rb oa.2 ob.2;obtain⟨e1,g1,g2⟩:=aDs hct rx ry oa.1 ob.1 (fun e=>match e with | true=>BW P fs a'' b'' k | false=>k false);refine⟨e1&&e2,?_,?_⟩
      ·rw [Bool.and_eq_true,g1,g3];simp
      ·show pK P f.type x' y' (fun e=>match e with | true=>BW P fs a'' b'' k | false=>k false)=_
       rw [g2];cases e1 with
       | true=>exact g4
       | false=>rfl
   ·cases hl
  ·cases hl
theorem aGZ{t:TypeId}{sh:KSh} (hs:keyS P t=some sh){a b:V}{a' b':Value} (ha:dX c Sz C a a') (hb:dX c Sz C b b') (oa:XZ sh a) (ob:XZ sh b) (k:Bool->Bool):∃e:Bool,(e=true↔a=b)/\xM P t a' b' k=k e:=by
 unfold keyS at hs;split at hs
 ·rename_i ct hct
  injection hs with hs;subst hs;obtain⟨e,g1,g2⟩:=aDs hct ha hb oa ob k;refine⟨e,g1,?_⟩;rw [<-g2];unfold xM;split
  ·rename_i xs ys
   cases ha<;>cases ct<;>cases oa
  ·rfl
 ·split at hs
  ·rename_i fs hfs
   split at hs
   ·rename_i l hl
    injection hs with hs;subst hs;cases ha<;>try (cases oa;done)
    cases hb<;>try (cases ob;done)
    rename_i xs xs' la rxa ys ys' lb ryb;obtain⟨e,g1,g2⟩:=aAY (k:=k) hl ⟨la,rxa⟩ ⟨lb,ryb⟩ oa ob;refine⟨e,?_,?_⟩
    ·rw [g1];simp
    ·show lW P t (.agg ⟨xs'⟩) (.agg ⟨ys'⟩) k=_
     unfold lW;simp only [hfs];exact g2
   ·cases hs
  ·cases hs
theorem Qj{ct:CT}{v:V}{w:Value} (r:dX c Sz C v w) (o:Tg ct v):aY w=true:=by
 cases r<;>first | rfl | (cases ct<;>cases o)
theorem aAZ:∀{l:List CT} {a:List V} {a':List Value},iT c Sz C a a'->NJ l a->a'.all aY=true/\a'.length=l.length:=by
 intro l;induction l with
 | nil=>intro a a' r o;cases a with | cons=>cases o | nil=>rw [r.uM];exact⟨rfl,rfl⟩
 | cons ct l ih=>
  intro a a' r o;cases a with
  | nil=>cases o
  | cons x a=>
   obtain⟨x',a'',rfl,rx,ra⟩:=r.cons_inv;obtain⟨h1,h2⟩:=ih ra o.2;exact⟨by simp [Qj rx o.1,h1],by simp [h2]⟩
theorem Jf:∀{fs:List Field} {l:List CT},BI P fs=some l->fs.length=l.length:=by
 intro fs;induction fs with
 | nil=>intro l h;simp [BI]at h;subst h;rfl
 | cons f fs ih=>
  intro l h;unfold BI at h;split at h
  ·split at h
   ·rename_i hl;injection h with h;subst h;simp [ih hl]
   ·cases h
  ·cases h
theorem Jg{t:TypeId}{sh:KSh} (hs:keyS P t=some sh){a:V}{a':Value} (ha:dX c Sz C a a') (oa:XZ sh a):ES P t a'=true:=by
 unfold keyS at hs;split at hs
 ·rename_i ct hct
  injection hs with hs;subst hs;have hf:=Qj ha oa;have h1:fX a'=true:=by cases a'<;>first | exact hf | (simp [aY]at hf)
  unfold ES;simp only [h1,aAX hct]
 ·rename_i hn
  split at hs
  ·rename_i fs hfs
   split at hs
   ·rename_i l hl
    injection hs with hs;subst hs;cases ha<;>try (cases oa;done)
    rename_i xs xs' la rxa;obtain⟨h1,h2⟩:=aAZ ⟨la,rxa⟩ oa;have h1:fX (.agg ⟨xs'⟩)=true:=h1;unfold ES;have h3:Nat.ble fs.length xs'.length=true:=Nat.ble_eq_true_of_le (by rw [Jf hl,h2];exact Nat.le_refl _);simp only [h1];cases lV P t with
    | true=>rfl
    | false=>simp only [hfs,h3]
   ·cases hs
  ·cases hs
theorem bytes_beq (l:List UInt8):((⟨⟨l⟩⟩:ByteArray)==⟨⟨l⟩⟩)=true:=by
 show ByteArray.beq ⟨⟨l⟩⟩ ⟨⟨l⟩⟩=true;unfold ByteArray.beq;simp
theorem Qk{n:Nat}{ct:CT}{v:V}{w:Value} (r:dX c Sz C v w) (o:Tg ct v):Instr.sameBits n w w=true:=by
 cases r<;>first | (cases ct<;>cases o;done) | (cases n<;>first | exact bytes_beq _ | (simp [Instr.sameBits];done))
theorem aA0{n:Nat}:∀{l:List CT} {a:List V} {a':List Value},iT c Sz C a a'->NJ l a->((a'.zip a').all fun(x,y)=>Instr.sameBits n x y)=true:=by
 intro l;induction l with
 | nil=>intro a a' r o;cases a with | cons=>cases o | nil=>rw [r.uM];rfl
 | cons ct l ih=>
  intro a a' r o;cases a with
  | nil=>cases o
  | cons x a=>
   obtain⟨x',a'',rfl,rx,ra⟩:=r.cons_inv;simp [Qk rx o.1];have:=ih ra o.2;simpa using this
theorem aCL{sh:KSh}{a:V}{a':Value} (ha:dX c Sz C a a') (oa:XZ sh a) (n:Nat):Instr.sameBits (n+1) a' a'=true:=by
 cases sh with
 | one ct=>exact Qk ha oa
 | many l=>
  cases ha<;>try (cases oa;done)
  rename_i xs xs' la rxa;have:=aA0 (n:=n) (⟨la,rxa⟩:iT c Sz C xs xs') oa;simp only [Instr.sameBits];simpa using this
def EsR (c:Cx) (Sz:St) (C:Nat->Prop) (es:List (V×V)) (es':List MapEntry):Prop:=es.length=es'.length/\∀(k:Nat) (x:V×V) (y:MapEntry),es[k]? =some x->es'[k]? =some y->dX c Sz C x.1 y.key/\dX c Sz C x.2 y.val
theorem EsR.tail{x:V×V}{y:MapEntry}{es:List (V×V)}{es':List MapEntry} (r:EsR c Sz C (x::es) (y::es')):EsR c Sz C es es':=⟨by simpa using r.1,fun k a b p q=>r.2 (k+1) a b (by simpa using p) (by simpa using q)⟩
theorem Jh{t:TypeId}{sh:KSh} (hs:keyS P t=some sh){a:V}{a':Value} (ha:dX c Sz C a a') (oa:XZ sh a) (k:Option (Nat×MapEntry)->Bool):∀{es:List (V×V)} {es':List MapEntry} (i:Nat),EsR c Sz C es es'->(∀e∈es,XZ sh e.1)->
 (Il es a=none/\(∀x,Dr es a x=es++[(a,x)])/\eH (β:=Nat->Bool) (fun _=>k none) (fun e _ ih i=>xM P t a' e.key fun b=>match b with | true=>k (some (i,e)) | false=>bA (Nat.succ i) ih) es' i=k none)\/
 ∃j v e',Il es a=some v/\es'[j]? =some e'/\e'.key=a'/\dX c Sz C v e'.val/\(∀x,Dr es a x=es.set j (a,x))/\eH (β:=Nat->Bool) (fun _=>k none) (fun e _ ih i=>xM P t a' e.key fun b=>match b with | true=>k (some (i,e)) | false=>bA (Nat.succ i) ih) es' i=k (some (i+j,e')):=by
 intro es;induction es with
 | nil=>
  intro es' i r ho;have:es'=[]:=List.eq_nil_of_length_eq_zero (by simpa using r.1.symm);subst this;exact .inl ⟨rfl,fun x=>rfl,rfl⟩
 | cons x es ih=>
  intro es' i r ho;cases es' with
  | nil=>have:=r.1;simp at this
  | cons y es'=>
   have r0:=r.2 0 x y rfl rfl;rw [aW];obtain⟨e,g1,g2⟩:=aGZ hs ha r0.1 oa (ho x (.head _)) (fun b=>match b with | true=>k (some (i,y)) | false=>bA (Nat.succ i) (eH (β:=Nat->Bool) (fun _=>k none) (fun e _ ih i=>xM P t a' e.key fun b=>match b with | true=>k (some (i,e)) | false=>bA (Nat.succ i) ih) es'));rw [g2];by_cases he:a=x.1
   ·have:e=true:=g1.2 he
    subst this;refine .inr ⟨0,x.2,y,by simp [Il,he],rfl,?_,r0.2,fun z=>by simp [Dr,he],rfl⟩;have:=r0.1;rw [<-he]at this;exact this.fn ha
   ·have:e=false:=by cases e with | false=>rfl | true=>exact absurd (g1.1 rfl) he
    subst this;rw [aT];rcases ih (i+1) r.tail (fun e he=>ho e (.tail _ he))with ⟨q1,q2,q3⟩ | ⟨j,v,e',q1,q2,q3,q4,q5,q6⟩
    ·exact .inl ⟨by simp [Il,he,q1],fun z=>by simp [Dr,he,q2 z],q3⟩
    ·refine .inr ⟨j+1,v,e',by simp [Il,he,q1],by simpa using q2,q3,q4,fun z=>by simp [Dr,he,q5 z],?_⟩
     rw [show i+(j+1)=i+1+j by omega];exact q6
theorem VS.map (s:VS P B Sb c h Sz){i:Nat}{es:List (V×V)} (e:h i=some (.map es)):∃b es' ck,c.Zz i=some b/\Sz.obj b=some (.map es' ck)/\EsR c Sz (cJ B c h) es es':=by
 obtain⟨b,a,a1,a2,a3,a4,es',ck,rfl,_,a5,a6⟩:=s.ob i _ e rfl;exact⟨b,es',ck,a1,a4,a5,a6⟩
theorem VS.aHV (s:VS P B Sb c h Sz){i:Nat}{es:List (V×V)} (e:h i=some (.map es)):∃b es' ck,c.Zz i=some b/\Sz.obj b=some (.map es' ck)/\EsR c Sz (cJ B c h) es es'/\EK es' ck:=by
 obtain⟨b,a,a1,a2,a3,a4,es',ck,rfl,a7,a5,a6⟩:=s.ob i _ e rfl;exact⟨b,es',ck,a1,a4,⟨a5,a6⟩,a7⟩
theorem aA1{b:Nat}{es:List MapEntry}{ck:Nat} (e:Sz.obj b=some (.map es ck)) (k:Option Nat->List MapEntry->Nat->Bool):An Sz (.map (some b)) k=k (some b) es ck:=by
 show nY Sz.h b _=_;rw [mO];have e:Sz.h.get b=some (.map es ck):=e;rw [e]
theorem Tx (s:VS P B Sb c h Sz){t kt et:TypeId}{sh:KSh}{z:Value}{zv:V}{ok:Bool} (ht:FJ P t=some (kt,et)) (hs:keyS P kt=some sh) (hz:zeroV P et=some z) (hzv:ofC z=some zv){m a:V}{w u:Value} (r:dX c Sz (cJ B c h) m w) (q:dX c Sz (cJ B c h) a u){Kv:KV}{K:VK} (k:KR P B Sb c h Sz Kv K) (hv:aAn sh zv ok m a h Kv):IC P t w u ok Sz K=true:=by
 unfold aAn at hv;split at hv
 ·rename_i i
  cases r with
  | LF hZ=>
   split at hv
   ·rename_i es e
    obtain⟨oa,ho,hv1,hv2⟩:=hv;obtain⟨b,es',ck,a1,a2,a3⟩:=s.map e;rw [hZ]at a1;injection a1 with a1;subst a1;obtain⟨hf,rz⟩:=aAC (c:=c) (Sz:=Sz) (C:=cJ B c h) hzv;unfold IC;simp only [ht,hz,Jg hs q oa];rw [aA1 a2];unfold QA
    rcases Jh hs q oa (fun r=>match(generalizing:=false) r with
     | some (_,e)=>match(generalizing:=false) ok with | true=>K (.tuple ⟨[e.val,.bool true]⟩) Sz | false=>K e.val Sz
     | none=>match(generalizing:=false) fX z with
      | true=>match(generalizing:=false) ok with | true=>K (.tuple ⟨[z,.bool false]⟩) Sz | false=>K z Sz
      | false=>false) 0 a3 ho with ⟨q1,_,q3⟩ | ⟨j,v,e',q1,q2,q3,q4,_,q6⟩
    ·refine q3.trans ?_
     simp only [hf];cases ok with
     | true=>exact k.here s (.tuple (iT.cons rz (.cons .bool .nil)).len (iT.cons rz (.cons .bool .nil)).rd) (hv2 q1)
     | false=>exact k.here s rz (hv2 q1)
    ·refine q6.trans ?_
     cases ok with
     | true=>exact k.here s (.tuple (iT.cons q4 (.cons .bool .nil)).len (iT.cons q4 (.cons .bool .nil)).rd) (hv1 v q1)
     | false=>exact k.here s q4 (hv1 v q1)
   ·cases hv
 ·cases hv
theorem Mv (s:VS P B Sb c h Sz){t kt et:TypeId}{sh:KSh} (ht:FJ P t=some (kt,et)) (hs:keyS P kt=some sh){m a x:V}{w u y:Value} (r:dX c Sz (cJ B c h) m w) (q:dX c Sz (cJ B c h) a u) (rx:dX c Sz (cJ B c h) x y){Kv:KV}{K:VK} (k:KR P B Sb c h Sz Kv K) (hv:Mg sh m a x h fun h=>Kv WC h):vQ P t w u y Sz (fun Sz=>K undef Sz)=true:=by
 unfold Mg at hv;split at hv
 ·rename_i i
  cases r with
  | LF hZ=>
   split at hv
   ·rename_i es e
    obtain⟨oa,ho,hv⟩:=hv;obtain⟨b,es',ck,a1,a2,a3,a8⟩:=s.aHV e;have a1':=a1;rw [hZ]at a1;injection a1 with a1;subst a1;unfold vQ;simp only [ht,Jg hs q oa];rw [aA1 a2];simp only;unfold QA
    have fin:∀es2 ck2,EK es2 ck2->EsR c Sz (cJ B c h) (Dr es a x) es2->K undef (Sz.set _ (.map es2 ck2))=true:=fun es2 ck2 b2 r2=>by
     obtain⟨s1,f1⟩:=s.Iq e rfl hZ (o:= .map (Dr es a x)) rfl (ao:= .map es2 ck2) fun S' C' f=>⟨es2,ck2,rfl,b2,r2.1,fun k x y p q=>⟨(r2.2 k x y p q).1.mono (.refl c) f,(r2.2 k x y p q).2.mono (.refl c) f⟩⟩;exact k c _ _ WC undef (.refl c) f1 s1 (.tuple (a':=[]) rfl fun k v w e=>by simp at e) hv
    rcases Jh hs q oa (fun f=>match f with
     | some (i,e)=>match Instr.sameBits 10000 e.key u with
      | true=>Nb {e with val:=y} es' i fun es=>mS Sz _ (.map es ck) fun Sz=>K undef Sz
      | false=>false
     | none=>wP es' [{key:=u,val:=y,born:=ck}] fun es=>bA (Nat.succ ck) fun c=>mS Sz _ (.map es c) fun Sz=>K undef Sz) 0 a3 ho with ⟨q1,q2,q3⟩ | ⟨j,v,e',q1,q2,q3,q4,q5,q6⟩
    ·refine q3.trans ?_
     rw [jB,aT,eQ];refine fin _ _ (a8.app rfl) ?_;rw [q2 x];refine⟨by simp [a3.1],fun k p p' e1 e2=>?_⟩;by_cases hk:k<es.length
     ·rw [List.getElem?_append_left hk]at e1
      rw [List.getElem?_append_left (by rw [<-a3.1];exact hk)]at e2;exact a3.2 k p p' e1 e2
     ·rw [List.getElem?_append_right (by omega)]at e1
      rw [List.getElem?_append_right (by rw [<-a3.1];omega),<-a3.1]at e2;cases hq:k-es.length with
      | zero=>
       rw [hq]at e1 e2;simp at e1 e2;subst e1 e2;exact⟨q,rx⟩
      | succ n=>rw [hq]at e1;simp at e1
    ·refine q6.trans ?_
     simp only [Nat.zero_add,q3];rw [aCL q oa 9999];simp only;rw [TL,eQ];refine fin _ _ (a8.set q2 rfl) ?_;rw [q5 x];refine⟨by simp [a3.1],fun k p p' e1 e2=>?_⟩;by_cases hk:k=j
     ·subst hk
      rw [List.getElem?_set,if_pos rfl]at e1 e2;split at e1
      ·rename_i hlt
       rw [if_pos (by rw [<-a3.1];exact hlt)]at e2;injection e1 with e1;injection e2 with e2;subst e1 e2;exact⟨q,rx⟩
      ·cases e1
     ·rw [List.getElem?_set_ne (Ne.symm hk)]at e1 e2
      exact a3.2 k p p' e1 e2
   ·cases hv
 ·cases hv
theorem Ja (s:VS P B Sb c h Sz){Kv:KV}{K:VK} (k:KR P B Sb c h Sz Kv K) (hv:Qd h Kv):sH Sz (.map [] 0) (fun i Sz=>K (.map (some i)) Sz)=true:=by
 obtain⟨i,e1,e2,e3⟩:=s.fresh;obtain⟨s1,l1,f1,i1⟩:=s.aAy e1 e2 e3 (o:= .map []) (ao:= .map [] 0) rfl fun _ _ _ _ _=>⟨[],0,rfl,⟨.nil,fun e he=>by cases he⟩,rfl,fun k x y p=>by simp at p⟩;rw [fO];exact k _ _ _ _ _ l1 f1 s1 (.LF i1) (hv i e1)
theorem aAQ{op:BinOp}{t:TypeId}{a b:V}{u w:Value} (r:dX c Sz C a u) (q:dX c Sz C b w){Kv:V->Prop}{K:Value->Bool} (k:∀v w,dX c Sz C v w->Kv v->K w=true) (hv:Sm P op t a b Kv):Vx P op t u w K=true:=by
 rw [DY];unfold Sm at hv;split at hv
 ·rename_i l hl
  cases r<;>try (cases hv;done)
  rename_i xs xs' la rxa;cases q<;>try (cases hv;done)
  rename_i ys ys' lb ryb;obtain⟨ox,oy,hv⟩:=hv;unfold keyS at hl;split at hl
  ·cases hl
  ·split at hl
   ·rename_i fs hfs
    split at hl
    ·rename_i l' hl'
     injection hl with hl;injection hl with hl;subst hl
     have eq:∀kk:Bool->Bool,∃e:Bool,(e=true↔xs=ys)/\lW P t (.agg ⟨xs'⟩) (.agg ⟨ys'⟩) kk=kk e:=fun kk=>by
      obtain⟨e,g1,g2⟩:=aAY (k:=kk) hl' ⟨la,rxa⟩ ⟨lb,ryb⟩ ox oy;refine⟨e,g1,?_⟩;unfold lW;simp only [hfs];exact g2
     cases op<;>first | (cases hv;done) | skip
     ·show lW P t (.agg ⟨xs'⟩) (.agg ⟨ys'⟩) (fun e=>kL e K)=true
      obtain⟨e,g1,g2⟩:=eq fun e=>kL e K;rw [g2,oP];cases e with
      | true=>exact k _ _ .bool (hv.1 (g1.1 rfl))
      | false=>exact k _ _ .bool (hv.2 fun h=>by have:=g1.2 h;cases this)
     ·show lW P t (.agg ⟨xs'⟩) (.agg ⟨ys'⟩) (fun e=>kL (!e) K)=true
      obtain⟨e,g1,g2⟩:=eq fun e=>kL (!e) K;rw [g2,oP];cases e with
      | true=>exact k _ _ .bool (hv.1 (g1.1 rfl))
      | false=>exact k _ _ .bool (hv.2 fun h=>by have:=g1.2 h;cases this)
    ·cases hl
   ·cases hl
 ·cases hv
end
section
variable{P:Program}{B:Nat->Prop}{Sb:St}{c c' d:Cx}{h h':Hp}{Sz S':St}{C C':Nat->Prop}
theorem Eb (s:VS P B Sb c h Sz) (l:bE h' h){O:Nat->Tag} (le:c.le d) (e:cJ B d h'=cJ B c h'){vs us:List V}{ws:List Value} (ht:∀(k:Nat) (w:Value),ws[k]? =some w->HX d Sz (cJ B d h') (O k) w)
 (r:iT c Sz (cJ B c h) vs ws) (hf:FzL h' h O vs us):iT d Sz (cJ B d h') us ws:=by
 have f2:vG (cJ B c h) Sz Sz (cJ B d h'):=by rw [e];exact(s.drop l).2
 obtain⟨g1,g2⟩:=hf;refine⟨by rw [g1];exact r.len,fun k u w e1 e2=>?_⟩;have hk:k<vs.length:=by rw [<-g1];exact(List.getElem?_eq_some_iff.1 e1).1
 have ev:=List.getElem?_eq_getElem hk;have hr:=r.rd k _ w ev e2;have hz:=g2 k _ u ev e1;cases hz with
 | keep=>exact hr.mono le f2
 | dat hfz=>
  have:=s.Ox l hfz hr;exact aE2 (by rw [e];exact this) (ht k w e2)
def Iy:Value->List Value
 | .agg ⟨l⟩=>l
 | .tuple ⟨l⟩=>l
 | w=>[w]
theorem aE3 (s:VS P B Sb c h Sz) (l:bE h' h){v:V}{w:Value}{u:(Nat->Tag)->V} (r:dX c Sz (cJ B c h) v w) (hf:∀O,Fz h' h O v (u O)):
 ∃d O,c.le d/\VS P B Sb d h' Sz/\vG (cJ B c h) Sz Sz (cJ B d h')/\dX d Sz (cJ B d h') (u O) w:=by
 obtain⟨s1,f1⟩:=s.drop l;obtain⟨d,O,le,s2,e,ht⟩:=s1.names (Iy w);have f2:vG (cJ B c h) Sz Sz (cJ B d h'):=by rw [e];exact f1
 refine⟨d,O,le,s2,f2,?_⟩;have hz:=hf O;generalize u O=x at hz;cases hz with
 | one hz=>
  cases hz with
  | keep=>exact r.mono le f2
  | dat hfz=>
   have hd:=s.Ox l hfz r;have hp:Iy w=[w]:=by cases hd<;>rfl
   exact aE2 (by rw [e];exact hd) (ht 0 w (by rw [hp];rfl))
 | agg hz=>
  cases r with
  | agg la ha=>
   have:=Eb s l le e ht ⟨la,ha⟩ hz;exact .agg this.len this.rd
 | tup hz=>
  cases r with
  | tuple la ha=>
   have:=Eb s l le e ht ⟨la,ha⟩ hz;exact .tuple this.len this.rd
structure ER (P:Program) (B:Nat->Prop) (Sb:St) (Ev:VE) (E:Env):Prop where
 eP:E.P=P
 eM:Ev.most=E.most
 eC:∀(f:FuncId) {args:List V} {ws:List Value} {c:Cx} {h:Hp} {Sz:St} {Kv:KV} {K:VK},VS P B Sb c h Sz->iT c Sz (cJ B c h) args ws->KR P B Sb c h Sz Kv K->Ev.C f args h Kv->E.call f ws Sz K=true
 eR:∀(l b:Nat) {args:List V} {ws:List Value} {c:Cx} {h:Hp} {Sz:St} {Kv:KV} {K:VK},VS P B Sb c h Sz->c.Zz l=some b->iT c Sz (cJ B c h) args ws->KR P B Sb c h Sz Kv K->Ev.R l args h Kv->E.round b ws Sz K=true
theorem ER.call'{Ev:VE}{E:Env} (r:ER P B Sb Ev E) (f:FuncId){args:List V}{ws:List Value}{Kv:KV}{K:VK} (s:VS P B Sb c h Sz) (ra:iT c Sz (cJ B c h) args ws) (k:KR P B Sb c h Sz Kv K) (hv:Ev.call f args h Kv):E.call f ws Sz K=true:=by
 obtain⟨h',us,l,hf,hv⟩:=hv;obtain⟨s1,f1⟩:=s.drop l;obtain⟨d,O,le,s2,e,ht⟩:=s1.names ws;have f2:vG (cJ B c h) Sz Sz (cJ B d h'):=by rw [e];exact f1
 exact r.eC f s2 (Eb s l le e ht ra (hf O)) (fun c' h' S' v w a b=>k c' h' S' v w (le.trans a) (f2.trans b)) (hv O)
theorem Tw{Ev:VE}{E:Env} (r:ER P B Sb Ev E){A:VA}{A':aO} (s:VS P B Sb c h Sz) (a:AR c Sz (cJ B c h) A A'){cl:Call}{Kv:KV}{K:VK} (k:KR P B Sb c h Sz Kv K) (hv:(aAr P cl).f Ev A h Kv):iQ E A' cl Sz K=true:=by
 have hP:=r.eP;subst hP;unfold aAr at hv;split at hv
 ·rename_i hc
  split at hv
  ·rename_i t x ht ha
   unfold iQ;rw [hc,ha,ht];simp only [FV,aW,oO];split at hv
   ·rename_i _ _ e hs
    refine bG a hv fun v w rv hv=>?_;rw [Vt hs];exact Tt s rv (fun v w rv h=>k.here s rv h) hv
   ·rename_i _ _ hs hu
    refine bG a hv fun v w rv hv=>?_;rw [Vu hu];exact Tu rv (fun v w rv h=>k.here s rv h) hv
   ·cases hv
  ·cases hv
 ·rename_i hc
  split at hv
  ·rename_i sT xT x y ht ha
   unfold iQ;rw [hc,ha,ht];simp only [FV,aW,oO];split at hv
   ·rename_i el hs hx
    split at hv
    ·rename_i info hi
     split at hv
     ·rename_i n z hn hz
      split at hv
      ·rename_i hzs hsz
       have hsz:bL E.P el=some (n+1):=by
        have:=Nat.eq_of_beq_eq_true hsz;cases hq:bL E.P el with
        | none=>rw [hq]at this;simp at this
        | some m=>rw [hq]at this;simp at this;rw [this]
       refine bG a hv fun v w rv hv=>?_;refine bG a hv fun v2 w2 ON hv=>?_;show DJ E.P [sT,xT] w w2 Sz K=true;rw [YV hs hx hi hn hz hzs];exact aAJ s (by omega) hsz rv ON k hv
      ·cases hv
     ·cases hv
    ·cases hv
   ·cases hv
  ·cases hv
 ·rename_i hc
  split at hv
  ·rename_i x y ha
   unfold iQ;rw [hc,ha];simp only [FV,aW,oO];refine bG a hv fun v w rv hv=>?_;refine bG a hv fun v2 w2 ON hv=>?_;exact Ix (big:=false) rv ON (fun v w rv h=>k.here s rv h) hv
  ·cases hv
 ·rename_i hc
  split at hv
  ·rename_i x y ha
   unfold iQ;rw [hc,ha];simp only [FV,aW,oO];refine bG a hv fun v w rv hv=>?_;refine bG a hv fun v2 w2 ON hv=>?_;exact Ix (big:=true) rv ON (fun v w rv h=>k.here s rv h) hv
  ·cases hv
 ·rename_i hc
  split at hv
  ·rename_i t x ht ha
   unfold iQ;rw [hc,ha,ht];simp only [FV,aW,oO];split at hv
   ·rename_i el hs
    split at hv
    ·rename_i m zero hsz hz
     split at hv
     ·rename_i hl hf
      refine bG a hv fun v w rv hv=>?_;exact Mt s hs hsz hz hl hf rv (fun h' S' f s' hv=>k c h' S' WC (.tuple #[]) (.refl c) f s' (.tuple (a':=[]) rfl fun k v w e=>by simp at e) hv) hv
     ·cases hv
    ·cases hv
   ·cases hv
  ·cases hv
 ·rename_i hc
  split at hv
  ·rename_i dT ts x y ht ha
   unfold iQ;rw [hc,ha,ht];simp only [FV,aW,oO];split at hv
   ·rename_i el hs
    split at hv
    ·rename_i m hsz
     refine bG a hv fun v w rv hv=>?_;refine bG a hv fun v2 w2 ON hv=>?_;exact Tv (ts:=ts) s hs hsz rv ON k hv
    ·cases hv
   ·cases hv
  ·cases hv
 ·cases hv
 ·rename_i f hc
  unfold iQ;rw [hc];refine OF a hv fun vs ws ra hv=>?_;refine bG a hv fun v w rv hv=>?_;unfold rL at hv;split at hv
  ·cases rv with
   | func la ld ha hd=>
    show(wP _ ws fun l=>wP l _ fun l=>E.call _ l Sz K)=true;rw [jB,jB];exact r.call' _ s ((iT.app ⟨la,ha⟩ ra).app ⟨ld,hd⟩) k hv
  ·cases rv with
   | yield e=>exact r.eR _ _ s e ra k hv
  ·cases hv
 ·rename_i rc m hc
  unfold iQ;rw [hc];refine OF a hv fun vs ws ra hv=>?_;refine bG a hv fun v w rv hv=>?_;unfold aGO at hv;split at hv
  ·rename_i t v'
   split at hv
   ·rename_i g hg
    cases rv with
    | iface rv=>
     show(match yU E.P t m with | some g=>E.call g _ Sz K | none=>false)=true;rw [hg];exact r.call' _ s (.cons rv ra) k hv
   ·cases hv
  ·cases hv
theorem BL{A:VA}{A':aO} (a:AR c Sz C A A'){x:Option Operand}{k:Option V->Prop}{k':Option Value->Bool} (hv:(evO x).f A k) (hk:∀o o',OR' c Sz C o o'->k o->k' o'=true):KN A' x k'=true:=by
 cases x with
 | none=>exact hk _ _ .none hv
 | some x=>exact bG a hv fun v w rv hv=>hk _ _ (.some rv) hv
theorem Mu{A:VA}{A':aO} (s:VS P B Sb c h Sz) (a:AR c Sz (cJ B c h) A A'){Ev:VE}{t:TypeId}{x:Operand}{lo hi mx:Option Operand}{Kv:KV}{K:VK} (k:∀v w,dX c Sz (cJ B c h) v w->Kv v h->K w Sz=true) (hv:(Mi P t x lo hi mx).f Ev A h Kv):
 oN A' x (fun x=>KN A' lo fun lo=>KN A' hi fun hi=>KN A' mx fun mx=>nZ P t x lo hi mx Sz fun v=>K v Sz)=true:=by
 unfold Mi at hv;split at hv
 ·rename_i el he
  split at hv
  ·rename_i size hs
   refine bG a hv fun v w rv hv=>?_;refine BL a hv fun o1 o1' r1 hv=>?_;refine BL a hv fun o2 o2' r2 hv=>?_;refine BL a hv fun o3 o3' r3 hv=>?_;exact aAN s he hs rv r1 r2 r3 k hv
  ·cases hv
 ·split at hv
  ·rename_i hu
   split at hv
   ·refine bG a hv fun v w rv hv=>?_
    refine BL a hv fun o1 o1' r1 hv=>?_;refine BL a hv fun o2 o2' r2 hv=>?_;exact aAP hu rv r1 r2 k hv
   ·cases hv
  ·rename_i len el hu
   split at hv
   ·rename_i size hs
    refine bG a hv fun v w rv hv=>?_;refine BL a hv fun o1 o1' r1 hv=>?_;refine BL a hv fun o2 o2' r2 hv=>?_;refine BL a hv fun o3 o3' r3 hv=>?_;exact aAO hu hs rv r1 r2 r3 k hv
   ·cases hv
  ·cases hv
theorem WI{A:VA}{A':aO} (s:VS P B Sb c h Sz) (a:AR c Sz (cJ B c h) A A'){Ev:VE}{t:TypeId}{x y:Operand}{Kv:KV}{K:VK} (k:KR P B Sb c h Sz Kv K) (hv:(LH P t x y).f Ev A h Kv):
 oN A' x (fun l=>oN A' y fun c=>pW P t l c Sz K)=true:=by
 unfold LH at hv;split at hv
 ·rename_i el he
  split at hv
  ·rename_i info zero hi hz
   split at hv
   ·rename_i n hl hn hf
    refine bG a hv fun v w rv hv=>?_;refine bG a hv fun v2 w2 ON hv=>?_;exact aCI s he hi hz hl hn hf rv ON k hv
   ·cases hv
  ·cases hv
 ·cases hv
theorem Iz{A:VA}{A':aO} (s:VS P B Sb c h Sz) (a:AR c Sz (cJ B c h) A A'){Ev:VE}{t:TypeId}{x ix:Operand}{ok:Bool}{Kv:KV}{K:VK} (k:KR P B Sb c h Sz Kv K) (hv:(Du P t x ix ok).f Ev A h Kv):
 oN A' x (fun x=>oN A' ix fun ix=>IC P t x ix ok Sz K)=true:=by
 unfold Du at hv;split at hv
 ·rename_i kt et ht
  split at hv
  ·rename_i sh z hs hz
   split at hv
   ·rename_i zv hzv
    refine bG a hv fun v w rv hv=>?_;refine bG a hv fun v2 w2 ON hv=>?_;exact Tx s ht hs hz hzv rv ON k hv
   ·cases hv
  ·cases hv
 ·cases hv
theorem WJ{A:VA}{A':aO} (s:VS P B Sb c h Sz) (a:AR c Sz (cJ B c h) A A'){Ev:VE}{t:TypeId}{m x y:Operand}{Kv:KV}{K:VK} (k:KR P B Sb c h Sz Kv K) (hv:(Dv P t m x y).f Ev A h Kv):
 oN A' m (fun m=>oN A' x fun x=>oN A' y fun y=>vQ P t m x y Sz fun Sz=>K undef Sz)=true:=by
 unfold Dv at hv;split at hv
 ·rename_i kt et ht
  split at hv
  ·rename_i sh hs
   refine bG a hv fun v w rv hv=>?_;refine bG a hv fun v2 w2 ON hv=>?_;refine bG a hv fun v3 w3 rv3 hv=>?_;exact Mv s ht hs rv ON rv3 k hv
  ·cases hv
 ·cases hv
theorem OH{Ev:VE}{E:Env} (r:ER P B Sb Ev E){A:VA}{A':aO} (s:VS P B Sb c h Sz) (a:AR c Sz (cJ B c h) A A'){o:Oper}{Kv:KV}{K:VK} (k:KR P B Sb c h Sz Kv K) (hv:(To P o).f Ev A h Kv):rP E o A' Sz K=true:=by
 have kh:∀v w,dX c Sz (cJ B c h) v w->Kv v h->K w Sz=true:=fun v w rv hk=>k.here s rv hk;unfold To at hv;have hP:=r.eP;subst hP;split at hv<;>rename_i hop<;>try (unfold rP;rw [hop])
 ·exact bG a hv kh
 ·exact bG a hv kh
 ·refine bG a hv fun v w rv hv=>?_
  refine bG a hv fun v1 w1 rv1 hv=>?_;refine bG a hv fun v2 w2 ON hv=>?_;rw [aF]at hv;unfold dA at hv;split at hv
  ·rename_i b hva hvb
   cases rv;cases b with
   | true=>exact kh _ _ rv1 hv
   | false=>exact kh _ _ ON hv
  ·cases hv
 ·split at hv
  ·rename_i z hz
   split at hv
   ·rename_i hf
    show FX E.P _ Sz K=true;rw [Gl hz hf];exact Mn s k hv
   ·cases hv
  ·cases hv
 ·exact bG a hv fun v w rv hv=>aAE s rv k hv
 ·have hx:(Km E.P o).f E A' Sz K=rP E o A' Sz K:=HB E o A' Sz K
  unfold rP at hx;rw [hop]at hx;simp only at hx ⊢;rw [<-hx];unfold Km;rw [hop];simp only;split at hv
  ·rename_i zero fields hz hu
   try simp only [hz,hu]
   split at hv
   ·rename_i pl hp
    (try simp only [hp]);split at hv
    ·rename_i hf ha
     (try simp only [hf,ha]);exact LK a hv fun l l' hl hv=>WF s hl kh hv
    ·cases hv
   ·cases hv
  ·rename_i zero n elem hz hu
   try simp only [hz,hu]
   split at hv
   ·rename_i size hs
    (try simp only [hs]);split at hv
    ·rename_i hf
     (try simp only [hf]);exact LK a hv fun l l' hl hv=>WF s hl kh hv
    ·cases hv
   ·cases hv
  ·cases hv
 ·have hx:(Km E.P o).f E A' Sz K=rP E o A' Sz K:=HB E o A' Sz K
  unfold rP at hx;rw [hop]at hx;simp only at hx ⊢;rw [<-hx];unfold Km;rw [hop];simp only;split at hv
  ·rename_i elem hs
   try simp only [hs]
   split at hv
   ·rename_i size zero hz hzl
    (try simp only [hz,hzl]);split at hv
    ·rename_i h1 h2
     (try simp only [h1,h2]);split at hv
     ·rename_i hf
      (try simp only [hf]);rw [wK];refine LK a hv fun l l' hl hv=>?_;have:=Iu (Sb:=Sb) (B:=B) s hl k hv;unfold Bz at this
      rwa [wK]at this
     ·cases hv
    ·cases hv
   ·cases hv
  ·cases hv
 ·split at hv
  ·rename_i h1
   refine bG a hv fun v w rv hv=>?_;show BV E.P _ w Sz K=true;rw [PB h1];exact Qg s rv kh hv
  ·rename_i n h1 h2
   refine bG a hv fun v w rv hv=>?_;show BV E.P _ w Sz K=true;rw [PC h1 h2];exact Is s (by omega) rv kh hv
  ·cases hv
 ·split at hv
  ·rename_i n h1
   refine bG a hv fun v w rv hv=>?_;refine bG a hv fun v2 w2 ON hv=>?_;show KM E.P _ w w2 Sz _=true;rw [Gk h1];refine aCG s rv ON (fun h' S' f s' hk=>?_) hv;exact k c h' S' WC undef (.refl c) f s' (.tuple (a':=[]) rfl fun k v w e=>by simp at e) hk
  ·cases hv
 ·refine bG a hv fun v w rv hv=>?_
  show aBq E.P w (fun v=>K v Sz)=true;exact aAK rv kh hv
 ·split at hv
  ·refine bG a hv fun v w rv hv=>?_
   refine bG a hv fun v2 w2 ON hv=>?_;rw [<-DY];exact aAQ rv ON kh hv
  ·refine bG a hv fun v w rv hv=>?_
   refine bG a hv fun v2 w2 ON hv=>?_;rw [<-DY];exact aAL s.Gs rv ON kh hv
 ·exact bG a hv fun v w rv hv=>aCH rv kh hv
 ·split at hv
  ·rename_i j kk h1 h2
   refine bG a hv fun v w rv hv=>?_;rw [Oe h1 h2];exact aAI rv kh hv
  ·cases hv
 ·split at hv
  ·rename_i t x hv0 hi
   refine bG a hv fun v w rv hv=>?_;unfold Im at hi;split at hi
   ·cases hi
   ·rename_i d hd hu
    have hw:=kh _ _ (.iface (t:=t) rv) hv;(try simp only [hu]);cases d<;>first | exact hw | exact(hd _ rfl).elim
   ·cases hi
  ·cases hv
 ·split at hv
  ·refine OF a hv fun vs ws ra hv=>?_
   refine OF a hv fun vs2 ws2 ra2 hv=>?_;exact kh _ _ (.func ra.len ra2.len ra.rd ra2.rd) hv
  ·split at hv
   ·rename_i x h1 h2
    (try simp only [h1,h2]);exact bG a hv fun v w rv hv=>kh _ _ (.meth rv) hv
   ·cases hv
  ·cases hv
 ·split at hv
  ·rename_i fd hf
   split at hv
   ·rename_i n hn
    refine bG a hv fun v w rv hv=>?_;rw [MQ hf hn];exact aAF rv kh hv
   ·cases hv
  ·cases hv
 ·split at hv
  ·rename_i fd hf
   split at hv
   ·rename_i h1
    refine bG a hv fun v w rv hv=>?_;rw [UO hf h1];exact Mo rv kh hv
   ·rename_i n h1 h2
    refine bG a hv fun v w rv hv=>?_;rw [UQ hf h1 h2];exact Iv rv kh hv
   ·cases hv
  ·cases hv
 ·split at hv
  ·rename_i el he
   split at hv
   ·rename_i n hn
    refine bG a hv fun v w rv hv=>?_;refine bG a hv fun v2 w2 ON hv=>?_;rw [MS he hn];exact aAG s rv ON kh hv
   ·cases hv
  ·cases hv
 ·split at hv
  ·rename_i hu
   refine bG a hv fun v w rv hv=>?_;refine bG a hv fun v2 w2 ON hv=>?_;rw [Gn hu];exact Mp rv ON kh hv
  ·cases hv
 ·split at hv
  ·rename_i t x lo hi mx _ hb
   have:=Mu s a kh hv;unfold aDp at hb;cases mx<;>cases hi<;>first | exact this | cases hb
  ·cases hv
 ·exact WI s a k hv
 ·exact Ja s k hv
 ·exact Iz s a k hv
 ·exact WJ s a k hv
 ·exact WJ s a k hv
 ·refine bG a hv fun v w rv hv=>?_
  show Vz _ w (fun v=>K v Sz)=true;exact aAH rv kh hv
 ·exact Tw r s a k hv
 ·cases hv
end
section
variable{P:Program}{B:Nat->Prop}{Sb:St}{c c' d:Cx}{h h':Hp}{Sz S':St}{C C':Nat->Prop}
def KSR (P:Program) (B:Nat->Prop) (Sb:St) (c:Cx) (h:Hp) (Sz:St) (kv:KSV) (k:aO->St->Bool):Prop:=
 ∀c' h' S' A A',c.le c'->vG (cJ B c h) Sz S' (cJ B c' h')->VS P B Sb c' h' S'->AR c' S' (cJ B c' h') A A'->kv A h'->k A' S'=true
theorem KSR.mono{kv:KSV}{k:aO->St->Bool} (q:KSR P B Sb c h Sz kv k) (l:c.le c') (f:vG (cJ B c h) Sz S' (cJ B c' h')):KSR P B Sb c' h' S' kv k:=
 fun c2 h2 S2 A A' l2 f2=>q c2 h2 S2 A A' (l.trans l2) (f.trans f2)
theorem WK (s:VS P B Sb c h Sz){v:V}{w:Value} (r:dX c Sz C v w) (ho:TA v=true) (n:Nat):QH n w w=true:=by
 have hsl:∀b o n m,MC (.slice (some ⟨b,o,none⟩) n m) (.slice (some ⟨b,o,none⟩) n m)=true:=fun b o n m=>by
  show((Nat.beq b b&&Nat.beq o o)&&(Nat.beq n n&&Nat.beq m m))=true;simp
 have hs0:∀b o n m,MC (.slice (some ⟨b,o,some 0⟩) n m) (.slice (some ⟨b,o,some 0⟩) n m)=true:=fun b o n m=>by
  show((Nat.beq b b&&Nat.beq o o)&&(Nat.beq n n&&Nat.beq m m))=true;simp
 have hse:∀b o s,MC (.slice (some ⟨b,o,some (s+2)⟩) 0 0) (.slice (some ⟨b,o,some (s+2)⟩) 0 0)=true:=fun b o s=>by
  show((Nat.beq b b&&Nat.beq o o)&&Nat.beq s s)=true;simp
 have hpt:∀b o,MC (.pointer (some ⟨b,o,none⟩)) (.pointer (some ⟨b,o,none⟩))=true:=fun b o=>by
  show(Nat.beq b b&&Nat.beq o o)=true;simp
 have hmp:∀b,MC (.map (some b)) (.map (some b))=true:=fun b=>by
  show Nat.beq b b=true;simp
 cases r with
 | @int k z=>cases n<;>exact Ru k z
 | @bool b=>cases n<;>cases b<;>rfl
 | str=>cases n<;>(show TE _ _=true;rw [DL];simp)
 | list ht hd=>
  cases hd with
  | nil=>cases n<;>rfl
  | emp=>cases n<;>exact hse _ _ _
  | @row b o n' cc sp _ _ _ _ hsp _ _ _ _ _ _=>
   match sp,hsp with
   | none,_=>cases n<;>exact hsl _ _ _ _
   | some 0,_=>cases n<;>exact hs0 _ _ _ _
 | nP=>cases n<;>exact hpt _ _
 | lX=>cases n<;>exact hpt _ _
 | nil=>cases n<;>rfl
 | acc e=>obtain⟨b,rfl⟩:=s.Gs _ _ _ e;cases n<;>exact hs0 _ _ _ _
 | own=>cases n<;>exact hsl _ _ _ _
 | tW=>cases n<;>exact hs0 _ _ _ _
 | ptr=>cases n<;>exact hpt _ _
 | PS=>cases n<;>rfl
 | XX=>cases n<;>rfl
 | VZ=>cases n<;>rfl
 | XY=>cases n<;>rfl
 | LF=>cases n<;>exact hmp _
 | _=>cases ho
theorem TC{p:V->Bool}{q:Value->Prop}{a:List V}{a':List Value} (r:iT c Sz C a a') (hp:a.all p=true) (hq:∀v w,dX c Sz C v w->p v=true->q w):∀w∈a',q w:=by
 intro w hw;obtain⟨k,hk⟩:=List.getElem?_of_mem hw;have hlt:=(List.getElem?_eq_some_iff.1 hk).1;have hl:=r.len;exact hq a[k] w (r.rd k a[k] w (List.getElem?_eq_getElem (by omega)) hk) (List.all_eq_true.1 hp _ (List.getElem_mem (by omega)))
theorem WL{f:Value->Value->Bool}:∀{l:List Value},(∀w∈l,f w w=true)->sameAll f l l=true:=by
 intro l;induction l with
 | nil=>intro _;rfl
 | cons x l ih=>
  intro h;show(f x x&&sameAll f l l)=true;rw [h x (.head _),ih fun y hy=>h y (.tail _ hy)];rfl
theorem Jb (s:VS P B Sb c h Sz){v:V}{w:Value} (r:dX c Sz C v w) (ho:sE v=true):Ff w w=true:=by
 unfold sE at ho;split at ho
 ·rename_i f a d
  rw [Bool.and_eq_true]at ho;cases r with
  | @func _ _ _ a' d' la ld ha hd=>
   show(Nat.beq f f&&(sameAll (QH 2) a' a'&&sameAll (QH 2) d' d'))=true;rw [WL (TC (⟨la,ha⟩:iT c Sz C a a') ho.1 fun v w r o=>WK s r o 2),WL (TC (⟨ld,hd⟩:iT c Sz C d d') ho.2 fun v w r o=>WK s r o 2)];simp
 ·exact WK s r ho 3
theorem Jc (s:VS P B Sb c h Sz){v:V}{w:Value} (r:dX c Sz C v w) (ho:TB v=true):QI w w=true:=by
 unfold TB at ho;split at ho
 ·rename_i cs
  cases r with
  | @agg _ a' la ha=>
   show YN a' a'=true;have hall:=TC (⟨la,ha⟩:iT c Sz C cs a') ho fun v w r o=>Jb s r o;clear la ha;induction a' with
   | nil=>rfl
   | cons x l ih=>
    show(Ff x x&&YN l l)=true;rw [hall x (.head _),ih fun y hy=>hall y (.tail _ hy)];rfl
 ·rename_i hne
  have h0:=Jb s r ho;cases w<;>first | exact h0 | (cases r<;>first | exact absurd rfl (hne _) | (rename_i e;obtain⟨b,e⟩:=s.Gs _ _ _ e;cases e) | (rename_i ht hd;cases hd))
theorem aAR (s:VS P B Sb c h Sz){v:V}{w:Value} (r:dX c Sz C v w) (ho:uP v=true):EV w w=true:=by
 unfold uP at ho;split at ho
 ·rename_i cs
  cases r with
  | @tuple _ a' la ha=>
   show OU a' a'=true;have hall:=TC (⟨la,ha⟩:iT c Sz C cs a') ho fun v w r o=>Jc s r o;clear la ha;induction a' with
   | nil=>rfl
   | cons x l ih=>
    show(QI x x&&OU l l)=true;rw [hall x (.head _),ih fun y hy=>hall y (.tail _ hy)];rfl
 ·rename_i hne
  have h0:=Jc s r ho;cases w<;>first | exact h0 | (cases r<;>first | exact absurd rfl (hne _) | (rename_i e;obtain⟨b,e⟩:=s.Gs _ _ _ e;cases e) | (rename_i ht hd;cases hd))
theorem WM{ops:Array Oper}{o:Oper}{A:aO}{k:Bool->Bool} (hg:o.guard=none):uB ops o A k=k true:=by
 unfold uB;rw [hg]
theorem Qh{ops:Array Oper}{o o':Oper}{A:aO}{k:Bool->Bool}{j:Nat}{w:Bool}{g:Tmp} (hg:o.guard=some (j,w)) (hj:ops[j]? =some o') (hd:o'.dst=some g):uB ops o A k=IA A.tmps g fun v=>QU w v k:=by
 unfold uB;rw [hg];simp only [hj,hd];rfl
theorem Aj{w:Bool}{v:V}{u:Value} (r:dX c Sz C v u){k:Bool->Prop} (hv:aAl w v k):∃b,k b/\∀K:Bool->Bool,QU w u K=K b:=by
 cases r with
 | @bool b=>cases b<;>cases w<;>exact⟨_,hv,fun K=>rfl⟩
 | @tuple a a' la ha=>
  cases a with
  | nil=>exact⟨false,hv,fun K=>rfl⟩
  | cons x l=>cases hv
 | _=>cases hv
theorem aAS{A:VA}{A':aO} (a:AR c Sz (cJ B c h) A A') (s:VS P B Sb c h Sz){o:Oper}{kv:KSV}{k:aO->St->Bool} (hk:KSR P B Sb c h Sz kv k){v:V}{w:Value} (r:dX c Sz (cJ B c h) v w)
 (hv:match o.dst with | some d=>WE A d v (fun A=>kv A h) | none=>kv A h):iE A' o.dst w (fun A=>k A Sz)=true:=by
 cases hd:o.dst with
 | none=>rw [hd]at hv;exact hk c h Sz A A' (.refl c) (.refl _ Sz) s a hv
 | some d=>rw [hd]at hv;exact Ag a r hv fun X X' x hx=>hk c h Sz X X' (.refl c) (.refl _ Sz) s x hx
theorem aE4:dX c Sz C WC undef:= .tuple (a':=[]) rfl fun k v w e=>by simp at e
theorem OI{Ev:VE}{E:Env} (r:ER P B Sb Ev E){A:VA}{A':aO} (s:VS P B Sb c h Sz) (a:AR c Sz (cJ B c h) A A'){ops:Array Oper}{o:Oper}{kv:KSV}{k:aO->St->Bool} (hk:KSR P B Sb c h Sz kv k) (hv:(Uh P ops o).f Ev A h kv):KO E ops o A' Sz k=true:=by
 have beh:∀{c' h' S' v w},c.le c'->vG (cJ B c h) Sz S' (cJ B c' h')->VS P B Sb c' h' S'->dX c' S' (cJ B c' h') v w->(match o.dst with | some d=>WE A d v (fun A=>kv A h') | none=>kv A h')->iE A' o.dst w (fun A=>k A S')=true:=
  fun l f s' rv hv=>aAS (a.mono l f) s' (hk.mono l f) rv hv
 unfold Uh at hv;unfold KO;cases hg:o.guard with
 | none=>
  rw [hg]at hv;rw [WM hg];simp only at hv;show rP E o A' Sz (fun v Sz=>iE A' o.dst v fun A=>k A Sz)=true;unfold aDq at hv;cases hd:o.dst with
  | none=>
   rw [hd]at hv;exact OH r s a (fun c' h' S' v w l f s' rv hv=>by have:=beh l f s' rv (by rw [hd];exact hv);rwa [hd]at this) hv
  | some d=>
   rw [hd]at hv;exact OH r s a (fun c' h' S' v w l f s' rv hv=>by have:=beh l f s' rv (by rw [hd];exact hv);rwa [hd]at this) hv
 | some jw=>
  obtain⟨j,w⟩:=jw;rw [hg]at hv;simp only at hv;cases hj:ops[j]? with
  | none=>simp only [hj]at hv
  | some o'=>
   simp only [hj]at hv;cases hg':o'.dst with
   | none=>simp only [hg']at hv
   | some g=>
    simp only [hg']at hv;rw [Qh hg hj hg']
    have key:∀(v:V) (u:Value) (q:KV),(∀{c' h' S' v w},c.le c'->vG (cJ B c h) Sz S' (cJ B c' h')->VS P B Sb c' h' S'->dX c' S' (cJ B c' h') v w->q v h'->iE A' o.dst w (fun A=>k A S')=true)->dX c Sz (cJ B c h) v u->aC w v (fun k=>(To P o).f Ev A h k) h q->
     QU w u (fun b=>dN b (rP E o A' Sz fun v Sz=>iE A' o.dst v fun A=>k A Sz) (iE A' o.dst undef fun A=>k A Sz))=true:=by
     intro v u q hq rv hv;obtain⟨b,hb,e⟩:=Aj rv hv;rw [e];cases b with
     | true=>exact OH r s a (fun c' h' S' v w l f s' rv hv=>hq l f s' rv hv) hb
     | false=>exact hq (.refl c) (.refl _ Sz) s aE4 hb
    cases hd:o.dst with
    | none=>
     rw [hd]at hv;refine vF a hv fun v u rv hv=>?_;rw [aF]at hv;have:=key v u _ (fun l f s' rv hv=>beh l f s' rv (by rw [hd];exact hv)) rv hv
     rwa [hd]at this
    | some dd=>
     rw [hd]at hv;refine vF a hv fun v u rv hv=>?_;rw [aF]at hv;have:=key v u _ (fun l f s' rv hv=>beh l f s' rv (by rw [hd];exact hv)) rv hv
     rwa [hd]at this
theorem aAT{Ev:VE}{E:Env} (r:ER P B Sb Ev E){ops:Array Oper}:∀{l:List Oper} {c:Cx} {h:Hp} {Sz:St} {A:VA} {A':aO} {kv:KSV} {k:aO->St->Bool},VS P B Sb c h Sz->AR c Sz (cJ B c h) A A'->KSR P B Sb c h Sz kv k->(opsV P ops l).f Ev A h kv->IZ E ops l A' Sz k=true:=by
 intro l;induction l with
 | nil=>intro c h Sz A A' kv k s a hk hv;exact hk c h Sz A A' (.refl c) (.refl _ Sz) s a hv
 | cons o l ih=>
  intro c h Sz A A' kv k s a hk hv;have hv:(Uh P ops o).f Ev A h (fun A Sz=>(opsV P ops l).f Ev A Sz kv):=hv;show KO E ops o A' Sz (IZ E ops l · · k)=true;exact OI r s a (fun c' h' S' X X' le f s' x hv=>ih s' x (hk.mono le f) hv) hv
theorem HY{Ev:VE}{E:Env} (r:ER P B Sb Ev E){ops:Array Oper}{A:VA}{A':aO} (s:VS P B Sb c h Sz) (a:AR c Sz (cJ B c h) A A'){p:Prop}{b:Bool} (hb:p->b=true):∀{l:List Nat},(JE P ops l).f Ev A h p->rE E ops A' Sz l b=true:=by
 intro l;induction l with
 | nil=>intro hv;exact hb hv
 | cons i l ih=>
  intro hv;rw [OV]
  have e1:JE P ops (i::l)=match ops[i]? with
   | some o=>match o.dst with
    | some d=>match o.guard with
     | none=>⟨fun E A Sz k=>YB A.tmps d fun u=>(To P o).f E A Sz fun v _=>aL v u ((JE P ops l).f E A Sz k)⟩
     | some (j,w)=>match ops[j]? with
      | some o'=>match o'.dst with
       | some g=>⟨fun E A Sz k=>YB A.tmps d fun u=>YB A.tmps g fun b=>aD E.most (gH w b u (fun k=>(To P o).f E A Sz fun v _=>aL v u k) ((JE P ops l).f E A Sz k))⟩
       | none=>⟨fun _ _ _ _=>False⟩
      | none=>⟨fun _ _ _ _=>False⟩
    | none=>⟨fun _ _ _ _=>False⟩
   | none=>⟨fun _ _ _ _=>False⟩:=rfl
  rw [e1]at hv;cases hi:ops[i]? with
  | none=>rw [hi]at hv;cases hv
  | some o=>
   rw [hi]at hv;simp only at hv ⊢;cases hd:o.dst with
   | none=>rw [hd]at hv;cases hv
   | some dd=>
    rw [hd]at hv;simp only at hv ⊢
    have run:∀{u:V} {uw:Value},dX c Sz (cJ B c h) u uw->((To P o).f Ev A h fun v _=>aL v u ((JE P ops l).f Ev A h p))->rP E o A' Sz (fun v _=>match EV v uw with | true=>rE E ops A' Sz l b | false=>false)=true:=by
     intro u uw ru hv;refine OH r s a (fun c' h' S' v w le f s' rv hv=>?_) hv;obtain⟨rfl,ho,hv⟩:=hv;have:=rv.fn (ru.mono le f);subst this;rw [aAR s' rv ho];exact ih hv
    cases hg:o.guard with
    | none=>
     simp only [hg]at hv;refine vF a hv fun u uw ru hv=>?_;rw [WM hg];exact run ru hv
    | some jw=>
     obtain⟨j,w⟩:=jw;simp only [hg]at hv;cases hj:ops[j]? with
     | none=>simp only [hj]at hv
     | some o'=>
      simp only [hj]at hv;cases hg':o'.dst with
      | none=>simp only [hg']at hv
      | some g=>
       simp only [hg']at hv;refine vF a hv fun u uw ru hv=>?_;rw [Qh hg hj hg'];refine vF a hv fun q qw rq hv=>?_;rw [aF]at hv;obtain⟨bb,hbb,e⟩:=Aj rq hv;rw [e];cases bb with
       | true=>exact run ru hbb
       | false=>
        have hbb:aGP u ((JE P ops l).f Ev A h p):=hbb;cases ru with
        | @tuple a a' la ha=>
         cases a with
         | nil=>
          have:a'=[]:=List.eq_nil_of_length_eq_zero (by simpa using la.symm);subst this;exact ih hbb
         | cons x l=>cases hbb
        | _=>cases hbb
theorem WN{Ev:VE}{E:Env} (r:ER P B Sb Ev E){ops:Array Oper}{i:Nat}{o:Oper}{A:VA}{A':aO} (s:VS P B Sb c h Sz) (a:AR c Sz (cJ B c h) A A'){Kv:KV}{K:VK} (k:KR P B Sb c h Sz Kv K) (hv:(In P ops i o).f Ev A h Kv):xP E ops i o A' Sz K=true:=by
 unfold In at hv;unfold xP;rw [r.eP];cases hc:cS P ops i with
 | none=>rw [hc]at hv;exact OH r s a k hv
 | some j=>rw [hc]at hv;cases hv
theorem IU{Ev:VE}{E:Env} (r:ER P B Sb Ev E){ops:Array Oper}:∀{l:List Nat} {c:Cx} {h:Hp} {Sz:St} {A:VA} {A':aO} {kv:KSV} {k:aO->St->Bool},VS P B Sb c h Sz->AR c Sz (cJ B c h) A A'->KSR P B Sb c h Sz kv k->(FI P ops l).f Ev A h kv->jD E ops l A' Sz k=true:=by
 intro l;induction l with
 | nil=>intro c h Sz A A' kv k s a hk hv;exact hk c h Sz A A' (.refl c) (.refl _ Sz) s a hv
 | cons i l ih=>
  intro c h Sz A A' kv k s a hk hv
  have e1:FI P ops (i::l)=match ops[i]? with
   | some o=>match o.dst with
    | some d=>⟨fun E A Sz k=>(In P ops i o).f E A Sz fun v Sz=>WE A d v fun A=>(FI P ops l).f E A Sz k⟩
    | none=>⟨fun E A Sz k=>(In P ops i o).f E A Sz fun _ Sz=>(FI P ops l).f E A Sz k⟩
   | none=>⟨fun _ _ _ _=>False⟩:=rfl
  have e2:jD E ops (i::l) A' Sz k=match ops[i]? with
   | some o=>xP E ops i o A' Sz fun v Sz=>iE A' o.dst v fun A=>jD E ops l A Sz k
   | none=>false:=rfl
  rw [e1]at hv;rw [e2];cases hi:ops[i]? with
  | none=>rw [hi]at hv;cases hv
  | some o=>
   rw [hi]at hv;simp only at hv ⊢;cases hd:o.dst with
   | none=>
    rw [hd]at hv;exact WN r s a (fun c' h' S' v w le f s' rv hv=>ih s' (a.mono le f) (hk.mono le f) hv) hv
   | some d=>
    rw [hd]at hv;exact WN r s a (fun c' h' S' v w le f s' rv hv=>Ag (a.mono le f) rv hv fun X X' x hx=>ih s' x (hk.mono le f) hx) hv
theorem WO{Ev:VE}{E:Env} (r:ER P B Sb Ev E){ops:Array Oper}{A:VA}{A':aO} (s:VS P B Sb c h Sz) (a:AR c Sz (cJ B c h) A A'){p:Prop}{b:Bool} (hb:p->b=true):∀{l:List (Nat×List Nat)},(Dw P ops l).f Ev A h p->FM E ops A' Sz l b=true:=by
 intro l;induction l with
 | nil=>intro hv;exact hb hv
 | cons q l ih=>
  intro hv
  have e1:Dw P ops (q::l)=match ops[q.1]? with
   | some o=>⟨fun E A Sz k=>absP A o (((FI P ops q.2).f E A Sz fun A Sz=>(In P ops q.1 o).f E A Sz fun _ _=>True)/\(Dw P ops l).f E A Sz k)⟩
   | none=>⟨fun _ _ _ _=>False⟩:=rfl
  have e2:FM E ops A' Sz (q::l) b=match ops[q.1]? with
   | some o=>Jy A' o (dN (jD E ops q.2 A' Sz fun A Sz=>xP E ops q.1 o A Sz fun _ _=>true) (FM E ops A' Sz l b) false)
   | none=>false:=rfl
  rw [e1]at hv;rw [e2];cases hi:ops[q.1]? with
  | none=>rw [hi]at hv;cases hv
  | some o=>
   rw [hi]at hv;simp only at hv ⊢;unfold absP at hv;unfold Jy;cases hd:o.dst with
   | none=>rw [hd]at hv;cases hv
   | some dd=>
    rw [hd]at hv;simp only at hv ⊢;obtain⟨hg,h1,h2⟩:=aAB _ _ hv
    ·rw [mO,a.abs dd hg]
     have hl:(jD E ops q.2 A' Sz fun A Sz=>xP E ops q.1 o A Sz fun _ _=>true)=true:=IU r s a (fun c' h' S' X X' le f s' x hv=>WN r s' x (fun _ _ _ _ _ _ _ _ _ _=>rfl) hv) h1;show dN (jD E ops q.2 A' Sz fun A Sz=>xP E ops q.1 o A Sz fun _ _=>true) (FM E ops A' Sz l b) false=true;rw [hl];exact ih h2
theorem HZ{Ev:VE}{E:Env} (r:ER P B Sb Ev E){ops:Array Oper}:∀{l:List rA} {c:Cx} {h:Hp} {Sz:St} {A:VA} {A':aO} {kv:KSV} {k:aO->St->Bool},VS P B Sb c h Sz->AR c Sz (cJ B c h) A A'->KSR P B Sb c h Sz kv k->(BK P ops l).f Ev A h kv->iC E ops l A' Sz k=true:=by
 intro l;induction l with
 | nil=>intro c h Sz A A' kv k s a hk hv;cases hv
 | cons st l ih=>
  intro c h Sz A A' kv k s a hk hv;cases st with
  | take i=>
   have e1:BK P ops (.take i::l)=match ops[i]? with
    | some o=>⟨fun E A Sz k=>(Uh P ops o).f E A Sz fun A Sz=>(BK P ops l).f E A Sz k⟩
    | none=>⟨fun _ _ _ _=>False⟩:=rfl
   have e2:iC E ops (.take i::l) A' Sz k=match ops[i]? with
    | some o=>KO E ops o A' Sz fun A Sz=>iC E ops l A Sz k
    | none=>false:=rfl
   rw [e1]at hv;rw [e2];cases hi:ops[i]? with
   | none=>rw [hi]at hv;cases hv
   | some o=>
    rw [hi]at hv;exact OI r s a (fun c' h' S' X X' le f s' x hv=>ih s' x (hk.mono le f) hv) hv
  | req chk pend D q vX=>
   have e1:BK P ops (.req chk pend D q vX::l)=match ops[q]? with
    | some o=>⟨fun E A Sz k=>(JE P ops chk).f E A Sz ((Dw P ops pend).f E A Sz ((FI P ops D).f E A Sz fun A Sz=>(Uh P ops o).f E A Sz fun A Sz=>(JE P ops vX).f E A Sz ((BK P ops l).f E A Sz k)))⟩
    | none=>⟨fun _ _ _ _=>False⟩:=rfl
   have e2:iC E ops (.req chk pend D q vX::l) A' Sz k=match ops[q]? with
    | some o=>rE E ops A' Sz chk (FM E ops A' Sz pend (jD E ops D A' Sz fun A Sz=>KO E ops o A Sz fun A Sz=>rE E ops A Sz vX (iC E ops l A Sz k)))
    | none=>false:=rfl
   rw [e1]at hv;rw [e2];cases hi:ops[q]? with
   | none=>rw [hi]at hv;cases hv
   | some o=>
    rw [hi]at hv;refine HY r s a (fun hv=>?_) hv;refine WO r s a (fun hv=>?_) hv;refine IU r s a (fun c' h' S' X X' le f s' x hv=>?_) hv;refine OI r s' x (fun c2 h2 S2 Y Y' gP f2 s2 y hv=>?_) hv;refine HY r s2 y (fun hv=>?_) hv;exact ih s2 y ((hk.mono le f).mono gP f2) hv
  | fin chk pend D=>
   have hv:(JE P ops chk).f Ev A h ((Dw P ops pend).f Ev A h ((FI P ops D).f Ev A h kv)):=hv;show rE E ops A' Sz chk (FM E ops A' Sz pend (jD E ops D A' Sz k))=true;refine HY r s a (fun hv=>?_) hv;refine WO r s a (fun hv=>?_) hv;exact IU r s a hk hv
theorem Ec{Ev:VE}{E:Env} (r:ER P B Sb Ev E){ops:Array Oper}:∀{l:List rA} {c:Cx} {h:Hp} {Sz:St} {A:VA} {A':aO} {kv:KSV} {k:aO->St->Bool},VS P B Sb c h Sz->AR c Sz (cJ B c h) A A'->KSR P B Sb c h Sz kv k->(AG P ops l).f Ev A h kv->qR E ops l A' Sz k=true:=by
 intro l;induction l with
 | nil=>intro c h Sz A A' kv k s a hk hv;exact hk c h Sz A A' (.refl c) (.refl _ Sz) s a hv
 | cons st l ih=>
  intro c h Sz A A' kv k s a hk hv;cases st with
  | take i=>
   have e1:AG P ops (.take i::l)=match ops[i]? with
    | some o=>⟨fun E A Sz k=>(Uh P ops o).f E A Sz fun A Sz=>(AG P ops l).f E A Sz k⟩
    | none=>⟨fun _ _ _ _=>False⟩:=rfl
   have e2:qR E ops (.take i::l) A' Sz k=match ops[i]? with
    | some o=>KO E ops o A' Sz fun A Sz=>qR E ops l A Sz k
    | none=>false:=rfl
   rw [e1]at hv;rw [e2];cases hi:ops[i]? with
   | none=>rw [hi]at hv;cases hv
   | some o=>
    rw [hi]at hv;exact OI r s a (fun c' h' S' X X' le f s' x hv=>ih s' x (hk.mono le f) hv) hv
  | req chk pend D q vX=>
   have e1:AG P ops (.req chk pend D q vX::l)=match ops[q]? with
    | some o=>⟨fun E A Sz k=>(JE P ops chk).f E A Sz ((Dw P ops pend).f E A Sz ((FI P ops D).f E A Sz fun A Sz=>(Uh P ops o).f E A Sz fun A Sz=>(JE P ops vX).f E A Sz ((AG P ops l).f E A Sz k)))⟩
    | none=>⟨fun _ _ _ _=>False⟩:=rfl
   have e2:qR E ops (.req chk pend D q vX::l) A' Sz k=match ops[q]? with
    | some o=>rE E ops A' Sz chk (FM E ops A' Sz pend (jD E ops D A' Sz fun A Sz=>KO E ops o A Sz fun A Sz=>rE E ops A Sz vX (qR E ops l A Sz k)))
    | none=>false:=rfl
   rw [e1]at hv;rw [e2];cases hi:ops[q]? with
   | none=>rw [hi]at hv;cases hv
   | some o=>
    rw [hi]at hv;refine HY r s a (fun hv=>?_) hv;refine WO r s a (fun hv=>?_) hv;refine IU r s a (fun c' h' S' X X' le f s' x hv=>?_) hv;refine OI r s' x (fun c2 h2 S2 Y Y' gP f2 s2 y hv=>?_) hv;refine HY r s2 y (fun hv=>?_) hv;exact ih s2 y ((hk.mono le f).mono gP f2) hv
  | fin chk pend D=>cases hv
end
section
variable{P:Program}{B:Nat->Prop}{Sb:St}{c c' d:Cx}{h h':Hp}{Sz S':St}{C C':Nat->Prop}
theorem AR.del{A:VA}{A':aO} (a:AR c Sz C A A') (d:Nat):AR c Sz C ⟨⟨A.tmps.t.del d,A.tmps.n⟩,A.g⟩ {A' with tmps:=⟨A'.tmps.t.del d,A'.tmps.n⟩}:=by
 refine⟨a.n,a.g,a.marks,fun i v e=>?_,fun i e=>?_⟩
 ·have e:(A.tmps.t.del d).get i=some v:=e
  rw [ME]at e;show ∃w,(A'.tmps.t.del d).get i=some w/\_;rw [ME];by_cases hi:i=d
  ·rw [if_pos hi]at e;cases e
  ·rw [if_neg hi]at e ⊢;exact a.got i v e
 ·have e:(A.tmps.t.del d).get i=none:=e
  rw [ME]at e;show(A'.tmps.t.del d).get i=none;rw [ME];by_cases hi:i=d
  ·rw [if_pos hi]
  ·rw [if_neg hi]at e ⊢;exact a.abs i e
theorem Ak{ops:Array Oper}{k:VA->Prop}{k':aO->Bool} (hk:∀X X',AR c Sz C X X'->k X->k' X'=true):∀{l:List Nat} {A:VA} {A':aO},AR c Sz C A A'->Io ops l A k->GR ops l A' k'=true:=by
 intro l;induction l with
 | nil=>intro A A' a hv;exact hk A A' a hv
 | cons i l ih=>
  intro A A' a hv
  have e1:Io ops (i::l) A k=match ops[i]? with
   | some o=>match o.dst with
    | some d=>match A with | ⟨⟨t,n⟩,g⟩=>aAq t d fun t=>Io ops l ⟨⟨t,n⟩,g⟩ k
    | none=>False
   | none=>False:=rfl
  have e2:GR ops (i::l) A' k'=match ops[i]? with
   | some o=>match o.dst with
    | some d=>Vf A'.tmps.t d fun t=>GR ops l {A' with tmps:=⟨t,A'.tmps.n⟩} k'
    | none=>false
   | none=>false:=rfl
  rw [e1]at hv;rw [e2];cases hi:ops[i]? with
  | none=>simp only [hi]at hv
  | some o=>
   simp only [hi]at hv ⊢;cases hd:o.dst with
   | none=>simp only [hd]at hv
   | some d=>
    simp only [hd]at hv ⊢;rw [aCE]at hv;rw [Nn];exact ih (a.del d) hv
theorem Mw{w:Bool}{v:V}{k:Prop} (h:VL w v k):v= .bool w/\k:=by
 unfold VL at h;split at h
 ·rename_i b
  cases w<;>cases b<;>first | exact⟨rfl,h⟩ | exact h.elim
 ·exact h.elim
theorem Mx{Ev:VE}{E:Env} (r:ER P B Sb Ev E):∀{p:GY} {ops:Array Oper} {c:Cx} {h:Hp} {Sz:St} {A:VA} {A':aO} {kv:KSV} {k:aO->St->Bool},VS P B Sb c h Sz->AR c Sz (cJ B c h) A A'->KSR P B Sb c h Sz kv k->(Mj P p ops).f Ev A h kv->GZ E p ops A' Sz k=true:=by
 intro p;induction p with
 | fin l=>intro ops c h Sz A A' kv k s a hk hv;exact HZ r s a hk hv
 | cut l g t b p ih=>
  intro ops c h Sz A A' kv k s a hk hv;have hv:(AG P ops l).f Ev A h (fun A Sz=>YB A.tmps t fun v=>VL b v ((Mj P p (cR ops g b)).f Ev A Sz kv)):=hv;show qR E ops l A' Sz (fun A Sz=>MP A t b (GZ E p (cR ops g b) A Sz k))=true;refine Ec r s a (fun c' h' S' X X' le f s' x hv=>?_) hv;unfold MP;refine vF x hv fun v w rv hv=>?_;obtain⟨e,hv2⟩:=Mw hv;subst e;cases rv;have:=ih (ops:=cR ops g b) s' x (hk.mono le f) hv2;cases b<;>exact this
theorem aAU{Ev:VE}{E:Env} (r:ER P B Sb Ev E){ops:Array Oper}{draw:Bool}{A:VA}{A':aO} (s:VS P B Sb c h Sz) (a:AR c Sz (cJ B c h) A A'){kv:KSV}{k:aO->St->Bool} (hk:KSR P B Sb c h Sz kv k) (hv:(aCC P ops draw).f Ev A h kv):(Rs P ops draw).f E A' Sz k=true:=by
 have hP:=r.eP;subst hP;rw [Oh];cases draw with
 | false=>exact aAT r s a hk hv
 | true=>
  show drG E ops A' Sz k=true;unfold aCC at hv;simp only at hv;unfold drG;cases hp:MK E.P ops with
  | none=>
   simp only [hp]at hv ⊢;cases hpl:zA ops with
   | false=>simp only [hpl]at hv
   | true=>
    simp only [hpl]at hv ⊢;cases hps:MO E.P (ops.size+1) ops ⟨List.replicate ops.size false⟩ []with
    | none=>simp only [hps]at hv
    | some p=>
     simp only [hps]at hv ⊢;exact Ak (fun X X' x hx=>Mx r s x hk hx) a hv
  | some l=>
   simp only [hp]at hv ⊢;cases hl:CE l with
   | nil=>
    simp only [hl]at hv;exact HZ r s a hk hv
   | cons x ls=>
    simp only [hl]at hv;exact Ak (fun X X' x hx=>HZ r s x hk hx) a hv
def CKR (P:Program) (B:Nat->Prop) (Sb:St) (c:Cx) (h:Hp) (Sz:St) (Kv:CV) (K:KP):Prop:=
 ∀c' h' S' A A' e,c.le c'->vG (cJ B c h) Sz S' (cJ B c' h')->VS P B Sb c' h' S'->AR c' S' (cJ B c' h') A A'->Kv e A h'->K e A' S'=true
def LKR (P:Program) (B:Nat->Prop) (Sb:St) (c:Cx) (h:Hp) (Sz:St) (Kv:qZ->List V->Nat->Hp->Prop) (K:qZ->List Value->Nat->List Nat->St->Bool):Prop:=
 ∀c' h' S' vs ws n e,c.le c'->vG (cJ B c h) Sz S' (cJ B c' h')->VS P B Sb c' h' S'->iT c' S' (cJ B c' h') vs ws->Kv e vs n h'->∀marks,SH c' S' (cJ B c' h') marks->K e ws n marks S'=true
def RoV (c:Cx) (r r':Option Nat):Prop:=(r=none/\r'=none)\/∃l b,r=some l/\r'=some b/\c.Zz l=some b
theorem RoV.mono{r r':Option Nat} (q:RoV c r r') (l:c.le c'):RoV c' r r':=by
 rcases q with q | ⟨i,b,h1,h2,h3⟩
 ·exact .inl q
 ·exact .inr ⟨i,b,h1,h2,l.Zz _ _ h3⟩
def aDr (P:Program) (B:Nat->Prop) (Sb:St) (Ev:VE) (E:Env) (r r':Option Nat) (lv:LpV) (lx:LpT):Prop:=
 ∀{c:Cx} {h:Hp} {Sz:St} {vs:List V} {ws:List Value} {n:Nat} {marks:List Nat} {Kv:qZ->List V->Nat->Hp->Prop} {K:qZ->List Value->Nat->List Nat->St->Bool},VS P B Sb c h Sz->RoV c r r'->SH c Sz (cJ B c h) marks->iT c Sz (cJ B c h) vs ws->LKR P B Sb c h Sz Kv K->lv Ev vs n h Kv->lx E r' ws n marks Sz K=true
theorem CKR.mono{Kv:CV}{K:KP} (q:CKR P B Sb c h Sz Kv K) (l:c.le c') (f:vG (cJ B c h) Sz S' (cJ B c' h')):CKR P B Sb c' h' S' Kv K:=
 fun c2 h2 S2 A A' e l2 f2=>q c2 h2 S2 A A' e (l.trans l2) (f.trans f2)
theorem LKR.mono{Kv:qZ->List V->Nat->Hp->Prop}{K:qZ->List Value->Nat->List Nat->St->Bool} (q:LKR P B Sb c h Sz Kv K) (l:c.le c') (f:vG (cJ B c h) Sz S' (cJ B c' h')):LKR P B Sb c' h' S' Kv K:=
 fun c2 h2 S2 vs ws n e l2 f2=>q c2 h2 S2 vs ws n e (l.trans l2) (f.trans f2)
theorem DC{A:VA}{A':aO} (a:AR c Sz C A A'):∀{l:List Nat} {k:List V->Prop} {k':List Value->Bool},DA l A k->(∀vs ws,iT c Sz C vs ws->k vs->k' ws=true)->uL l A' k'=true:=by
 intro l;induction l with
 | nil=>intro k k' hv hk;exact hk [] [] .nil hv
 | cons i l ih=>
  intro k k' hv hk;have hv:YB A.tmps i (fun v=>DA l A fun vs=>k (v::vs)):=hv;show IA A'.tmps i (fun v=>uL l A' fun vs=>k' (v::vs))=true;exact vF a hv fun v w rv hv=>ih hv fun vs ws rs hv=>hk _ _ (.cons rv rs) hv
theorem Ty{A:VA}:∀{l:List Nat} {k:List V->Prop},DA l A k->∃vs,k vs/\vs.length=l.length/\∀(j i:Nat) (v:V),l[j]? =some i->vs[j]? =some v->A.tmps.t.get i=some v:=by
 intro l;induction l with
 | nil=>intro k hv;exact⟨[],hv,rfl,fun j i v h=>by simp at h⟩
 | cons i l ih=>
  intro k hv;obtain⟨v,e,hv⟩:=Ir _ _ _ (show YB A.tmps i (fun v=>DA l A fun vs=>k (v::vs))from hv);obtain⟨vs,h1,h2,h3⟩:=ih hv;refine⟨v::vs,h1,by simp [h2],fun j x u hx hu=>?_⟩;cases j with
  | zero=>simp at hx hu;subst hx hu;exact e
  | succ j=>simp at hx hu;exact h3 j x u hx hu
theorem Tz{g:Nat}{marks:List Nat}{k:VA->Prop}{k':aO->Bool} (hk:∀X X',AR c Sz C X X'->k X->k' X'=true):∀{l:List Nat} {vs:List V} {ws:List Value} {T:Ds} {T':Tm},iT c Sz C vs ws->AR c Sz C ⟨T,g⟩ ⟨T',marks,g⟩->
 eH (β:=List V->Ds->Prop) (fun _ T=>k ⟨T,g⟩) (fun i _ ih vs T=>match vs with | v::vs=>KH v T i fun T=>ih vs T | []=>False) l vs T->
 eH (β:=List Value->Tm->Bool) (fun _ T=>k' ⟨T,marks,g⟩) (fun i _ ih vs T=>match vs with | v::vs=>nQ v T i fun T=>ih vs T | []=>false) l ws T'=true:=by
 intro l;induction l with
 | nil=>intro vs ws T T' _ a hv;exact hk _ _ a hv
 | cons i l ih=>
  intro vs ws T T' rs a hv;rw [aW]at hv ⊢;cases vs with
  | nil=>cases hv
  | cons v vs=>
   obtain⟨w,ws',rfl,rv,rs⟩:=rs.cons_inv;obtain⟨h1,h2⟩:=IT hv;show nQ w T' i _=true;rw [OE (by rw [show T'.n=T.n from a.n.symm];exact h1)];exact ih rs (a.put rv) h2
theorem AR.leaf{n g:Nat}{marks:List Nat} (m:SH c Sz C marks):AR c Sz C ⟨⟨.leaf,n⟩,g⟩ ⟨⟨.leaf,n⟩,marks,g⟩:=⟨rfl,rfl,m,fun i v e=>(by cases e),fun i _=>rfl⟩
theorem EM{l:List Nat}{vs:List V}{ws:List Value}{n g:Nat}{k:VA->Prop}{k':aO->Bool}{marks:List Nat} (m:SH c Sz C marks) (rs:iT c Sz C vs ws) (hv:EI l vs n g k) (hk:∀X X',AR c Sz C X X'->k X->k' X'=true):canonK l ws n g marks k'=true:=Tz hk rs (.leaf m) hv
variable{tb:mE}
theorem aE5 (s:VS P B Sb c h Sz) (o:fD):VS P B Sb c h (Sz.new o)/\vG (cJ B c h) Sz (Sz.new o) (cJ B c h):=by
 have fr:vG (cJ B c h) Sz (Sz.new o) (cJ B c h):=⟨Nat.le_succ _,fun j hj _=>eJ (Nat.ne_of_lt hj),fun b l=> .inl l⟩;refine⟨⟨s.base.trans (.new Sz _),s.bB,fun i o' e eg=>?_,fun i vs t n e=>?_,s.inj,s.Gs,s.room,s.KI,fun i vs t n m b e e3=>⟨(s.Gb i vs t n m b e e3).1,Nat.lt_succ_of_lt (s.Gb i vs t n m b e e3).2⟩,fun i vs t n b ws e' olds e e3 e4=>s.old i vs t n b ws e' olds e e3 (by rw [eJ (by have:=(s.Gb i vs t n n b e e3).2;omega)]at e4;exact e4)⟩,fr⟩
 ·obtain⟨b,a,a1,a2,a3,a4,a5⟩:=s.ob i o' e eg
  exact⟨b,a,a1,a2,Nat.lt_succ_of_lt a3,by rw [eJ (by omega)];exact a4,a5.mono (.refl c) fr⟩
 ·obtain⟨b,ws,olds,sz,a1,a2,a3,a4,a5,a6⟩:=s.dF i vs t n e
  exact⟨b,ws,olds,sz,a1,a2,Nat.lt_succ_of_lt a3,by rw [eJ (by omega)];exact a4,a5.mono (.refl c) fr,a6⟩
theorem Jd{k:fD->Bool}{b:Nat}{a:fD} (e:Sz.obj b=some a):nY Sz.h b k=k a:=by
 rw [mO];have e:Sz.h.get b=some a:=e;rw [e]
theorem My{l:Nat}{p:Prop} (hv:EH l h p):∃ls vs n ps as bo st pe,h l=some (.loop ls vs n ps as bo st pe)/\p:=by
 unfold EH at hv;split at hv
 ·rename_i e;exact⟨_,_,_,_,_,_,_,_,e,hv⟩
 ·cases hv
theorem aCJ{X X':aO}{Kv:CV}{K:KP}{A:VA}{pe:Option Code}{kn:aO} (e:X=X') (hn:kn=X') (h1:Kv .normal A h->K .normal X' Sz=true) (h2:Kv .ret A h->K .ret X' Sz=true) (h3:∀i,Kv (.exit i) A h->K (.exit i) X' Sz=true)
 (hv:HV pe (Kv .normal A h) (Kv .ret A h) (fun id=>Kv (.exit id) A h)):(match(generalizing:=false) pe with | none=>K .normal X Sz | some .ret=>K .ret X Sz | some (.exit id)=>K (.exit id) X Sz | _=>false)=true:=by
 subst e;unfold HV at hv;split at hv
 ·exact h1 hv
 ·exact h2 hv
 ·exact h3 _ hv
 ·cases hv
theorem RK{Ev:VE}{E:Env} (r:ER P B Sb Ev E){A:VA}{A':aO} (s:VS P B Sb c h Sz) (a:AR c Sz (cJ B c h) A A'){ls:List Nat}{vs:List V} (hl:vs.length=ls.length) (hg:∀(j i:Nat) (v:V),ls[j]? =some i->vs[j]? =some v->A.tmps.t.get i=some v){g:FuncId}{fa fc:List V}{fa' fc':List Value}
 (ra:iT c Sz (cJ B c h) fa fa') (rc:iT c Sz (cJ B c h) fc fc') {ps:List Tmp} {as bo:Code} {Kv:CV} {K:KP} (k:CKR P B Sb c h Sz Kv K)
 (hv:zT Ev (.func g fa fc) ls vs A.tmps.n ps as bo h fun pe h'=>HV pe (Kv .normal A h') (Kv .ret A h') fun id=>Kv (.exit id) A h'):
 (sH Sz (.loop A'.tmps ps as bo .ready none) fun l Sz=>wP fa' [.func (.yield l) #[] #[]] fun as=>wP as fc' fun as=>E.call g as Sz fun _ Sz=>
  nY Sz.h l fun o=>match o with
   | .loop tm ps as bo st pe=>match st with
    | .busy=>false
    | _=>mS Sz l (.loop tm ps as bo .exhausted pe) fun Sz=>match pe with
     | none=>K .normal A' Sz
     | some .ret=>K .ret A' Sz
     | some (.exit id)=>K (.exit id) A' Sz
     | _=>false
   | _=>false)=true:=by
 obtain⟨l,h0,h1,h2⟩:=s.fresh;have hv:=hv l h0;rw [fO]
 obtain⟨s1,le,fr,hb⟩:=s.aAy h0 h1 h2 (o:= .loop ls vs A.tmps.n ps as bo .ready none) (ao:= .loop A'.tmps ps as bo .ready none) rfl (fun d S' C' le f=>⟨_,rfl,a.n,hl,fun j i v e1 e2=>by
  obtain⟨w,g1,g2⟩:=a.got i v (hg j i v e1 e2);exact⟨w,g1,g2.mono le f⟩⟩)
 rw [jB,jB];have ry:dX (c.putZ l Sz.n) (Sz.new (.loop A'.tmps ps as bo .ready none)) (cJ B (c.putZ l Sz.n) (upd h l (.loop ls vs A.tmps.n ps as bo .ready none))) (.yield l) (.func (.yield Sz.n) #[] #[]):= .yield hb;refine r.call' g s1 (((ra.mono le fr).app (.cons ry .nil)).app (rc.mono le fr)) ?_ hv;intro c' h' S' v w l2 f2 s2 rv hv;unfold Ik at hv;split at hv
 ·rename_i ls' vs' n' ps' as' bo' st pe e
  obtain⟨b,ao,b1,b2,b3,b4,b5⟩:=s2.ob l _ e rfl;have hbb:=l2.Zz _ _ hb;rw [hbb]at b1;injection b1 with b1;subst b1;obtain⟨T,rfl,b6,b7,b8⟩:=b5;show(nY S'.h Sz.n _)=true;rw [Jd b4];simp only
  have fin:∀{p:Prop},(HV pe (Kv .normal A (upd h' l (.loop ls' vs' n' ps' as' bo' .exhausted pe))) (Kv .ret A (upd h' l (.loop ls' vs' n' ps' as' bo' .exhausted pe))) fun id=>Kv (.exit id) A (upd h' l (.loop ls' vs' n' ps' as' bo' .exhausted pe)))->
   (mS S' Sz.n (.loop T ps' as' bo' .exhausted pe) fun Sz=>match(generalizing:=false) pe with
    | none=>K .normal A' Sz
    | some .ret=>K .ret A' Sz
    | some (.exit id)=>K (.exit id) A' Sz
    | _=>false)=true:=by
   intro _ hv;rw [eQ]
   obtain⟨s3,f3⟩:=s2.Iq e rfl hbb (o:= .loop ls' vs' n' ps' as' bo' .exhausted pe) (ao:= .loop T ps' as' bo' .exhausted pe) rfl (fun S' C' f=>⟨T,rfl,b6,b7,fun j i v e1 e2=>by
    obtain⟨w,g1,g2⟩:=b8 j i v e1 e2;exact⟨w,g1,g2.mono (.refl _) f⟩⟩)
   have OL:=le.trans l2;have frA:=(fr.trans f2).trans f3;have aA:=a.mono OL frA;refine aCJ (X:=A') (X':=A') (Kv:=Kv) (K:=K) (kn:=A') rfl rfl (fun hv=>k _ _ _ A A' .normal OL frA s3 aA hv) (fun hv=>k _ _ _ A A' .ret OL frA s3 aA hv) (fun i hv=>k _ _ _ A A' (.exit i) OL frA s3 aA hv) hv
  split at hv
  ·cases hv
  ·rename_i hb'
   split
   ·exact absurd rfl hb'
   ·exact fin (p:=True) hv
 ·cases hv
theorem Mz{Ev:VE}{E:Env} (r:ER P B Sb Ev E){ro ro':Option Nat}{f:Operand}{ps:Array Tmp}{as bo:Code}{A:VA}{A':aO}{Kv:CV}{K:KP} (s:VS P B Sb c h Sz) (hro:RoV c ro ro') (a:AR c Sz (cJ B c h) A A') (k:CKR P B Sb c h Sz Kv K) (hv:(Dz tb ro f ps as bo).f Ev A h Kv):KQ E ro' f ps as bo A' Sz K=true:=by
 unfold Dz at hv;unfold KQ;refine bG a hv fun fv fw rf hv=>?_;obtain⟨vs,hv,hl,hg⟩:=Ty hv;rcases hro with ⟨rfl,rfl⟩ | ⟨l,b,rfl,rfl,hb⟩
 ·have hv:zT Ev fv (Dy tb bo) vs A.tmps.n ps.toList as bo h _:=hv
  cases rf with
  | @func g fa fc fa' fc' la lc ha hc=>
   simp only;rw [fO];obtain⟨s1,f1⟩:=aE5 s .defers
   have m1:SH c (Sz.new .defers) (cJ B c h) (Sz.n::A'.marks):=by
    have m:=a.marks.mono (.refl c) f1;refine⟨m.n0,List.nodup_cons.2 ⟨fun hx=>?_,m.nd⟩,fun d hd=>?_⟩
    ·exact Nat.lt_irrefl _ (a.marks.ok _ hx).2.1
    ·rcases List.mem_cons.1 hd with rfl | hd
     ·exact⟨a.marks.n0,Nat.lt_succ_self _,fun x=>Nat.lt_irrefl _ (s.Ts x),oD⟩
     ·exact m.ok d hd
   have a0:=a.mono (.refl c) f1;have a1:AR c (Sz.new .defers) (cJ B c h) A ⟨A'.tmps,Sz.n::A'.marks,A'.g⟩:=⟨a0.n,a0.g,m1,a0.got,a0.abs⟩;exact RK r s1 a1 hl hg ((⟨la,ha⟩:iT _ _ _ fa fa').mono (.refl c) f1) ((⟨lc,hc⟩:iT _ _ _ fc fc').mono (.refl c) f1) (fun c' h' S' X X' e l2 f2=>k c' h' S' X X' e l2 (f1.trans f2)) hv
  | _=>cases hv
 ·have hv:EH l h (zT Ev fv (Dy tb bo) vs A.tmps.n ps.toList as bo h _):=hv
  obtain⟨_,_,_,_,_,_,_,_,e,hv⟩:=My hv;cases rf with
  | @func g fa fc fa' fc' la lc ha hc=>
   simp only;obtain⟨b',ao,b1,b2,b3,b4,b5⟩:=s.ob l _ e rfl;rw [hb]at b1;injection b1 with b1;subst b1;obtain⟨T,rfl,_⟩:=b5;rw [Jd b4];exact RK r s a hl hg ⟨la,ha⟩ ⟨lc,hc⟩ k hv
  | _=>cases hv
theorem IW{Ev:VE}{E:Env} (r:ER P B Sb Ev E){ro ro':Option Nat}{lv:Code->LpV}{lx:Code->LpT} (hl:∀a,aDr P B Sb Ev E ro ro' (lv a) (lx a)):∀(q:Code) {c:Cx} {h:Hp} {Sz:St} {A:VA} {A':aO} {Kv:CV} {K:KP},
 VS P B Sb c h Sz->RoV c ro ro'->AR c Sz (cJ B c h) A A'->CKR P B Sb c h Sz Kv K->(mI P tb ro lv q).f Ev A h Kv->(kO P tb lx q).f E ro' A' Sz K=true:=by
 intro q;induction q with
 | skip=>intro c h Sz A A' Kv K s hro a k hv;exact k c h Sz A A' .normal (.refl c) (.refl _ Sz) s a hv
 | label l=>intro c h Sz A A' Kv K s hro a k hv;exact k c h Sz A A' .normal (.refl c) (.refl _ Sz) s a hv
 | ret=>intro c h Sz A A' Kv K s hro a k hv;exact k c h Sz A A' .ret (.refl c) (.refl _ Sz) s a hv
 | exit i=>intro c h Sz A A' Kv K s hro a k hv;exact k c h Sz A A' (.exit i) (.refl c) (.refl _ Sz) s a hv
 | goto l=>intro c h Sz A A' Kv K s hro a k hv;cases hv
 | refuse l=>intro c h Sz A A' Kv K s hro a k hv;cases hv
 | rangeFunc f ps as bo _ _=>
  intro c h Sz A A' Kv K s hro a k hv;have hv:(Dz tb ro f ps as bo).f Ev A h Kv:=hv;exact Mz r s hro a k hv
 | region i ops draw=>
  intro c h Sz A A' Kv K s hro a k hv;have hv:(aCC P ops draw).f Ev A h (fun A Sz=>Kv .normal A Sz):=hv;show(Rs P ops draw).f E A' Sz (fun A Sz=>K .normal A Sz)=true;exact aAU r s a (fun c' h' S' X X' l f s' x hv=>k c' h' S' X X' .normal l f s' x hv) hv
 | seq x y Uy ihy=>
  intro c h Sz A A' Kv K s hro a k hv;refine Uy s hro a ?_ (show(mI P tb ro lv x).f Ev A h (Qf P (xQ tb y) (mI P tb ro lv y) Ev Kv)from hv);intro c' h' S' X X' e l f s' x hv;cases e with
  | normal=>
   unfold Qf at hv;show Gr P (xQ tb y) (kO P tb lx y) E ro' K .normal X' S'=true;unfold Gr;simp only at hv ⊢;cases hj:xQ tb y with
   | none=>simp only [hj]at hv ⊢;exact ihy s' (hro.mono l) x (k.mono l f) hv
   | some ls=>
    simp only [hj]at hv ⊢;refine DC x hv fun vs ws rs hv=>?_;unfold aAt at hv;unfold Oi;rw [r.eM]at hv;cases hm:E.most with
    | zero=>rw [hm]at hv;cases hv
    | succ m=>
     rw [hm]at hv;obtain⟨h2,hle,hv⟩:=hv;obtain⟨s2,f2⟩:=s'.drop hle;have hv:EI ls vs X.tmps.n P.globals.size (fun A=>(mI P tb ro lv y).f Ev A h2 Kv):=hv;rw [x.n]at hv;show canonK ls ws X'.tmps.n P.globals.size X'.marks (fun A=>(kO P tb lx y).f E ro' A S' K)=true;exact EM (x.marks.mono (.refl _) f2) (rs.mono (.refl _) f2) hv fun Y Y' y hv=>ihy s2 (hro.mono l) y ((k.mono l f).mono (.refl _) f2) hv
  | exit i=>exact k c' h' S' X X' (.exit i) l f s' x hv
  | ret=>exact k c' h' S' X X' .ret l f s' x hv
 | cond b x y Uy ihy=>
  intro c h Sz A A' Kv K s hro a k hv;have hv:(tX b).f A (fun v=>iG v ((mI P tb ro lv x).f Ev A h Kv) ((mI P tb ro lv y).f Ev A h Kv)):=hv;show(sC b).f A' (fun v=>match v with | .bool b=>dN b ((kO P tb lx x).f E ro' A' Sz K) ((kO P tb lx y).f E ro' A' Sz K) | _=>false)=true;rw [gI];refine bG a hv fun v w rv hv=>?_;cases rv with
  | @bool b=>
   cases b with
   | true=>exact Uy s hro a k hv
   | false=>exact ihy s hro a k hv
  | _=>cases hv
 | block i x ih=>
  intro c h Sz A A' Kv K s hro a k hv;refine ih s hro a ?_ (show(mI P tb ro lv x).f Ev A h (Ml i Kv)from hv);intro c' h' S' X X' e l f s' x hv;cases e with
  | normal=>exact k c' h' S' X X' .normal l f s' x hv
  | ret=>exact k c' h' S' X X' .ret l f s' x hv
  | exit j=>
   show(match Nat.beq j i with | true=>K .normal X' S' | false=>K (.exit j) X' S')=true;have hv:OC j i (Kv .normal X h') (Kv (.exit j) X h'):=hv;unfold OC at hv;cases hj:Nat.beq j i with
   | true=>rw [hj]at hv;exact k c' h' S' X X' .normal l f s' x hv
   | false=>rw [hj]at hv;exact k c' h' S' X X' (.exit j) l f s' x hv
 | scope x ih=>
  intro c h Sz A A' Kv K s hro a k hv;exact ih s hro a k hv
 | loop x ih=>
  intro c h Sz A A' Kv K s hro a k hv;have hv:DA (rF tb x) A (fun vs=>lv x Ev vs A.tmps.n h (Tq P tb x Kv)):=hv;show uL (rF tb x) A' (fun vs=>lx x E ro' vs A'.tmps.n A'.marks Sz (aDY P tb x K))=true;refine DC a hv fun vs ws rs hv=>?_;rw [<-a.n];refine hl x s hro a.marks rs ?_ hv;intro c' h' S' vs ws n e l f s' rs hv marks m;exact EM m rs hv fun X X' x hx=>k c' h' S' X X' e l f s' x hx
theorem Ed{Ev:VE}{E:Env} (r:ER P B Sb Ev E){ro ro':Option Nat}:∀(m:Nat) (a:Code),aDr P B Sb Ev E ro ro' (JD P tb ro m a) (Rv P tb m a):=by
 intro m;induction m with
 | zero=>intro a c h Sz vs ws n marks Kv K s hro mk rs k hv;cases hv
 | succ m ih=>
  intro a
  have go:∀(j:Nat) {c:Cx} {h:Hp} {Sz:St} {vs:List V} {ws:List Value} {n:Nat} {marks:List Nat} {Kv:qZ->List V->Nat->Hp->Prop} {K:qZ->List Value->Nat->List Nat->St->Bool},VS P B Sb c h Sz->RoV c ro ro'->SH c Sz (cJ B c h) marks->iT c Sz (cJ B c h) vs ws->LKR P B Sb c h Sz Kv K->IQ P tb a (mI P tb ro (JD P tb ro m) a) Ev Kv j vs n h->MW P tb a (kO P tb (Rv P tb m) a) E ro' K j ws n marks Sz=true:=by
   intro j;induction j with
   | zero=>intro c h Sz vs ws n marks Kv K s hro mk rs k hv;cases hv
   | succ j ihj=>
    intro c h Sz vs ws n marks Kv K s hro mk rs k hv;obtain⟨h2,hle,hv⟩:=hv;obtain⟨s2,f2⟩:=s.drop hle;show canonK (rF tb a) ws n P.globals.size marks (fun A=>(kO P tb (Rv P tb m) a).f E ro' A Sz (Cc tb a (MW P tb a (kO P tb (Rv P tb m) a) E ro' K j) K))=true;refine EM (mk.mono (.refl _) f2) (rs.mono (.refl _) f2) hv fun X X' x hv=>?_;refine IW r ih a s2 hro x ?_ hv;intro c' h' S' Y Y' e l f s' y hv;have kk:=(k.mono (.refl _) f2).mono l f;cases e with
    | normal=>
     have hv:DA (rF tb a) Y (fun vs=>IQ P tb a (mI P tb ro (JD P tb ro m) a) Ev Kv j vs Y.tmps.n h'):=hv;show uL (rF tb a) Y' (fun vs=>MW P tb a (kO P tb (Rv P tb m) a) E ro' K j vs Y'.tmps.n Y'.marks S')=true;refine DC y hv fun vs ws rs hv=>?_;rw [<-y.n];exact ihj s' (hro.mono l) y.marks rs kk hv
    | exit i=>
     have hv:DA (outOf tb a (.exit i)) Y (fun vs=>Kv (.exit i) vs Y.tmps.n h'):=hv;show uL (outOf tb a (.exit i)) Y' (fun vs=>K (.exit i) vs Y'.tmps.n Y'.marks S')=true;refine DC y hv fun vs ws rs hv=>?_;rw [<-y.n];exact kk c' h' S' vs ws _ _ (.refl _) (.refl _ S') s' rs hv _ y.marks
    | ret=>
     have hv:DA (outOf tb a .ret) Y (fun vs=>Kv .ret vs Y.tmps.n h'):=hv;show uL (outOf tb a .ret) Y' (fun vs=>K .ret vs Y'.tmps.n Y'.marks S')=true;refine DC y hv fun vs ws rs hv=>?_;rw [<-y.n];exact kk c' h' S' vs ws _ _ (.refl _) (.refl _ S') s' rs hv _ y.marks
  intro c h Sz vs ws n marks Kv K s hro mk rs k hv;have hv:IQ P tb a (mI P tb ro (JD P tb ro m) a) Ev Kv Ev.most vs n h:=hv;rw [r.eM]at hv;exact go _ s hro mk rs k hv
theorem aAV{k:Ds->Prop}{k':Tm->Bool}{g:Nat}{marks:List Nat} (hk:∀T T',AR c Sz C ⟨T,g⟩ ⟨T',marks,g⟩->k T->k' T'=true):∀{vs:List V} {ws:List Value} {i:Nat} {T:Ds} {T':Tm},iT c Sz C vs ws->AR c Sz C ⟨T,g⟩ ⟨T',marks,g⟩->
 eH (β:=Nat->Ds->Prop) (fun _ T=>k T) (fun a _ ih i T=>KH a T i fun T=>ih (Nat.succ i) T) vs i T->
 eH (β:=Nat->Tm->Bool) (fun _ T=>k' T) (fun a _ ih i T=>nQ a T i fun T=>bA (Nat.succ i) fun i=>ih i T) ws i T'=true:=by
 intro vs;induction vs with
 | nil=>intro ws i T T' rs a hv;rw [rs.uM];exact hk _ _ a hv
 | cons v vs ih=>
  intro ws i T T' rs a hv;obtain⟨w,ws',rfl,rv,rs⟩:=rs.cons_inv;rw [aW]at hv ⊢;obtain⟨h1,h2⟩:=IT hv;rw [OE (by rw [show T'.n=T.n from a.n.symm];exact h1),aT];exact ih rs (a.put rv) h2
theorem Ua{k:Ds->Prop}{k':Tm->Bool}{g:Nat}{marks:List Nat} (hk:∀T T',AR c Sz C ⟨T,g⟩ ⟨T',marks,g⟩->k T->k' T'=true):∀{ps:List Tmp} {vs:List V} {ws:List Value} {T:Ds} {T':Tm},iT c Sz C vs ws->AR c Sz C ⟨T,g⟩ ⟨T',marks,g⟩->aAv ps vs T k->Fd ps ws T' k'=true:=by
 intro ps;induction ps with
 | nil=>
  intro vs ws T T' rs a hv;cases vs with
  | nil=>rw [rs.uM];exact hk _ _ a hv
  | cons v vs=>cases hv
 | cons p ps ih=>
  intro vs ws T T' rs a hv;cases vs with
  | nil=>cases hv
  | cons v vs=>
   obtain⟨w,ws',rfl,rv,rs⟩:=rs.cons_inv;have hv:KH v T p (fun T=>aAv ps vs T k):=hv;obtain⟨h1,h2⟩:=IT hv;show nQ w T' p (fun T=>Fd ps ws' T k')=true;rw [OE (by rw [show T'.n=T.n from a.n.symm];exact h1)];exact ih rs (a.put rv) h2
def Cx.at (c:Cx) (n:Nat):Cx:=⟨c.Zz,c.Gz,c.Yz,n⟩
theorem Cx.at0 (c:Cx) (n:Nat):c.le0 (c.at n):=⟨fun _ _ e=>e,fun _ _ _ e=>e,fun _ _ e=>e⟩
theorem Fc.refl:Fc C Sz Sz C:=⟨Nat.le_refl _,fun _ _ _ _ _ _ e=>e,fun _ h=> .inl h⟩
theorem VS.at (s:VS P B Sb c h Sz) (n:Nat):VS P B Sb (c.at n) h Sz:=by
 refine⟨s.base,s.bB,fun i o e eg=>?_,fun i vs t m e=>?_,s.inj,s.Gs,s.room,s.KI,s.Gb,s.old⟩
 ·obtain⟨b,a,a1,a2,a3,a4,a5⟩:=s.ob i o e eg
  exact⟨b,a,a1,a2,a3,a4,a5.mono' (c.at0 n) .refl⟩
 ·obtain⟨b,ws,olds,sz,a1,a2,a3,a4,a5,a6⟩:=s.dF i vs t m e
  exact⟨b,ws,olds,sz,a1,a2,a3,a4,a5.mono' (c.at0 n) .refl,a6⟩
def kill (l:List Nat) (Sz:St):St:=l.foldl (fun Sz d=>Sz.set d .dead) Sz
theorem LL:∀(l:List Nat) (Sz:St),(kill l Sz).n=Sz.n:=by
 intro l;induction l with
 | nil=>intro Sz;rfl
 | cons d l ih=>intro Sz;exact ih _
theorem wG:∀(l:List Nat) (Sz:St) {b:Nat},b∉l->(kill l Sz).obj b=Sz.obj b:=by
 intro l;induction l with
 | nil=>intro Sz b _;rfl
 | cons d l ih=>
  intro Sz b hb;have:=ih (Sz.set d .dead) (b:=b) (fun h=>hb (.tail _ h));refine Eq.trans this ?_;exact gL fun e=>hb (e▸ .head _)
theorem Ub:∀(l:List Nat) (Sz:St) (k:St->Bool),l.Nodup->(∀d∈l,Sz.obj d=some .defers)->BO l Sz k=k (kill l Sz):=by
 intro l;induction l with
 | nil=>intro Sz k _ _;rfl
 | cons d l ih=>
  intro Sz k hn ho;show(nY Sz.h d fun o=>match o with | .defers=>mS Sz d .dead fun Sz=>BO l Sz k | _=>false)=_;rw [Jd (ho d (.head _))];simp only;rw [eQ];obtain⟨h1,h2⟩:=List.nodup_cons.1 hn;exact ih _ k h2 fun x hx=>by rw [gL (fun e:x=d=>h1 (e▸hx))];exact ho x (.tail _ hx)
theorem Qi{l:List Nat} (hd:∀d∈l,Sz.obj d=some .defers):Fc C Sz (kill l Sz) C:=by
 refine⟨Nat.le_of_eq (LL l Sz).symm,fun b h1 h2 vs e ck ho=>?_,fun _ h=> .inl h⟩;rw [wG l Sz (fun hb=>by rw [hd b hb]at ho;cases ho)];exact ho
theorem VS.kill (s:VS P B Sb c h Sz){l:List Nat} (hd:∀d∈l,Sb.n<=d/\¬cJ B c h d/\Sz.obj d=some .defers):VS P B Sb c h (Am.kill l Sz):=by
 have fc:Fc (cJ B c h) Sz (Am.kill l Sz) (cJ B c h):=Qi fun d hx=>(hd d hx).2.2;have l0:c.le0 c:=⟨fun _ _ e=>e,fun _ _ _ e=>e,fun _ _ e=>e⟩;refine⟨⟨by rw [LL];exact s.base.n,fun j hj=>?_⟩,s.bB,fun i o e eg=>?_,fun i vs t m e=>?_,s.inj,s.Gs,s.room,s.KI,fun i vs t n m b e e3=>by rw [LL];exact s.Gb i vs t n m b e e3,fun i vs t n b ws e' olds e e3 e4=>s.old i vs t n b ws e' olds e e3 (by rw [wG l Sz (fun hx=>(hd b hx).2.1 (.inr ⟨i,.inr ⟨vs,t,n,n,e,e3⟩⟩))]at e4;exact e4)⟩
 ·rw [wG l Sz (fun hx=>by have:=(hd j hx).1;omega)]
  exact s.base.same j hj
 ·obtain⟨b,a,a1,a2,a3,a4,a5⟩:=s.ob i o e eg
  have hb:b∉l:=fun hx=>(hd b hx).2.1 (.inr ⟨i,.inl ⟨o,e,eg,a1⟩⟩);exact⟨b,a,a1,a2,by rw [LL];exact a3,by rw [wG l Sz hb];exact a4,a5.mono' l0 fc⟩
 ·obtain⟨b,ws,olds,sz,a1,a2,a3,a4,a5,a6⟩:=s.dF i vs t m e
  have hb:b∉l:=fun hx=>(hd b hx).2.1 (.inr ⟨i,.inr ⟨vs,t,m,m,e,a1⟩⟩);exact⟨b,ws,olds,sz,a1,a2,by rw [LL];exact a3,by rw [wG l Sz hb];exact a4,a5.mono' l0 fc,a6⟩
theorem Ee (s:VS P B Sb c h Sz){A:VA}{A':aO} (a:AR c Sz (cJ B c h) A A'):∀{rs:List ResultVar} {k:List V->Prop} {k':List Value->Bool},AI P rs A h k->(∀vs ws,iT c Sz (cJ B c h) vs ws->k vs->k' ws=true)->mV P rs A' Sz k'=true:=by
 intro rs;induction rs with
 | nil=>intro k k' hv hk;exact hk [] [] .nil hv
 | cons x rs ih=>
  intro k k' hv hk;cases x with
  | tmp t=>
   have hv:YB A.tmps t (fun v=>AI P rs A h fun vs=>k (v::vs)):=hv;show IA A'.tmps t (fun v=>mV P rs A' Sz fun vs=>k' (v::vs))=true;exact vF a hv fun v w rv hv=>ih hv fun vs ws rs hv=>hk _ _ (.cons rv rs) hv
  | cell x t=>
   have e1:AI P (.cell x t::rs) A h k=match pV P t,bL P t with
    | some false,_=>YB A.tmps x fun a=>aS a h fun v _=>AI P rs A h fun vs=>k (v::vs)
    | some true,some (n+1)=>YB A.tmps x fun a=>bF (n+1) a h fun v _=>AI P rs A h fun vs=>k (v::vs)
    | _,_=>False:=rfl
   rw [e1]at hv;show IA A'.tmps x (fun a=>BV P t a Sz fun v _=>mV P rs A' Sz fun vs=>k' (v::vs))=true;split at hv
   ·rename_i h1
    refine vF a hv fun v w rv hv=>?_;rw [PB h1];exact Qg s rv (fun u y ru hu=>ih hu fun vs ws rs hv=>hk _ _ (.cons ru rs) hv) hv
   ·rename_i n h1 h2
    refine vF a hv fun v w rv hv=>?_;rw [PC h1 h2];exact Is s (by omega) rv (fun u y ru hu=>ih hu fun vs ws rs hv=>hk _ _ (.cons ru rs) hv) hv
   ·cases hv
theorem WP (s:VS P B Sb c h Sz){v:V}{w:Value} (rv:dX c Sz (cJ B c h) v w){Kv:KV}{K:VK} (k:KR P B Sb c h Sz Kv K) (hv:bC v h Kv):K w Sz=true:=by
 obtain⟨h',u,hle,hf,hv⟩:=hv;obtain⟨d,O,le,s2,f2,r2⟩:=aE3 s hle rv hf;exact k d h' Sz _ w le f2 s2 r2 (hv O)
theorem aCK{tb:FuncId->mE}{Ev:VE}{E:Env} (r:ER P B Sb Ev E) (f:FuncId){args:List V}{ws:List Value}{Kv:KV}{K:VK} (s:VS P B Sb c h Sz) (ra:iT c Sz (cJ B c h) args ws) (k:KR P B Sb c h Sz Kv K) (hv:lG P tb f Ev args h Kv):fnX P tb f E ws Sz K=true:=by
 unfold lG at hv;unfold fnX;cases hf:P.funcs[f]? with
 | none=>simp only [hf]at hv
 | some fn=>
  simp only [hf]at hv ⊢;cases hb:fn.body with
  | none=>simp only [hb]at hv
  | some q=>
   simp only [hb]at hv ⊢;rw [aT];have m0:SH (c.at Sz.n) Sz (cJ B c h) []:=⟨Nat.le_refl _,.nil,fun d hd=>by cases hd⟩;refine aAV (c:=c.at Sz.n) (g:=P.globals.size) (fun T T' a hv=>?_) (ra.mono' (c.at0 _) .refl) (.leaf m0) hv;refine IW r (Ed r vI) q (s.at Sz.n) (.inl ⟨rfl,rfl⟩) a ?_ hv;intro c' h' S' X X' e l f s' x hv
   have fin:AI P fn.results.toList X h' (fun vs=>match vs with | [v]=>bC v h' Kv | vs=>bC (.tuple vs) h' Kv)->BO X'.marks S' (fun Sz=>mV P fn.results.toList X' Sz fun vs=>match vs with | [v]=>K v Sz | vs=>K (.tuple ⟨vs⟩) Sz)=true:=by
    intro hv;have hm:=x.marks;have hn0:c'.n0=Sz.n:=l.n0;rw [Ub X'.marks S' _ hm.nd fun d hd=>(hm.ok d hd).2.2.2];have s1:VS P B Sb c' h' (kill X'.marks S'):=s'.kill fun d hd=>⟨by have:=(hm.ok d hd).1;have:=s.base.n;omega,(hm.ok d hd).2.2.1,(hm.ok d hd).2.2.2⟩;have s2:VS P B Sb (c'.at c.n0) h' (kill X'.marks S'):=s1.at c.n0;have gP:c.le (c'.at c.n0):=⟨fun i b e=>l.Zz i b e,fun i n v e=>l.Gz i n v e,fun i v e=>l.Yz i v e,rfl⟩
    have f2:vG (cJ B c h) Sz (kill X'.marks S') (cJ B c' h'):=by
     refine⟨by rw [LL];exact f.n,fun b h1 h2=>?_,f.sub⟩;rw [wG _ _ fun hx=>by have:=(hm.ok b hx).1;omega];exact f.same b h1 h2
    have fc:Fc (cJ B c' h') S' (kill X'.marks S') (cJ B c' h'):=Qi fun d hd=>(hm.ok d hd).2.2.2
    have x2:AR c' (kill X'.marks S') (cJ B c' h') X ⟨X'.tmps,[],X'.g⟩:=
     ⟨x.n,x.g,⟨by rw [LL];exact hm.n0,.nil,fun d hd=>by cases hd⟩,fun i v e=>let⟨w,p,q⟩:=x.got i v e;⟨w,p,(q.mono' ⟨fun _ _ e=>e,fun _ _ _ e=>e,fun _ _ e=>e⟩ fc)⟩,x.abs⟩
    show mV P fn.results.toList ⟨X'.tmps,[],X'.g⟩ (kill X'.marks S') (fun vs=>match vs with | [v]=>K v (kill X'.marks S') | vs=>K (.tuple ⟨vs⟩) (kill X'.marks S'))=true;refine Ee s1 x2 hv fun vs ws rs hv=>?_;have rs:iT (c'.at c.n0) (kill X'.marks S') (cJ B (c'.at c.n0) h') vs ws:=rs.mono' (c'.at0 c.n0) .refl;have kk:KR P B Sb (c'.at c.n0) h' (kill X'.marks S') Kv K:=fun c2 h2 S2 v w l2 f3=>k c2 h2 S2 v w (gP.trans l2) (f2.trans f3)
    match vs,ws,rs,hv with
    | [v],ws,rs,hv=>
     obtain⟨w,ws',rfl,rv,rs⟩:=rs.cons_inv;rw [rs.uM];exact WP s2 rv kk hv
    | [],ws,rs,hv=>
     rw [rs.uM];exact WP s2 (.tuple (a':=[]) rfl fun k v w e=>by simp at e) kk hv
    | a::b::vs,ws,rs,hv=>
     obtain⟨w,ws',rfl,rv,rs⟩:=rs.cons_inv;obtain⟨w2,ws2,rfl,ON,rs⟩:=rs.cons_inv;exact WP s2 (.tuple (iT.cons rv (.cons ON rs)).len (iT.cons rv (.cons ON rs)).rd) kk hv
   cases e with
   | normal=>exact fin hv
   | ret=>exact fin hv
   | exit i=>cases hv
theorem aAW{T:Tm}{g:Nat}:∀{ls:List Nat} {vs:List V},vs.length=ls.length->(∀(j i:Nat) (v:V),ls[j]? =some i->vs[j]? =some v->∃w,T.t.get i=some w/\dX c Sz C v w)->∃ws,iT c Sz C vs ws/\∀k':List Value->Bool,uL ls ⟨T,[],g⟩ k'=k' ws:=by
 intro ls;induction ls with
 | nil=>
  intro vs hl _;obtain rfl:vs=[]:=List.eq_nil_of_length_eq_zero (by simpa using hl);exact⟨[],.nil,fun k'=>rfl⟩
 | cons i ls ih=>
  intro vs hl hg;cases vs with
  | nil=>simp at hl
  | cons v vs=>
   obtain⟨w,e,rv⟩:=hg 0 i v rfl rfl;obtain⟨ws,rs,hk⟩:=ih (vs:=vs) (by simpa using hl) fun j x u h1 h2=>hg (j+1) x u (by simpa using h1) (by simpa using h2);refine⟨w::ws,.cons rv rs,fun k'=>?_⟩;show IA T i (fun v=>uL ls ⟨T,[],g⟩ fun vs=>k' (v::vs))=_;unfold IA;rw [mO,e];exact hk _
theorem PY{l b:Nat}{st:LoopState}{pe:Option Code}{bb:Bool}{Kv:KV}{K:VK} (s:VS P B Sb c h Sz) (hb:c.Zz l=some b) (k:KR P B Sb c h Sz Kv K) (hv:yB l st pe bb h Kv):
 ∃T ps as bo st' Ni,Sz.obj b=some (.loop T ps as bo st' Ni)/\K (.bool bb) (Sz.set b (.loop T ps as bo st pe))=true:=by
 unfold yB at hv;split at hv
 ·rename_i ls vs n ps as bo st' Ni e
  obtain⟨b',ao,b1,b2,b3,b4,b5⟩:=s.ob l _ e rfl;rw [hb]at b1;injection b1 with b1;subst b1;obtain⟨T,rfl,b6,b7,b8⟩:=b5
  obtain⟨s3,f3⟩:=s.Iq e rfl hb (o:= .loop ls vs n ps as bo st pe) (ao:= .loop T ps as bo st pe) rfl (fun S' C' f=>⟨T,rfl,b6,b7,fun j i v e1 e2=>by
   obtain⟨w,g1,g2⟩:=b8 j i v e1 e2;exact⟨w,g1,g2.mono (.refl _) f⟩⟩)
  exact⟨T,ps,as,bo,st',Ni,b4,k _ _ _ _ _ (.refl _) f3 s3 .bool hv⟩
 ·cases hv
theorem Na{tb:FuncId->mE}{Ev:VE}{E:Env} (r:ER P B Sb Ev E) (l b:Nat){args:List V}{ws:List Value}{Kv:KV}{K:VK} (s:VS P B Sb c h Sz) (hb:c.Zz l=some b) (ra:iT c Sz (cJ B c h) args ws) (k:KR P B Sb c h Sz Kv K) (hv:LG P tb Ev l args h Kv):UT P tb E b ws Sz K=true:=by
 unfold LG at hv;split at hv
 ·rename_i ls vs n ps as bo st pe e
  obtain⟨rfl,hv⟩:=hv;obtain⟨b',ao,b1,b2,b3,b4,b5⟩:=s.ob l _ e rfl;rw [hb]at b1;injection b1 with b1;subst b1;obtain⟨T,rfl,rfl,b7,b8⟩:=b5;unfold UT;rw [Jd b4];simp only;have m0:SH (c.at Sz.n) Sz (cJ B c h) []:=⟨Nat.le_refl _,.nil,fun d hd=>by cases hd⟩;obtain⟨us,rs,hus⟩:=aAW (g:=P.globals.size) b7 b8;rw [hus];unfold HW at hv;refine EM (c:=c.at Sz.n) m0 (rs.mono' (c.at0 _) .refl) hv fun X X' x hv=>?_;refine Ua (g:=P.globals.size) (marks:=[]) (fun T1 T1' a hv=>?_) (ra.mono' (c.at0 _) .refl) (show AR (c.at Sz.n) Sz (cJ B c h) ⟨X.tmps,P.globals.size⟩ ⟨X'.tmps,[],P.globals.size⟩from⟨x.n,rfl,m0,x.got,x.abs⟩) hv
  have back:∀{c':Cx} {h':Hp} {S':St},(c.at Sz.n).le c'->vG (cJ B c h) Sz S' (cJ B c' h')->KR P B Sb (c'.at c.n0) h' S' Kv K:=by
   intro c' h' S' l1 f1 c2 h2 S2 v w l2 f2;have l3:c.le (c'.at c.n0):=⟨fun i b e=>l1.Zz i b e,fun i n v e=>l1.Gz i n v e,fun i v e=>l1.Yz i v e,rfl⟩;exact k c2 h2 S2 v w (l3.trans l2) (f1.trans f2)
  refine IW r (Ed r vI) as (s.at Sz.n) (.inr ⟨l,b,rfl,rfl,hb⟩) a ?_ hv;intro c' h' S' Y Y' e' l1 f1 s' y hv;cases e' with
  | exit i=>cases hv
  | ret=>cases hv
  | normal=>
   have hv:KG l h' (fun Sz=>(mI P (tb (PE T.n bo)) (some l) (JD P (tb (PE T.n bo)) (some l) vI) bo).f Ev Y Sz (aGX l Kv)):=hv;have hb':c'.Zz l=some b:=l1.Zz _ _ hb;unfold KG at hv;split at hv
   ·rename_i ls2 vs2 n2 ps2 as2 bo2 pe2 e2
    obtain⟨b',ao,q1,q2,q3,q4,q5⟩:=s'.ob l _ e2 rfl;rw [hb']at q1;injection q1 with q1;subst q1;obtain⟨T2,rfl,q6,q7,q8⟩:=q5
    show(nY S'.h b fun o=>match o with
     | .loop tm ps as bo' .ready pe=>mS S' b (.loop tm ps as bo' .busy pe) fun Sz=>(kO P (tb (PE T.n bo)) (Rv P (tb (PE T.n bo)) vI) bo).f E (some b) Y' Sz (aBw b K)
     | _=>false)=true
    rw [Jd q4];simp only;rw [eQ]
    obtain⟨s3,f3⟩:=s'.Iq e2 rfl hb' (o:= .loop ls2 vs2 n2 ps2 as2 bo2 .busy pe2) (ao:= .loop T2 ps2 as2 bo2 .busy pe2) rfl (fun S' C' f=>⟨T2,rfl,q6,q7,fun j i v e1 e2=>by
     obtain⟨w,g1,g2⟩:=q8 j i v e1 e2;exact⟨w,g1,g2.mono (.refl _) f⟩⟩)
    refine IW r (Ed r vI) bo s3 (.inr ⟨l,b,rfl,rfl,hb'⟩) (y.mono (.refl _) f3) ?_ hv;intro c2 h2 S2 Z Z' e3 l2 f2 s2 z hv;have hb2:c2.Zz l=some b:=l2.Zz _ _ hb';have kk:=back (l1.trans l2) ((f1.trans f3).trans f2);unfold aBw;cases e3 with
    | normal=>
     obtain⟨T3,ps3,as3,bo3,st3,pe3,g1,g2⟩:=PY (s2.at c.n0) hb2 kk hv;rw [Jd g1];simp only;rw [eQ];exact g2
    | ret=>
     obtain⟨T3,ps3,as3,bo3,st3,pe3,g1,g2⟩:=PY (s2.at c.n0) hb2 kk hv;rw [Jd g1];simp only;rw [eQ];exact g2
    | exit i=>
     obtain⟨T3,ps3,as3,bo3,st3,pe3,g1,g2⟩:=PY (s2.at c.n0) hb2 kk hv;rw [Jd g1];simp only;rw [eQ];exact g2
   ·cases hv
 ·cases hv
def aCX (P:Program) (B:Nat->Prop) (Sb:St) (ovv:OvV) (ov:FuncId->Option (List Value->St->VK->Bool)):Prop:=
 (∀f,ovv f=none->ov f=none)/\∀f g,ovv f=some g->∃g',ov f=some g'/\∀{args:List V} {ws:List Value} {c:Cx} {h:Hp} {Sz:St} {Kv:KV} {K:VK},VS P B Sb c h Sz->iT c Sz (cJ B c h) args ws->KR P B Sb c h Sz Kv K->g args h Kv->g' ws Sz K=true
theorem Zd{tb:FuncId->mE}{ovv:OvV}{ov:FuncId->Option (List Value->St->VK->Bool)} (ho:aCX P B Sb ovv ov) (most:Nat):∀n,ER P B Sb (Dh P tb ovv most n) (Rw P tb ov most n):=by
 intro n;induction n with
 | zero=>exact⟨rfl,rfl,fun f args ws c h Sz Kv K s ra k hv=>(by cases hv),fun l b args ws c h Sz Kv K s hb ra k hv=>(by cases hv)⟩
 | succ n ih=>
  refine⟨rfl,rfl,fun f args ws c h Sz Kv K s ra k hv=>?_,fun l b args ws c h Sz Kv K s hb ra k hv=>Na ih l b s hb ra k hv⟩;have hv:(match ovv f with | some g=>g args h Kv | none=>lG P tb f (Dh P tb ovv most n) args h Kv):=hv;show(match ov f with | some g=>g ws Sz K | none=>fnX P tb f (Rw P tb ov most n) ws Sz K)=true;cases hf:ovv f with
  | none=>
   rw [hf]at hv;rw [ho.1 f hf];exact aCK ih f s ra k hv
  | some g=>
   rw [hf]at hv;obtain⟨g',e,hg⟩:=ho.2 f g hf;rw [e];exact hg s ra k hv
end
section
variable (P:Program) (T:mE) (r:Option Nat) (E:VE)
theorem YA (m:Nat) (k k':Nat->Code->CV->Prop) (h:∀D c K,k D c K=kK m False fun _=>k' D c K):∀(p:List Dir) (D:Nat) (c:Code) (ms:List Nat) (K:CV),nN P T r E p D c ms K k=kK m False fun _=>nN P T r E p D c ms K k':=by
 have hf:(False:Prop)=kK m False fun _=>False:=by cases m<;>rfl
 intro p;induction p with
 | nil=>intro D c ms K;exact h D c K
 | cons q p ih=>
  intro D c ms K
  cases q<;>cases c<;>first
   | exact hf
   | exact ih _ _ _ _
   | (cases D with
      | zero=>exact hf
      | succ D=>cases ms with
       | nil=>exact hf
       | cons m ms=>exact ih _ _ _ _)
end
section
variable{P:Program}{tb:FuncId->mE}
theorem OD (f:FuncId) (E:VE) (p:List Dir) (ms:List Nat) (vs:List V) (Sz:Hp) (K:KV) (hm:E.most≠0):WD P tb f E p ms vs Sz K=Ae P tb f E p ms vs Sz K:=by
 obtain⟨m,hm⟩:=Nat.exists_eq_succ_of_ne_zero hm;unfold WD Ae;cases P.funcs[f]? with
 | none=>rfl
 | some fn=>
  simp only;cases fn.body with
  | none=>rfl
  | some c=>
   simp only
   rw [YA P (tb f) none E E.most _ (fun D c K=>match xQ (tb f) c with
    | some l=>cT Sz fun Sz=>EI l vs fn.ntmps P.globals.size fun A=>(mI P (tb f) none (JD P (tb f) none D) c).f E A Sz K
    | none=>False) (fun D c K=>by
     cases xQ (tb f) c with
     | none=>rw [hm];rfl
     | some l=>rfl),hm]
   rfl
theorem CO{E:VE}{l n:Nat}{ls:List Nat}{vs args:List V}{ps:List Tmp}{as bo:Code}{st:LoopState}{pe:Option Code}{Sz:Hp}{K:KV} (h:Sz l=some (.loop ls vs n ps as bo st pe)) (e:ls=JP tb n bo) (hr:HW P tb E n ps as bo l vs args Sz K):LG P tb E l args Sz K:=by
 unfold LG;simp only [h];exact⟨e,hr⟩
theorem aJ{v:V}{Sz:Hp}{K:KV} (h:K v Sz):bC v Sz K:=⟨Sz,fun _=>v,fun _ _ h=>h,fun _=> .one (.keep v),fun _=>h⟩
theorem aE{Sz:Hp}{k:Hp->Prop} (h:k Sz):cT Sz k:=⟨Sz,fun _ _ h=>h,h⟩
theorem VE.Af{E:VE}{c:FuncId}{args:List V}{Sz:Hp}{K:KV} (h:E.C c args Sz K):E.call c args Sz K:=
 ⟨Sz,fun _=>args,fun _ _ h=>h,fun _=>⟨rfl,fun j v u a b=>by rw [a]at b;injection b with b;subst b;exact .keep v⟩,fun _=>h⟩
theorem Th{ov:OvV}{most n:Nat}{f:FuncId} (h:ov f=none) (args:List V) (Sz:Hp) (K:KV):(Dh P tb ov most (n+1)).C f args Sz K=lG P tb f (Dh P tb ov most n) args Sz K:=by
 show(match(generalizing:=false) ov f with | some g=>g args Sz K | none=>lG P tb f (Dh P tb ov most n) args Sz K)=_;rw [h]
theorem aCB{ov:OvV}{most n:Nat}{f:FuncId}{g:List V->Hp->KV->Prop} (h:ov f=some g) (args:List V) (Sz:Hp) (K:KV):(Dh P tb ov most (n+1)).C f args Sz K=g args Sz K:=by
 show(match(generalizing:=false) ov f with | some g=>g args Sz K | none=>lG P tb f (Dh P tb ov most n) args Sz K)=_;rw [h]
end
end Go.Am
namespace Go.Proofs.JQ
def JA:Nat->Nat->Nat->Nat->Nat->Nat
 | 0,out,_,_,_=>out
 | f+1,out,a,e,m=>match Nat.beq e 0 with
  | true=>out
  | false=>JA f (match Nat.beq (e%2) 1 with | true=>out*a%m | false=>out) (a*a%m) (e / 2) m
theorem YY (f out a m:Nat):JA f out a 0 m=out:=by cases f<;>rfl
theorem YZ{f out a e m:Nat} (h:0<e):JA (f+1) out a e m=JA f (if e%2=1 then out*a%m else out) (a*a%m) (e / 2) m:=by
 have e1:Nat.beq e 0=false:=by cases e with | zero=>omega | succ e=>rfl
 show(match Nat.beq e 0 with | true=>out | false=>_)=_;rw [e1];by_cases h2:e%2=1
 ·have e2:Nat.beq (e%2) 1=true:=by rw [h2];rfl
  simp only [e2,if_pos h2]
 ·have e2:Nat.beq (e%2) 1=false:=by have:e%2=0:=by omega
                                    rw [this];rfl
  simp only [e2,if_neg h2]
def lC (a b m:Nat):Nat:=(a%m+m-b%m)%m
def vY:Nat->Nat->Nat->Nat->Nat->Nat->Nat×Nat
 | 0,r,_,x,_,_=>(r,x)
 | f+1,r,s,x,y,m=>match Nat.beq s 0 with
  | true=>(r,x)
  | false=>vY f s (r%s) y (lC x (r / s*y%m) m) m
theorem ZA (f r x y m:Nat):vY f r 0 x y m=(r,x):=by cases f<;>rfl
theorem Ry{f r s x y m:Nat} (h:0<s):vY (f+1) r s x y m=vY f s (r%s) y (lC x (r / s*y%m) m) m:=by
 have e1:Nat.beq s 0=false:=by cases s with | zero=>omega | succ s=>rfl
 show(match Nat.beq s 0 with | true=>_ | false=>_)=_;rw [e1]
end Go.Proofs.JQ
namespace Go.Am
open Go.RowKit Go.MapKept
section
variable{P:Program}{Sz S' S0:Hp}{K:KV}
theorem fP{i:Nat}{a b:Ob}:upd (upd Sz i a) i b=upd Sz i b:=by
 funext j
 unfold upd;by_cases h:j=i
 ·rw [if_pos h,if_pos h]
 ·rw [if_neg h,if_neg h,if_neg h]
theorem Hb{i:Nat}{a:Ob} (h:Sz i=some a):upd Sz i a=Sz:=by
 funext j
 unfold upd;by_cases e:j=i
 ·rw [if_pos e,e,h]
 ·rw [if_neg e]
theorem bE.refl (Sz:Hp):bE Sz Sz:=fun _ _ h=>h
theorem bE.trans{a b c:Hp} (h:bE a b) (k:bE b c):bE a c:=fun i o e=>k i o (h i o e)
theorem bE.aH{i:Nat}{a:Ob} (h:Sz i=none):bE Sz (upd Sz i a):=fun j o e=>by
 unfold upd;by_cases h1:j=i
 ·subst h1;rw [h]at e;cases e
 ·rw [if_neg h1];exact e
@[simp] theorem aIj {i o:Nat} {vs:List V} {t:TypeId} (h:Sz i=some (.row vs t)):aS (.ptr i o) Sz K=NA vs o fun v=>K v Sz:=by
  show(match Sz i with | some (.row vs _)=>NA vs o fun v=>K v Sz | _=>False)=_;rw [h]
@[simp] theorem iU {n i o:Nat} {vs:List V} {t:TypeId} (h:Sz i=some (.row vs t)):bF n (.ptr i o) Sz K=HU vs o n fun l=>K (.agg l) Sz:=by
  show(match Sz i with | some (.row vs _)=>HU vs o n fun l=>K (.agg l) Sz | _=>False)=_;rw [h]
theorem uN{O:Tag}{cs:List Dt}{o:Nat}:aS (.nP O cs o) Sz K=NA cs o fun d=>K (T (.sub O o) d) Sz:=rfl
theorem Xt{n:Nat}{O:Tag}{cs:List Dt}{o:Nat}:bF n (.nP O cs o) Sz K=HU cs o n fun l=>K (.agg (Tl O o l)) Sz:=rfl
theorem nG{i o:Nat}{k:V->Prop}:FQ P (.ptr i o) k=k (.ptr i o):=rfl
theorem aI{w:Bool}{op:KV->Prop}{k:KV}:aC w (.bool w) op Sz k=op k:=by cases w<;>rfl
theorem CL{op:KV->Prop}{k:KV}:aC true (.bool false) op Sz k=k WC Sz:=rfl
theorem wF{op:KV->Prop}{k:KV}:aC false (.bool true) op Sz k=k WC Sz:=rfl
theorem gF{O:Tag}{cs:List Dt}{n:Nat}{k:V->Prop}:aV (.list O cs n) k=k (.int .i64 (.ofNat n)):=rfl
theorem sN{size n:Nat}{O:Tag}{cs:List Dt}{j:IntKind}{i:Nat} (h:i<n){k:V->Prop}:bY size (.list O cs n) (.int j (.ofNat i)) k=k (.nP O cs (i*size)):=by
 show(i<n/\_)=_;simp [h]
theorem bR{α:Type}{l:List α}{i:Nat}{a:α} (h:l[i]? =some a){k:α->Prop}:NA l i k=k a:=by unfold NA;rw [h]
theorem cF{α:Type}{l:List α}{o n:Nat} (h:o+n<=l.length){k:List α->Prop}:HU l o n k=k ((l.drop o).take n):=by unfold HU;simp [h]
theorem bE.none{a b:Hp} (h:bE a b){i:Nat} (e:b i=none):a i=none:=by
 cases q:a i with
 | none=>rfl
 | some o=>rw [h i o q]at e;cases e
theorem Wv{i j:Nat}{a:Ob} (e:upd Sz i a j=none):j≠i/\Sz j=none:=by
 by_cases h:j=i
 ·subst h;rw [upd_same]at e;cases e
 ·rw [aB h]at e;exact⟨h,e⟩
theorem QW{el:TypeId}{n:Nat}{zero:List Value}{z cs:List V} (hz:AK zero=some z) (hzl:z.length=n) (hc:cs.length=n) (ho:cs.all jK=true) (hk:∀j,Sz j=none->K (.own j 0 1 1) (upd Sz j (.row cs el))):aP el 1 zero [(0,n,.agg cs)] Sz K:=by
 unfold aP mY;rw [hz];show jE [(0,n,.agg cs)] (List.replicate 1 z).flatten _;unfold jE;refine⟨ho,hc,by simp [hzl],?_⟩;unfold jE;have:splice 0 cs (List.replicate 1 z).flatten=cs:=by simp [splice,hc,<-hzl]
 rw [this];exact hk
theorem uO{size i m c:Nat}{vs:List V}{t:TypeId} (h:Sz i=some (.row vs t)) (hl:vs.length=m*size){k:Nat->List V->Prop} (hk:k m vs):UX size (.own i 0 m c) Sz k:=by
 unfold UX;simp only [h];rw [cF (by omega),List.drop_zero,List.take_of_length_le (by omega)];exact hk
theorem PH{t:TypeId}{k:IntKind}{x y:Int}{K:V->Prop}:aG P .lss t (.int k x) (.int k y) K=K (.bool (decide (x<y))):=by simp [aG,qV,FD]
theorem PG{t:TypeId}{k:IntKind}{x y:Int}{K:V->Prop}:aG P .leq t (.int k x) (.int k y) K=K (.bool (decide (x<=y))):=by simp [aG,qV,FD]
theorem PJ{t:TypeId}{k:IntKind}{x y:Int}{K:V->Prop}:aG P .gtr t (.int k x) (.int k y) K=K (.bool (decide (y<x))):=by simp [aG,qV,FD]
theorem CM{t:TypeId}{k:IntKind}{x y:Int}{K:V->Prop}:aG P .geq t (.int k x) (.int k y) K=K (.bool (decide (y<=x))):=by simp [aG,qV,FD]
theorem ZK{t:TypeId}{k:IntKind}{x y:Int}{K:V->Prop}:aG P .eql t (.int k x) (.int k y) K=K (.bool (decide (x=y))):=by simp [aG,qV,FD]
theorem ZL{t:TypeId}{k:IntKind}{x y:Int}{K:V->Prop}:aG P .neq t (.int k x) (.int k y) K=K (.bool (!decide (x=y))):=by simp [aG,qV,FD]
theorem IL{t:TypeId}{k:IntKind}{x y:Int}{K:V->Prop}:aG P .add t (.int k x) (.int k y) K=K (.int k (mU k (x+y))):=by simp [aG,qV,FD]
theorem Sn{t:TypeId}{k:IntKind}{x y:Int}{K:V->Prop}:aG P .sub t (.int k x) (.int k y) K=K (.int k (mU k (x-y))):=by simp [aG,qV,FD]
theorem ZM{t:TypeId}{k:IntKind}{x y:Int}{K:V->Prop}:aG P .mul t (.int k x) (.int k y) K=K (.int k (mU k (x*y))):=by simp [aG,qV,FD]
theorem IK{t:TypeId}{k:IntKind}{x y:Int} (hy:y≠0){K:V->Prop}:aG P .rem t (.int k x) (.int k y) K=K (.int k (x.tmod y)):=by simp [aG,qV,FD,hy]
theorem wrap_small{n:Int} (h0: -9223372036854775808<=n) (h1:n<=9223372036854775807):mU .i64 n=n:=by
 rw [CB,wrap_in _ _ (by simpa [IntKind.min,IntKind.bits,IntKind.signed]using h0) (by simpa [IntKind.max,IntKind.bits,IntKind.signed]using h1)]
end
def Deep (P:Program) (tb:FuncId->mE) (ov:OvV) (M:Nat):Nat->VE->Prop
 | 0,x=>x.most=M
 | n+1,x=>x.most=M/\(∀f g,ov f=some g->x.C f=g)/\∃y,Deep P tb ov M n y/\(∀f,ov f=none->∀args Sz K,x.C f args Sz K=lG P tb f y args Sz K)/\∀l args Sz K,x.R l args Sz K=LG P tb y l args Sz K
section
variable{P:Program}{tb:FuncId->mE}{ov:OvV}{M:Nat}{x:VE}{Sz:Hp}{K:KV}
theorem Deep.most{n:Nat} (h:Deep P tb ov M n x):x.most=M:=by cases n with | zero=>exact h | succ n=>exact h.1
theorem Deep.call{n:Nat} (hx:Deep P tb ov M (n+1) x){f:FuncId} (hf:ov f=none){args:List V} (h:∀y,Deep P tb ov M n y->lG P tb f y args Sz K):x.call f args Sz K:=by
 obtain⟨h1,h2,y,h3,h4,_⟩:=hx;exact VE.Af (by rw [h4 f hf];exact h y h3)
theorem Deep.round{n:Nat} (hx:Deep P tb ov M (n+1) x){l:Nat}{args:List V} (h:∀y,Deep P tb ov M n y->LG P tb y l args Sz K):x.R l args Sz K:=by
 obtain⟨h1,h2,y,h3,h4,h5⟩:=hx;rw [h5];exact h y h3
theorem Deep.LC{n:Nat} (hx:Deep P tb ov M (n+1) x){f:FuncId}{g:List V->Hp->KV->Prop} (hf:ov f=some g){args:List V} (h:g args Sz K):x.call f args Sz K:=by
 obtain⟨h1,h2,_⟩:=hx;exact VE.Af (by rw [h2 f g hf];exact h)
theorem Tc (n:Nat):Deep P tb ov M n (Dh P tb ov M n):=by
 induction n with
 | zero=>rfl
 | succ n ih=>exact⟨rfl,fun f g h=>by funext args Sz K;exact aCB h args Sz K,_,ih,fun f h args Sz K=>Th h args Sz K,fun l args Sz K=>rfl⟩
theorem BD{i o:Nat}{vs:List V}{t:TypeId}{v:V} (h:Sz i=some (.row vs t)) (ho:jK v=true) (hl:o<vs.length){k:Hp->Prop} (hk:k (upd Sz i (.row (splice o [v] vs) t))):rH 1 (.ptr i o) v Sz k:=by
 unfold rH;simp only [h];unfold oY;cases v<;>first | (cases ho;done) | exact⟨rfl,by omega,hk⟩
theorem jG{v:V}{S':Hp} (l:bE S' Sz) (h:K v S'):bC v Sz K:=⟨S',fun _=>v,l,fun _=> .one (.keep v),fun _=>h⟩
theorem cO{t:TypeId}{cs:List V} (ho:cs.all jK=true) (hk:∀i,Sz i=none->K (.ptr i 0) (upd Sz i (.row cs t))):jO t (.agg cs) Sz K:=⟨ho,hk⟩
theorem eI{z:List Value}{l:List V}{t:TypeId} (hz:AK z=some l) (hk:∀i,Sz i=none->K (.ptr i 0) (upd Sz i (.row l t))):eU z t Sz K:=by
 unfold eU mY;rw [hz];exact hk
theorem SX{t:TypeId}{i o:Nat} (h:VB P t=some .ptr){k:V->Prop} (hk:k (.bool false)):aG P .eql t (.ptr i o) .PS k:=⟨rfl,h,.inr rfl,(fun e=>by cases e),hk⟩
theorem qT{n i:Nat}{vs cs:List V}{t:TypeId} (h:Sz i=some (.row vs t)) (ho:cs.all jK=true) (hc:cs.length=n) (hl:vs.length=n){k:Hp->Prop} (hk:k (upd Sz i (.row cs t))):rH n (.ptr i 0) (.agg cs) Sz k:=by
 unfold rH;simp only [h];refine⟨ho,hc,by omega,?_⟩;have:splice 0 cs vs=cs:=by simp [splice,hc,<-hl]
 rw [this];exact hk
theorem vZ{w:Bool}{u:V}{op:Prop->Prop}{k:Prop}:gH w (.bool w) u op k=op k:=by cases w<;>rfl
end
section
variable{P:Program}{Sz S' S0:Hp}{K:KV}{x:VE}
theorem wX{size n b:Nat}{j:IntKind}{i:Nat} (h:i<n){k:V->Prop}:bY size (.acc b n) (.int j (.ofNat i)) k=k (.lX b n (i*size)):=by
 show(i<n/\_)=_;simp [h]
theorem ZV{b n o q c:Nat}{k:V->Prop}:aV (.tW b n o q c) k=k (.int .i64 (.ofNat q)):=rfl
theorem Xe{i n o:Nat}{vs:List V}{t:TypeId}{v:V} (h:Sz i=some (.dF vs t n)) (ho:jK v=true) (hl:o<vs.length){k:Hp->Prop} (hk:k (upd Sz i (.dF (splice o [v] vs) t n))):rH 1 (.lX i n o) v Sz k:=by
 unfold rH;simp only [h];unfold oY;cases v<;>first | (cases ho;done) | exact⟨trivial,rfl,by omega,hk⟩
theorem Dd{el size i n a:Nat}{vs:List V}{j:IntKind} (h:Sz i=some (.dF vs el n)) (hl:a<n){k:V->Prop} (hk:k (.tW i n (a*size) (n-a) (n-a))):HM el size (.acc i n) (some (.int j (.ofNat a))) none none Sz k:=by
 unfold HM;simp only [h];refine⟨trivial,trivial,?_⟩;show a<=n/\n<=n/\n<=n/\(a<n->k _)/\_;refine⟨by omega,by omega,by omega,fun _=>?_,fun e=>absurd e (by omega)⟩;rw [Nat.zero_add];exact hk
theorem Ym{el size i n:Nat}{vs:List V}{j:IntKind} (h:Sz i=some (.dF vs el n)){k:V->Prop} (hk:k (.emp i n)):HM el size (.acc i n) (some (.int j (.ofNat n))) none none Sz k:=by
 unfold HM;simp only [h];refine⟨trivial,trivial,?_⟩;show n<=n/\n<=n/\n<=n/\(n<n->k _)/\_;exact⟨by omega,by omega,by omega,fun e=>absurd e (by omega),fun _=>hk⟩
def del (Sz:Hp) (i:Nat):Hp:=fun j=>if j=i then none else Sz j
theorem Ci{i:Nat}:bE (del Sz i) Sz:=fun j o e=>by
 unfold del at e;by_cases h:j=i
 ·rw [if_pos h]at e;cases e
 ·rw [if_neg h]at e;exact e
theorem zK{i:Nat}:del Sz i i=none:=if_pos rfl
theorem HH{l n:Nat}{ls:List Nat}{vs:List V}{ps:List Tmp}{as bo:Code}{pe:Option Code} (h:Sz l=some (.loop ls vs n ps as bo .ready pe)){k:Hp->Prop} (hk:k (upd Sz l (.loop ls vs n ps as bo .busy pe))):KG l Sz k:=by
 unfold KG;simp only [h];exact hk
theorem HI{l n:Nat}{ls:List Nat}{vs:List V}{ps:List Tmp}{as bo:Code}{st st':LoopState}{pe Ni:Option Code}{b:Bool} (h:Sz l=some (.loop ls vs n ps as bo st pe)) (hk:K (.bool b) (upd Sz l (.loop ls vs n ps as bo st' Ni))):yB l st' Ni b Sz K:=by
 unfold yB;simp only [h];exact hk
theorem HJ{l n:Nat}{ls:List Nat}{vs:List V}{ps:List Tmp}{as bo:Code}{st:LoopState}{pe:Option Code} (h:Sz l=some (.loop ls vs n ps as bo st pe)) (hs:st≠ .busy){k:Option Code->Hp->Prop} (hk:k pe (upd Sz l (.loop ls vs n ps as bo .exhausted pe))):Ik l Sz k:=by
 unfold Ik;simp only [h];cases st<;>first | exact absurd rfl hs | exact hk
theorem CP{g n:Nat}{a c:List V}{ls:List Nat}{vs:List V}{ps:List Tmp}{as bo:Code}{k:Option Code->Hp->Prop} (hk:∀l,Sz l=none->x.call g (a++[.yield l]++c) (upd Sz l (.loop ls vs n ps as bo .ready none)) fun _ Sz=>Ik l Sz k):zT x (.func g a c) ls vs n ps as bo Sz k:=hk
theorem NE{kn kr:Prop}{ke:Nat->Prop}:HV none kn kr ke=kn:=rfl
theorem NC{l:Nat}{args:List V}:rL x (.yield l) args Sz K=x.R l args Sz K:=rfl
theorem qE{vs:List V}{o:Nat}{v:V} (h:o<vs.length):splice o [v] vs=vs.set o v:=by
 unfold splice;apply List.ext_getElem?;intro j;rw [List.getElem?_set];by_cases h1:j<o
 ·rw [if_neg (by omega),List.append_assoc,List.getElem?_append_left (by rw [List.length_take];omega),List.getElem?_take,if_pos h1]
 ·by_cases h2:j=o
  ·subst h2
   rw [if_pos rfl,if_pos h,List.getElem?_append_left (by simp;omega),List.getElem?_append_right (by rw [List.length_take];omega),List.length_take];rw [show j-min j vs.length=0 by omega];rfl
  ·rw [if_neg (by omega),List.getElem?_append_right (by simp;omega),List.getElem?_drop]
   simp only [List.length_append,List.length_take,List.length_cons,List.length_nil];rw [show o+(0+1)+(j-(min o vs.length+(0+1)))=j by omega]
end
section
variable{P:Program}{Sz S':Hp}{K:KV}{x:VE}
theorem aN{off i:Nat}{k:V->Prop}:bI off (.ptr i 0) k=k (.ptr i off):=by show k (.ptr i (0+off))=_;rw [Nat.zero_add]
theorem bQ{v:V}{p:Prop} (h:uP v=true):aL v v p=p:=propext ⟨fun q=>q.2.2,fun q=>⟨rfl,h,q⟩⟩
theorem bO{k:IntKind}{z:Int}{p:Prop}:aL (.int k z) (.int k z) p=p:=bQ rfl
theorem jV{b:Bool}{k:V->Prop}:IP .not (.bool b) k=k (.bool (!b)):=rfl
theorem AA{v:V}{cs:List Dt}{n:Nat} (l:bE S' Sz) (h:QV S' Sz v (.list cs n)) (hk:∀O,K (.list O cs n) S'):bC v Sz K:=
 ⟨S',fun O=> .list (O 0) cs n,l,fun _=> .one (.dat h),fun _=>hk _⟩
end
end Go.Am
namespace Go.Mq
def DF:BitVec 64:=0x9E3779B97F4A7C15#64
def m1:BitVec 64:=0xBF58476D1CE4E5B9#64
def m2:BitVec 64:=0x94D049BB133111EB#64
def HC (s:BitVec 64):BitVec 64:=
 let a:=(s ^^^ (s >>> 30))*m1
 let b:=(a ^^^ (a >>> 27))*m2
 b ^^^ (b >>> 31)
def i1:BitVec 64:=0x96de1b173f119089#64
def i2:BitVec 64:=0x319642b2d24d8ec3#64
theorem aFF:m1*i1=1#64:=by decide
theorem aFG:m2*i2=1#64:=by decide
theorem undo (z:BitVec 64) (k:Nat) (h:64<=3*k):(z ^^^ (z >>> k)) ^^^ ((z ^^^ (z >>> k)) >>> k) ^^^ ((z ^^^ (z >>> k)) >>> (2*k))=z:=by
 apply BitVec.eq_of_getLsbD_eq;intro i hi;simp only [BitVec.getLsbD_xor,BitVec.getLsbD_ushiftRight];have e1:z.getLsbD (2*k+(k+i))=false:=BitVec.getLsbD_of_ge _ _ (by omega);have e2:k+(2*k+i)=2*k+(k+i):=by omega
 have e3:k+(k+i)=2*k+i:=by omega
 rw [e2,e1,e3];cases z.getLsbD i<;>cases z.getLsbD (k+i)<;>cases z.getLsbD (2*k+i)<;>rfl
def unB (y:BitVec 64):BitVec 64:=
 let b:=y ^^^ (y >>> 31) ^^^ (y >>> 62)
 let b:=b*i2
 let a:=b ^^^ (b >>> 27) ^^^ (b >>> 54)
 let a:=a*i1
 a ^^^ (a >>> 30) ^^^ (a >>> 60)
theorem Wu (s:BitVec 64):unB (HC s)=s:=by
 unfold unB HC;simp only;rw [undo _ 31 (by omega),BitVec.mul_assoc,aFG,BitVec.mul_one,undo _ 27 (by omega),BitVec.mul_assoc,aFF,BitVec.mul_one,undo _ 30 (by omega)]
def Gv (x:BitVec 64):Prop:=18446744073709551610<=x.toNat
theorem aD7 (x:BitVec 64) (h:Gv x):x=0xfffffffffffffffa#64\/x=0xfffffffffffffffb#64\/x=0xfffffffffffffffc#64\/x=0xfffffffffffffffd#64\/x=0xfffffffffffffffe#64\/x=0xffffffffffffffff#64:=by
 unfold Gv at h;have hl:=x.isLt;have:x.toNat=18446744073709551610\/x.toNat=18446744073709551611\/x.toNat=18446744073709551612\/x.toNat=18446744073709551613\/x.toNat=18446744073709551614\/x.toNat=18446744073709551615:=by omega
 rcases this with h | h | h | h | h | h
 ·exact .inl (BitVec.eq_of_toNat_eq h)
 ·exact .inr (.inl (BitVec.eq_of_toNat_eq h))
 ·exact .inr (.inr (.inl (BitVec.eq_of_toNat_eq h)))
 ·exact .inr (.inr (.inr (.inl (BitVec.eq_of_toNat_eq h))))
 ·exact .inr (.inr (.inr (.inr (.inl (BitVec.eq_of_toNat_eq h)))))
 ·exact .inr (.inr (.inr (.inr (.inr (BitVec.eq_of_toNat_eq h)))))
theorem once (s:BitVec 64) (h:Gv (HC s)):¬Gv (HC (s+DF)):=by
 have e:=Wu s;rcases aD7 _ h with q | q | q | q | q | q
 all_goals
  rw [q]at e;rw [<-e];unfold Gv;decide
end Go.Mq
namespace Go.Am
open Go.RowKit Go.MapKept
theorem mapM_some{α β:Type}{f:α->Option β}:∀{l:List α} {xs:List β},l.mapM f=some xs->xs.length=l.length/\∀(i:Nat) (a:α),l[i]? =some a->∃x,xs[i]? =some x/\f a=some x:=by
 intro l;induction l with
 | nil=>intro xs h;simp at h;subst h;exact⟨rfl,fun i a h=>by simp at h⟩
 | cons b l ih=>
  intro xs h;rw [List.mapM_cons]at h;cases hb:f b with
  | none=>rw [hb]at h;cases h
  | some y=>
   rw [hb]at h;cases hl:l.mapM f with
   | none=>rw [hl]at h;cases h
   | some ys=>
    rw [hl]at h;have h:some (y::ys)=some xs:=h;injection h with h;subst h;obtain⟨i1,i2⟩:=ih hl;refine⟨by simp [i1],fun i a ha=>?_⟩;cases i with
    | zero=>simp at ha;subst ha;exact⟨y,rfl,hb⟩
    | succ i=>simpa using i2 i a (by simpa using ha)
def Kd (P:Program) (g:TypeId->Option (List It)):List Field->Nat->Option (List It)
 | [],_=>some []
 | fd::fs,off=>if fd.offset=off then match g fd.type,bL P fd.type with
  | some its,some m=>if m=its.length then(Kd P g fs (off+m)).map (its++ ·)else none
  | _,_=>none else none
def Ke (P:Program):Nat->TypeId->Option (List It)
 | 0,_=>none
 | f+1,t=>match P.underlying t with
  | some .bool=>some [.is]
  | some (.int .u64)=>some [.num]
  | some (.int .u8)=>some [.kind]
  | some (.int .i64)=>some [.int]
  | some .string=>some [.text]
  | some (.slice e)=>match Ke P f e,bL P e,P.bytesOf e with
   | some (i::its),some m,_+1=>if m=its.length+1 then(match i,its with | .num,[]=>some [.nums] | i,its=>some [.list (i::its)])else none
   | _,_,_=>none
  | some (.struct fs)=>match Kd P (Ke P f) fs.toList 0,bL P t with
   | some its,some m=>if m=its.length then some its else none
   | _,_=>none
  | _=>none
def Lay (P:Program) (w:World) (U:Rn) (Sz:St):Prop:=Rel P w U Sz w/\∀i o,Sz.obj i=some o->o.reads=true
section
variable{P:Program}{w:World}
theorem Lay.add{U:Rn}{Sz:St} (h:Lay P w U Sz) (vs:List Value) (e:TypeId) (L:Loc){cs:Array Value}{t:TypeId}{fz:Nat×Nat} (hb:w.heap[L.b]? =some (.cells cs t fz))
 (hc:∀(j:Nat) (v:Value),vs[j]? =some v->∃v',cs[L.s+j]? =some v'/\VR U v v') (hm:bL P e=some L.m) (hz:∀j,j<vs.length->¬(fz.1<=L.s+j/\L.s+j<fz.2)):
 Lay P w (U.put Sz.n L) (Sz.new (.cells vs e .rs))/\Ext U (U.put Sz.n L):=by
 obtain⟨h,hr⟩:=h;have hnone:=h.dom Sz.n (Nat.le_refl _);have he:Ext U (U.put Sz.n L):=Rn.DP hnone
 have hput:∀j M,U.put Sz.n L j=some M->(j=Sz.n/\M=L)\/(j≠Sz.n/\U j=some M):=fun j M hj=>by
  unfold Rn.put at hj;by_cases e:j=Sz.n
  ·rw [if_pos e]at hj;injection hj with hj;exact .inl ⟨e,hj.symm⟩
  ·rw [if_neg e]at hj;exact .inr ⟨e,hj⟩
 have oB:∀j x,(Sz.new (.cells vs e .rs)).obj j=some x->(j=Sz.n/\x= .cells vs e .rs)\/(j≠Sz.n/\Sz.obj j=some x):=fun j x hx=>by
  rw [IE]at hx;by_cases e:j=Sz.n
  ·rw [if_pos e]at hx;injection hx with hx;exact .inl ⟨e,hx.symm⟩
  ·rw [if_neg e]at hx;exact .inr ⟨e,hx⟩
 have hreads:∀j x,(Sz.new (.cells vs e .rs)).obj j=some x->x.reads=true:=fun j x hx=>by
  rcases oB j x hx with ⟨_,rfl⟩ | ⟨_,hx⟩
  ·rfl
  ·exact hr j x hx
 have hlt:L.b<w.heap.size:=(Array.getElem?_eq_some_iff.1 hb).1;refine⟨⟨⟨fun g hg=>let⟨M,h1,h2⟩:=h.TM g hg;⟨M,he _ _ h1,h2⟩,fun j x hx=>?_,fun j hj=>?_,fun j x hx=>?_,fun j M hj=>?_,fun i j a b M N hij ha hb' _ _ _ _ _=> .inl ⟨hreads i a ha,hreads j b hb'⟩,fun j us e' olds hj i hi=>?_,h.base⟩,hreads⟩,he⟩
 ·rcases oB j x hx with ⟨rfl,rfl⟩ | ⟨_,hx⟩
  ·exact⟨L,cs,t,fz,Rn.iF _ _ _,hb,fun j v hv=>let⟨v',a,b⟩:=hc j v hv;⟨v',a,b.mono he⟩,hm,hz⟩
  ·exact(h.BP j x hx).frame he fun _ _=>rfl
 ·have hj':Sz.n+1<=j:=hj
  unfold Rn.put;rw [if_neg (by omega)];exact h.dom j (by omega)
 ·rcases oB j x hx with ⟨rfl,_⟩ | ⟨_,hx⟩
  ·exact Nat.lt_succ_self _
  ·exact Nat.lt_succ_of_lt (h.lt j x hx)
 ·rcases hput j M hj with ⟨_,rfl⟩ | ⟨_,hM⟩
  ·exact hlt
  ·exact h.loc j M hM
 ·have:=hreads j _ hj
  simp [fD.reads]at this
def oC (P:Program) (w:World) (cs:List Value) (its:List It):Prop:=
 ∀(U:Rn) (Sz:St),Lay P w U Sz->∃U' S' vs ds,Ext U U'/\Lay P w U' S'/\DW Sz S'/\gW U' vs cs/\RdA S' (fun _=>False) its vs ds
theorem DW.none{Sz S':St} (h:DW Sz S'):vG (fun _=>False) Sz S' (fun _=>False):=h.fr _
theorem oC.plain{v:Value}{it:It}{d:D} (hf:aY v=true) (hr:∀Sz,Rd Sz (fun _=>False) it v d):oC P w [v] [it]:=fun U Sz h=>
 ⟨U,Sz,[v],[d],.refl U,h,.refl Sz,.cons (.flat hf) (.nil U),rfl,rfl,fun j it' v' d' a b c=>by
  cases j with
  | zero=>simp at a b c;subst a b c;exact hr Sz
  | succ j=>simp at a⟩
theorem oC.append{a b:List Value}{x y:List It} (h:oC P w a x) (k:oC P w b y):oC P w (a++b) (x++y):=fun U Sz hl=>by
 obtain⟨U1,S1,v1,d1,e1,l1,x1,r1,s1⟩:=h U Sz hl;obtain⟨U2,S2,v2,d2,e2,l2,x2,r2,s2⟩:=k U1 S1 l1;refine⟨U2,S2,v1++v2,d1++d2,e1.trans e2,l2,x1.trans x2,(r1.mono e2).append r2,by simp [s1.len,s2.len],by simp [s1.Ge,s2.Ge],fun j it v d p q r=>?_⟩;have s1':=s1.fr x2.none;by_cases hj:j<x.length
 ·rw [List.getElem?_append_left hj]at p
  rw [List.getElem?_append_left (by rw [s1.len];exact hj)]at q;rw [List.getElem?_append_left (by rw [s1.Ge];exact hj)]at r;exact s1'.rd j it v d p q r
 ·rw [List.getElem?_append_right (by omega)]at p
  rw [List.getElem?_append_right (by rw [s1.len];omega),s1.len]at q;rw [List.getElem?_append_right (by rw [s1.Ge];omega),s1.Ge]at r;exact s2.rd _ it v d p q r
theorem lay_all{its:List It}:∀{css:List (List Value)},(∀cs∈css,oC P w cs its)->∀(U:Rn) (Sz:St),Lay P w U Sz->∃(U':Rn) (S':St) (Nz:List (List Value)) (DX:List (List D)),Ext U U'/\Lay P w U' S'/\DW Sz S'/\Nz.length=css.length/\DX.length=css.length/\
 (∀(k:Nat) (vs cs:List Value),Nz[k]? =some vs->css[k]? =some cs->gW U' vs cs)/\∀(k:Nat) (vs:List Value) (ds:List D),Nz[k]? =some vs->DX[k]? =some ds->RdA S' (fun _=>False) its vs ds:=by
 intro css;induction css with
 | nil=>intro _ U Sz h;exact⟨U,Sz,[],[],.refl U,h,.refl Sz,rfl,rfl,by simp,by simp⟩
 | cons cs css ih=>
  intro hall U Sz h;obtain⟨U1,S1,v1,d1,e1,l1,x1,r1,s1⟩:=hall cs (.head _) U Sz h;obtain⟨U2,S2,Nz,DX,e2,l2,x2,n1,n2,r2,s2⟩:=ih (fun c hc=>hall c (.tail _ hc)) U1 S1 l1;refine⟨U2,S2,v1::Nz,d1::DX,e1.trans e2,l2,x1.trans x2,by simp [n1],by simp [n2],fun k vs cs' a b=>?_,fun k vs ds a b=>?_⟩
  ·cases k with
   | zero=>simp at a b;subst a b;exact r1.mono e2
   | succ k=>exact r2 k vs cs' (by simpa using a) (by simpa using b)
  ·cases k with
   | zero=>simp at a b;subst a b;exact s1.fr x2.none
   | succ k=>exact s2 k vs ds (by simpa using a) (by simpa using b)
theorem QP{α:Type}{m:Nat}:∀{l:List (List α)},(∀x∈l,x.length=m)->∀(k j:Nat),j<m->l.flatten[k*m+j]? =(l[k]?).bind (·[j]?):=by
 intro l;induction l with
 | nil=>intro _ k j _;simp
 | cons x l ih=>
  intro h k j hj;have hx:=h x (.head _);cases k with
  | zero=>
   rw [List.flatten_cons,List.getElem?_append_left (by omega)];simp
  | succ k=>
   rw [List.flatten_cons,List.getElem?_append_right (by rw [hx,Nat.add_mul];omega),hx];rw [show(k+1)*m+j-m=k*m+j by rw [Nat.add_mul];omega,ih (fun y hy=>h y (.tail _ hy)) k j hj];simp
theorem Gf{α:Type}{m:Nat}:∀{l:List (List α)},(∀x∈l,x.length=m)->l.flatten.length=l.length*m:=by
 intro l;induction l with
 | nil=>intro _;simp
 | cons x l ih=>intro h;rw [List.flatten_cons,List.length_append,h x (.head _),ih fun y hy=>h y (.tail _ hy),List.length_cons,Nat.add_mul];omega
end
section
variable{P:Program}{w:World}
theorem QQ{a:Addr}{n:Nat}{cs:List Value} (h:w.cells? 0 a n=some cs) (hn:0<n):∃c t fz,w.heap[a.block]? =some (.cells c t fz)/\a.spot=none:=by
 unfold World.cells? at h;rw [if_pos (Nat.zero_le _)]at h;obtain⟨_,h2⟩:=mapM_some h;obtain⟨x,_,hx⟩:=h2 0 0 (by simp [hn]);have hx:w.cell? a=some x:=by simpa [Addr.add]using hx
 unfold World.cell? at hx;cases hb:w.heap[a.block]? with
 | none=>rw [hb]at hx;cases hx
 | some o=>
  rw [hb]at hx;cases o with
  | cells c t fz=>
   simp only at hx;cases hs:a.spot with
   | none=>exact⟨c,t,fz,rfl,rfl⟩
   | some s=>rw [hs]at hx;simp at hx
  | _=>cases hx
theorem Rk{b off n:Nat}{cs:List Value}{c:Array Value}{t:TypeId}{fz:Nat×Nat} (h:w.cells? 0 ⟨b,off,none⟩ n=some cs) (hb:w.heap[b]? =some (.cells c t fz)):cs.length=n/\∀(j:Nat) (v:Value),cs[j]? =some v->c[off+j]? =some v:=by
 unfold World.cells? at h;rw [if_pos (Nat.zero_le _)]at h;obtain⟨h1,h2⟩:=mapM_some h;have h1:cs.length=n:=by simpa using h1
 refine⟨h1,fun j v hv=>?_⟩;have hj:j<n:=by rw [<-h1];exact(List.getElem?_eq_some_iff.1 hv).1
 obtain⟨x,hx,hc⟩:=h2 j j (by simp [hj]);rw [hv]at hx;injection hx with hx;subst hx;rw [lN]at hc;unfold World.cell? at hc;rw [hb]at hc;simpa using hc
variable{H:Type}{enc:TypeId×Value->H}
theorem Gg{e:TypeId}{x:Nat}:∀{l:List (DataW H)} {d:DataW H},d∈l->x∈d.weights P e->x∈DataW.weightsAll P e l:=by
 intro l;induction l with
 | nil=>intro d h;cases h
 | cons y l ih=>
  intro d h hx;rw [DataW.weightsAll];rcases List.mem_cons.1 h with rfl | h
  ·exact List.mem_append.2 (.inl hx)
  ·exact List.mem_append.2 (.inr (ih h hx))
theorem Rl{g:TypeId->Option (List It)}:∀{fs:List Field} {off:Nat} {its:List It},Kd P g fs off=some its->∀(cs:List Value) (F:TypeId->List Value->Option (DataW H×List MemPlace)) (xs:List (DataW H×List MemPlace)),
 (fs.mapM fun f=>F f.type ((cs.drop f.offset).take (P.cellsOf f.type)))=some xs->cs.length=off+its.length->
 (∀(k:Nat) (f:Field) (x:DataW H×List MemPlace),fs[k]? =some f->xs[k]? =some x->∀(i:List It) (c:List Value),g f.type=some i->F f.type c=some x->oC P w c i)->oC P w (cs.drop off) its:=by
 intro fs;induction fs with
 | nil=>
  intro off its h cs F xs _ hl _;unfold Kd at h;injection h with h;subst h;rw [List.drop_of_length_le (by simp at hl;omega)];exact fun U Sz hl=>⟨U,Sz,[],[],.refl U,hl,.refl Sz,.nil U,rfl,rfl,fun j it v d a=>by simp at a⟩
 | cons f fs ih=>
  intro off its h cs F xs hx hl hall;unfold Kd at h;split at h
  ·rename_i hoff
   split at h
   ·rename_i i m hg hm
    split at h
    ·rename_i hmi
     cases hr:Kd P g fs (off+m)with
     | none=>rw [hr]at h;cases h
     | some rest=>
      rw [hr]at h;have h:some (i++rest)=some its:=h;injection h with h;subst h;obtain⟨x1,x2⟩:=mapM_some hx;obtain⟨x,hx0,hF⟩:=x2 0 f rfl
      have hcm:P.cellsOf f.type=m:=by
       unfold Program.cellsOf;unfold bL at hm;rw [hm];rfl
      rw [hcm,hoff]at hF;have h1:oC P w ((cs.drop off).take m) i:=hall 0 f x rfl hx0 i _ hg hF
      have hxs:∃ys,xs=x::ys:=by
       cases xs with
       | nil=>simp at hx0
       | cons y ys=>simp at hx0;subst hx0;exact⟨ys,rfl⟩
      obtain⟨ys,rfl⟩:=hxs
      have hys:(fs.mapM fun f=>F f.type ((cs.drop f.offset).take (P.cellsOf f.type)))=some ys:=by
       rw [List.mapM_cons]at hx;cases ha:F f.type ((cs.drop f.offset).take (P.cellsOf f.type))with
       | none=>rw [ha]at hx;cases hx
       | some y=>
        rw [ha]at hx;cases hb:(fs.mapM fun f=>F f.type ((cs.drop f.offset).take (P.cellsOf f.type)))with
        | none=>rw [hb]at hx;cases hx
        | some zs=>
         rw [hb]at hx;have hx:some (y::zs)=some (x::ys):=hx;injection hx with hx;injection hx with _ hx;rw [hx]
      have h2:=ih hr cs F ys hys (by rw [hl,List.length_append];omega) fun k f' x' a b=>hall (k+1) f' x' (by simpa using a) (by simpa using b);have:=h1.append h2
      rwa [show(cs.drop off).take m++cs.drop (off+m)=cs.drop off by rw [<-List.drop_drop];exact List.take_append_drop _ _]at this
    ·cases h
   ·cases h
  ·cases h
end
section
variable{P:Program}{w:World}{H:Type}{enc:TypeId×Value->H}
theorem Vl{k:IntKind}{n:Int} (h:(Lit.int k n).wf=true):k.min<=n/\n<=k.max:=by
 unfold Lit.wf at h;simpa using h
theorem Rm{a:Addr}{len cap m:Nat}{e:TypeId}{its:List It}{els:List (DataW H×List MemPlace)}{F:List Value->Option (DataW H×List MemPlace)} (hm:its.length=m) (hpos:0<m) (hsz:bL P e=some m) (_aHo:P.cellsOf e=m) (hlc:len<=cap)
 (hel:(List.range len).mapM (fun i=>(w.cells? 0 (a.add (i*m)) m).bind F)=some els) (hN:len<=140737488355328)
 (hsp:cap=0\/∃c t fz,w.heap[a.block]? =some (.cells c t fz)/\a.spot=none)
 (hz:∀i,i<len*m->w.frozen? ⟨a.block,a.off+i,none⟩=false)
 (hall:∀x∈els,∀cs,F cs=some x->oC P w cs its):
 ∀(U:Rn) (Sz:St),Lay P w U Sz->∃U' S' v ds,Ext U U'/\Lay P w U' S'/\DW Sz S'/\VR U' v (.slice (some a) len cap)/\Rd S' (fun _=>False) (.list its) v (.l ds):=by
 intro U Sz hl;rcases Nat.eq_zero_or_pos cap with hc0 | hc0
 ·have:len=0:=by omega
  subst this hc0;obtain⟨b,o,sp⟩:=a;refine⟨U,Sz,.slice (some ⟨b,o,some ((match sp with | none=>0 | some k=>k+1)+2)⟩) 0 0,[],.refl U,hl,.refl Sz,.uD ?_,.Bp⟩;cases sp<;>rfl
 ·rcases hsp with hsp | ⟨c,t,fz,hb,hspot⟩
  ·omega
  ·obtain⟨b,o,sp⟩:=a
   have hspot:sp=none:=hspot;subst hspot;obtain⟨h1,h2⟩:=mapM_some hel;have h1:els.length=len:=by simpa using h1
   let css:List (List Value):=(List.range len).map fun i=>(w.cells? 0 ((⟨b,o,none⟩:Addr).add (i*m)) m).getD []
   have aFz:∀i,i<len->∃cs x,css[i]? =some cs/\w.cells? 0 ⟨b,o+i*m,none⟩ m=some cs/\els[i]? =some x/\F cs=some x:=by
    intro i hi;obtain⟨x,hx,hF⟩:=h2 i i (by simp [hi]);rw [lN]at hF;cases hcs:w.cells? 0 ⟨b,o+i*m,none⟩ m with
    | none=>rw [hcs]at hF;cases hF
    | some cs=>
     rw [hcs]at hF;refine⟨cs,x,?_,rfl,hx,hF⟩;show((List.range len).map fun i=>(w.cells? 0 ((⟨b,o,none⟩:Addr).add (i*m)) m).getD [])[i]? =some cs;rw [List.getElem?_map,List.getElem?_range hi];show some ((w.cells? 0 ((⟨b,o,none⟩:Addr).add (i*m)) m).getD [])=some cs;rw [lN,hcs];rfl
   have hcl:css.length=len:=by show((List.range len).map _).length=len;simp
   have aHp:∀cs∈css,oC P w cs its:=by
    intro cs hcs;obtain⟨i,hi⟩:=List.getElem?_of_mem hcs;have hil:i<len:=by rw [<-hcl];exact(List.getElem?_eq_some_iff.1 hi).1
    obtain⟨cs',x,g1,_,g3,g4⟩:=aFz i hil;rw [hi]at g1;injection g1 with g1;subst g1;exact hall x (List.mem_of_getElem? g3) cs g4
   obtain⟨U1,S1,Nz,DX,e1,l1,x1,n1,n2,r1,s1⟩:=lay_all aHp U Sz hl
   have hvl:∀vs∈Nz,vs.length=m:=by
    intro vs hvs;obtain⟨i,hi⟩:=List.getElem?_of_mem hvs;have hil:i<DX.length:=by rw [n2,<-n1];exact(List.getElem?_eq_some_iff.1 hi).1
    rw [(s1 i vs _ hi (List.getElem?_eq_getElem hil)).len,hm]
   have hfl:=Gf hvl
   have hA:∀(j:Nat) (v:Value),Nz.flatten[j]? =some v->∃v',c[o+j]? =some v'/\VR U1 v v':=by
    intro j v hj
    have hjl:j<len*m:=by
     have:=(List.getElem?_eq_some_iff.1 hj).1;rw [hfl,n1,hcl]at this;exact this
    have hk:j / m<len:=Nat.div_lt_of_lt_mul (by rw [Nat.mul_comm];exact hjl);have hjm:j%m<m:=Nat.mod_lt _ hpos;have ej:j=(j / m)*m+j%m:=by rw [Nat.mul_comm];exact(Nat.div_add_mod j m).symm
    rw [ej,QP hvl _ _ hjm]at hj;obtain⟨cs,x,g1,g2,g3,g4⟩:=aFz (j / m) hk;cases hvk:Nz[j / m]? with
    | none=>rw [hvk]at hj;cases hj
    | some vs=>
     rw [hvk]at hj;have hvr:=r1 _ vs cs hvk g1;obtain⟨v',hv',hr'⟩:=hvr.get hj;obtain⟨_,q2⟩:=Rk g2 hb;have:=q2 _ _ hv';exact⟨v',by rw [Nat.add_assoc,<-ej]at this;exact this,hr'⟩
   have hB:∀j,j<Nz.flatten.length->¬(fz.1<=o+j/\o+j<fz.2):=by
    intro j hj;have hjl:j<len*m:=by rw [hfl,n1,hcl]at hj;exact hj
    have:=hz j hjl;unfold World.frozen? at this;rw [hb]at this;intro⟨q1,q2⟩;simp at this;have:=this q1;omega
   obtain⟨l2,e2⟩:=l1.add Nz.flatten e ⟨b,o,0,m⟩ hb hA hsz hB;have x2:=DW.new S1 (.cells Nz.flatten e .rs);refine⟨_,_,.slice (some ⟨S1.n,0,none⟩) len cap,DX,e1.trans e2,l2,x1.trans x2,?_,?_⟩
   ·have:=VR.slice (U:=U1.put S1.n ⟨b,o,0,m⟩) (o:=0) (n:=len) (c:=cap) (Rn.iF U1 S1.n ⟨b,o,0,m⟩)
    exact this
   ·refine .row (e:=e) (ck:= .rs) rfl (Nat.lt_succ_self _) (fun h=>h) oD (.inl rfl) (by rw [n2,hcl]) (by rw [hfl,n1,hcl,hm];omega) (fun ds hds=>?_) hN hlc (fun k ds j it v d a1 a2 a3 a4=>?_)
    ·obtain⟨i,hi⟩:=List.getElem?_of_mem hds
     have hil:i<Nz.length:=by rw [n1,<-n2];exact(List.getElem?_eq_some_iff.1 hi).1
     exact(s1 i _ ds (List.getElem?_eq_getElem hil) hi).Ge
    ·have hjm:j<m:=by rw [<-hm];exact(List.getElem?_eq_some_iff.1 a2).1
     rw [hm,Nat.zero_add,QP hvl k j hjm]at a3;cases hk:Nz[k]? with
     | none=>rw [hk]at a3;cases a3
     | some vs=>
      rw [hk]at a3;exact((s1 k vs ds hk a1).fr x2.none).rd j it v d a2 a3 a4
theorem Bq{y:Nat}:∀{fs:List Field} {xs:List (DataW H×List MemPlace)} {j:Nat} {f:Field} {x:DataW H×List MemPlace},fs[j]? =some f->xs[j]? =some x->y∈x.1.weights P f.type->y∈DataW.weightsEach P (fs.map (·.type)) (xs.map (·.1)):=by
 intro fs;induction fs with
 | nil=>intro xs j f x h;simp at h
 | cons g fs ih=>
  intro xs j f x h1 h2 h3;cases xs with
  | nil=>simp at h2
  | cons z xs=>
   rw [List.map_cons,List.map_cons,DataW.weightsEach];cases j with
   | zero=>simp at h1 h2;subst h1 h2;exact List.mem_append.2 (.inl h3)
   | succ j=>exact List.mem_append.2 (.inr (ih (by simpa using h1) (by simpa using h2) h3))
theorem lay (sp:Nat->Bool) (hsp:∀b,sp b=true):∀(F k:Nat) (t:TypeId) (cs:List Value) (d:DataW H) (ps:List MemPlace),DataW.trod enc P w 0 sp true F t cs=some (d,ps)->(∀b off,MemPlace.cell b off∈ps->w.frozen? ⟨b,off,none⟩=false)->
 (∀x∈d.weights P t,x<=reachBytes)->∀its,Ke P k t=some its->oC P w cs its:=by
 intro F;induction F with
 | zero=>intro k t cs d ps h;cases h
 | succ F ih=>
  intro k t cs d ps h hz hw its hi;cases k with
  | zero=>cases hi
  | succ k=>
   unfold Ke at hi;unfold DataW.trod at h;cases hu:P.underlying t with
   | none=>rw [hu]at hi;cases hi
   | some td=>
    rw [hu]at hi h;cases td with
    | bool=>
     injection hi with hi;subst hi
     match cs,h with
     | [.bool b],_=>exact oC.plain rfl fun Sz=> .is
    | int kd=>
     match cs,h with
     | [.int k' n],h=>
      simp only at h;split at h
      ·rename_i hk
       obtain⟨rfl,hwf⟩:=hk;obtain⟨r1,r2⟩:=Vl hwf;cases k' with
       | u64=>
        injection hi with hi;subst hi;have r1:(0:Int)<=n:=r1;have r2:n<=18446744073709551615:=r2;obtain⟨m,rfl⟩:=Int.eq_ofNat_of_zero_le r1;exact oC.plain rfl fun Sz=> .num (z:=m) (by omega)
       | u8=>
        injection hi with hi;subst hi;have r1:(0:Int)<=n:=r1;have r2:n<=255:=r2;obtain⟨m,rfl⟩:=Int.eq_ofNat_of_zero_le r1;exact oC.plain rfl fun Sz=> .kind (z:=m) (by omega)
       | i64=>
        injection hi with hi;subst hi;have r1:(-9223372036854775808:Int)<=n:=r1;have r2:n<=9223372036854775807:=r2;exact oC.plain rfl fun Sz=> .int r1 (by omega)
       | _=>cases hi
      ·cases h
    | string=>
     injection hi with hi;subst hi
     match cs,h with
     | [.string s],h=>
      simp only at h;split at h
      ·injection h with h
       injection h with h _;subst h;obtain⟨⟨l⟩⟩:=s;have:=hw l.length (by simp [DataW.weights]);exact oC.plain rfl fun Sz=> .text (l:=l) (by unfold reachBytes at this;omega)
      ·cases h
    | slice e=>
     simp only at hi;split at hi
     ·rename_i i0 aFA m by0 hit hsz hby
      split at hi
      ·rename_i hm
       have hcell:P.cellsOf e=m:=by unfold Program.cellsOf;unfold bL at hsz;rw [hsz];rfl
       have hfin:(∀(U:Rn) (Sz:St),Lay P w U Sz->∃U' S' v ds,Ext U U'/\Lay P w U' S'/\DW Sz S'/\gW U' [v] cs/\Rd S' (fun _=>False) (.list (i0::aFA)) v (.l ds))->oC P w cs its:=by
        intro hgo U Sz hl;obtain⟨U',S',v,ds,g1,g2,g3,g4,g5⟩:=hgo U Sz hl;refine⟨U',S',[v],[.l ds],g1,g2,g3,g4,?_⟩;split at hi
        ·injection hi with hi;subst hi
         exact⟨rfl,rfl,fun j it v' d' a b c=>by
          cases j with
          | zero=>simp at a b c;subst a b c;exact .nums g5
          | succ j=>simp at a⟩
        ·injection hi with hi;subst hi
         exact⟨rfl,rfl,fun j it v' d' a b c=>by
          cases j with
          | zero=>simp at a b c;subst a b c;exact g5
          | succ j=>simp at a⟩
       match cs,h,hfin with
       | [.slice none 0 0],_,hfin=>exact hfin fun U Sz hl=>⟨U,Sz,_,[],.refl U,hl,.refl Sz,.cons (.flat rfl) (.nil U),.empty⟩
       | [.slice (some a) len cap],h,hfin=>
        simp only at h;split at h
        ·rename_i hcond
         rw [hcell]at h;cases hels:(List.range len).mapM (fun i=>(w.cells? 0 (a.add (i*m)) m).bind (DataW.trod enc P w 0 sp true F e))with
         | none=>rw [hels]at h;cases h
         | some els=>
          rw [hels]at h;simp only [Option.bind_some,hsp,if_true]at h;cases hrest:(List.range (cap-len)).mapM (fun j=>(w.cells? 0 (a.add ((len+j)*m)) m).bind (DataW.trod enc P w 0 sp true F e))with
          | none=>rw [hrest]at h;cases h
          | some rest=>
           rw [hrest]at h;injection h with h;injection h with hd hps;subst hd hps;obtain⟨n1,n2⟩:=mapM_some hels;obtain⟨n3,n4⟩:=mapM_some hrest;have n1:els.length=len:=by simpa using n1
           have n3:rest.length=cap-len:=by simpa using n3
           have hwt:(els.length+rest.length)*P.bytesOf e<=reachBytes:=hw _ (by rw [DataW.weights,hu];simp);rw [hby,n1]at hwt
           have aDO:len<=140737488355328:=by
            unfold reachBytes at hwt;have:len<=(len+rest.length)*by0.succ:=Nat.le_trans (Nat.le_add_right _ _) (Nat.le_mul_of_pos_right _ (Nat.succ_pos _));omega
           refine hfin fun U Sz hl=>?_
           obtain⟨U',S',v,ds,g1,g2,g3,g4,g5⟩:=Rm (F:=DataW.trod enc P w 0 sp true F e) (its:=i0::aFA) (e:=e) (by rw [hm];rfl) (by omega) hsz hcell hcond.2.1 hels aDO (by
            rcases Nat.eq_zero_or_pos cap with h0 | h0
            ·exact .inl h0
            ·right
             rcases Nat.eq_zero_or_pos len with h1 | h1
             ·obtain⟨x,_,hx⟩:=n4 0 0 (List.getElem?_range (by omega))
              cases hcs:w.cells? 0 (a.add ((len+0)*m)) m with
              | none=>rw [hcs]at hx;cases hx
              | some c0=>
               rw [h1]at hcs;simp only [Nat.add_zero,Nat.zero_mul]at hcs;exact QQ (by simpa [Addr.add]using hcs) (by omega)
             ·obtain⟨x,_,hx⟩:=n2 0 0 (List.getElem?_range (by omega))
              cases hcs:w.cells? 0 (a.add (0*m)) m with
              | none=>rw [hcs]at hx;cases hx
              | some c0=>
               simp only [Nat.zero_mul]at hcs;exact QQ (by simpa [Addr.add]using hcs) (by omega)) (fun i hi=>by
            refine hz a.block (a.off+i) (List.mem_append.2 (.inl ?_));unfold MemPlace.row;refine List.mem_map.2 ⟨i,List.mem_range.2 ?_,rfl⟩;rw [n1];have:len*m<=(len+rest.length)*m:=Nat.mul_le_mul_right _ (Nat.le_add_right _ _);omega) (fun x hx cs' hF=>by
            obtain⟨dx,px⟩:=x;refine ih k e cs' dx px hF (fun b off hb=>hz b off (List.mem_append.2 (.inr (List.mem_flatMap.2 ⟨(dx,px),List.mem_append.2 (.inl hx),hb⟩)))) (fun y hy=>hw y ?_) _ hit;rw [DataW.weights,hu];exact List.mem_cons_of_mem _ (List.mem_append.2 (.inl (Gg (List.mem_map.2 ⟨(dx,px),hx,rfl⟩) hy)))) U Sz hl
           exact⟨U',S',v,ds,g1,g2,g3,.cons g4 (.nil U'),g5⟩
        ·cases h
      ·cases hi
     ·cases hi
    | struct fs=>
     simp only at hi h
     have hi:∃m,Kd P (Ke P k) fs.toList 0=some its/\bL P t=some m/\m=its.length:=by
      split at hi
      ·rename_i aIk m' h1 h2
       split at hi
       ·rename_i h3
        injection hi with hi;subst hi;exact⟨m',h1,h2,h3⟩
       ·cases hi
      ·cases hi
     obtain⟨mm,hi,hsz,hmm⟩:=hi;have hct:P.cellsOf t=mm:=by unfold Program.cellsOf;unfold bL at hsz;rw [hsz];rfl
     split at h
     ·rename_i hlen
      cases hxs:(fs.toList.mapM fun f=>DataW.trod enc P w 0 sp true F f.type ((cs.drop f.offset).take (P.cellsOf f.type)))with
      | none=>rw [hxs]at h;cases h
      | some xs=>
       rw [hxs]at h;injection h with h;injection h with hd hps;subst hd hps
       have:=Rl (w:=w) hi cs (fun t c=>DataW.trod enc P w 0 sp true F t c) xs hxs (by omega) (fun j f x hf hx i c hg hF=>by
        obtain⟨dx,px⟩:=x;refine ih k f.type c dx px hF (fun b off hb=>hz b off (List.mem_flatMap.2 ⟨(dx,px),List.mem_of_getElem? hx,hb⟩)) (fun y hy=>hw y ?_) i hg;rw [DataW.weights,hu];exact Bq hf hx hy)
       rwa [List.drop_zero]at this
     ·cases h
    | _=>cases hi
end
end Go.Am
namespace Go.Am
open Go.RowKit Go.ChangeShapes
section
variable{H:Type}{enc:TypeId×Value->H}{P:Program}{w:World}{base fuel:Nat}{spare:Nat->Bool}{held:Bool}{t e:TypeId}{k:IntKind}{n:Nat}{cs:List Value}
theorem ints_of_trod{x:DataW H×List MemPlace} (ht:P.underlying t=some (.array n e)) (he:P.underlying e=some (.int k)) (hc:P.cellsOf e=1) (hct:P.cellsOf t=n) (h:DataW.trod enc P w base spare held fuel t cs=some x){ns:List Int}
 (hx:x.1= .agg (ns.map fun i=> .lit (.int k i))):cs=ns.map (Value.int k):=by
 obtain⟨xs,m,rfl,rfl,hlen,hn,hel⟩:=DataW.trod_array ht h;simp only [DataW.agg.injEq]at hx;have hl:xs.length=ns.length:=by have:=congrArg List.length hx;simpa using this
 apply List.ext_getElem?;intro i;by_cases hi:i<n
 ·have h1:=hel i hi
  have hix:i<xs.length:=by omega
  rw [List.getElem?_eq_getElem hix]at h1;obtain⟨j,e1,e2,_⟩:=DataW.trod_int he h1;have h2:=congrArg (·[i]?) hx;have hin:i<ns.length:=by omega
  simp only [List.getElem?_map,List.getElem?_eq_getElem hix,List.getElem?_eq_getElem hin,Option.map_some,e2,Option.some.injEq,DataW.lit.injEq,Lit.int.injEq,true_and]at h2;subst h2;rw [hc,Nat.mul_one]at e1;have h3:cs[i]? =((cs.drop i).take 1)[0]? :=by rw [List.getElem?_take,if_pos (by omega),List.getElem?_drop];simp
  rw [h3,e1];simp [List.getElem?_eq_getElem hin]
 ·rw [List.getElem?_eq_none (by omega),List.getElem?_eq_none (by simp;omega)]
end
theorem var?_heap{P:Program}{w:World}{n:String}{g:Nat}{cs:Array Value} (hg:P.globalNamed n=some g) (h:w.var? P n=some cs):∃t fz,w.heap[g]? =some (.cells cs t fz):=by
 simp only [World.var?,hg,Option.bind_some]at h;split at h
 ·rename_i c t fr hb
  cases h;exact⟨t,fr,hb⟩
 ·cases h
theorem size_of_shaped{P:Program}{w:World} (h:w.ShapedOpen P){g:Nat} (hg:g<P.globals.size) (hk:(((begin P (fun _ _=>0) default).world.heap[g]?).bind Obj.row?).isSome=true):g<w.heap.size:=by
 obtain⟨⟨zero,t⟩,hz⟩:=Option.isSome_iff_exists.1 hk;obtain⟨cs,hc,_⟩:=h.1 g zero t hg hz;exact(Array.getElem?_eq_some_iff.1 hc).1
end Go.Am
namespace Go.Am
open Go.RowKit
theorem returns_open{H:Type}{enc:TypeId×Value->H}{a:Assume}{C:Checked}{os:Os}{f:FuncId}{fn:Func}{s:ChangeSpec}{X:World->Prop} (hX:∀w w':World,w.heap=w'.heap->X w->X w')
 (own:ownKnob C.prog.godebug=none) (started:os.Started) (noInit:C.prog.inits.idxOf? f=none) (hfn:C.prog.funcs[f]? =some fn)
 (witness:∃(w:World) (tape:Tape) (i:Input),w.os=os/\(w.forCall tape i).Shaped C.prog/\i.vars=[]/\Input.okWide C.prog (w.forCall tape i) .any w.heap.size f i/\
  ((s.pre enc C.prog fn [] false (w.forCall tape i).memory i.args/\X (w.forCall tape i).memory)/\sizedMet enc C.prog fn (OpenSpec.ofChange s) false (w.forCall tape i).memory i.args)/\a.holds C.prog (lone (Frame.enter C.prog f i.args .normal) [] (w.forCall tape i)))
 (contract:∀(W:World) (base:Nat) (args:Array Value) (ds gs:List (DataW H)) (before:List MemPlace),(∀(j:Nat) t v,fn.params[j]? =some t->args[j]? =some v->Value.okWide C.prog W .any base t v)->DataW.Whole enc C.prog fn.params.toList s.vars false W args.toList ds gs before->
  (DataW.weightsEach C.prog (fn.params.toList++s.plain.varTypes C.prog) (ds++gs)).all (· <=reachBytes)=true->W.ShapedOpen C.prog->X W->
  Calls C.prog f args W fun e W'=>∃v,e= .returned v/\s.post enc C.prog fn false true false false W args v W'):
 ReturnsInHanded a C os f .any (fun w args=>(s.pre enc C.prog fn [] false w args/\X w)/\sizedMet enc C.prog fn (OpenSpec.ofChange s) false w args) (s.post enc C.prog fn false true false false):=by
 refine returnsInHanded_of_calls own started noInit witness ?_;intro w tape i _ hsh _ hok hpre _;obtain⟨_,_,_,fn',hfn',_,_,_,_,hval⟩:=hok;have e:fn'=fn:=Option.some.inj (hfn'.symm.trans hfn);subst e;obtain⟨⟨⟨ds,gs,before,hw,_⟩,hx⟩,hz⟩:=hpre;have hw':=DataW.Whole.of_heap (w':=w.forCall tape i) (by rfl) hw;refine(contract (w.forCall tape i) w.heap.size i.args ds gs before hval hw' (hz.weights hw) hsh (hX _ _ (by rfl) hx)).mono fun e W' ⟨v,he,hp⟩=>?_;subst he;exact ChangeSpec.post_blind hp
end Go.Am
