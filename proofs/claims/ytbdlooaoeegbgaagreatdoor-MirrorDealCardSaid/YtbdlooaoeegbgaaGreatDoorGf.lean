/- mirror: other draws of a load. -/
import Derived.Test.YtbdlooaoeegbgaaGreatDoorGe
import Derived.Test.YtbdlooaoeegbgaaGreatDoorGd

set_option linter.unusedVariables false
set_option maxRecDepth 4000
namespace Go.Am
open Go.Proofs.JQ
def dD (a b:Nat):Nat:=(a%23+b%23)%23
def JB (draws xs:List Nat) (k:Nat):List Nat:=(List.zipWith dD draws xs).take k++draws.drop k
theorem aBQ{draws xs:List Nat}{k:Nat} (hl:xs.length=draws.length) (hk:k<draws.length):(JB draws xs k)[k]? =some draws[k]:=by
 unfold JB;rw [List.getElem?_append_right (by rw [List.length_take,List.length_zipWith];omega),List.getElem?_drop,List.length_take,List.length_zipWith,show k+(k-min k (min draws.length xs.length))=k by omega,List.getElem?_eq_getElem hk]
theorem He{draws xs:List Nat}{k:Nat} (hl:xs.length=draws.length) (hk:k<=draws.length):(JB draws xs k).length=draws.length:=by
 unfold JB;rw [List.length_append,List.length_take,List.length_drop,List.length_zipWith];omega
theorem Xi{draws xs:List Nat}{k:Nat} (hl:xs.length=draws.length) (hk:k<draws.length) (hk2:k<xs.length):(JB draws xs k).set k (dD draws[k] xs[k])=JB draws xs (k+1):=by
 apply List.ext_getElem?;intro j;have hz:(List.zipWith dD draws xs).length=draws.length:=by rw [List.length_zipWith];omega
 rcases Nat.lt_trichotomy j k with c | c | c
 ·rw [List.getElem?_set_ne (by omega)]
  unfold JB;rw [List.getElem?_append_left (by rw [List.length_take];omega),List.getElem?_append_left (by rw [List.length_take];omega),List.getElem?_take,List.getElem?_take,if_pos c,if_pos (by omega)]
 ·subst c
  rw [List.getElem?_set_self (by rw [He hl (by omega)];omega)];unfold JB;rw [List.getElem?_append_left (by rw [List.length_take];omega),List.getElem?_take,if_pos (by omega),List.getElem?_eq_getElem (by omega),List.getElem_zipWith]
 ·rw [List.getElem?_set_ne (by omega)]
  unfold JB;rw [List.getElem?_append_right (by rw [List.length_take];omega),List.getElem?_append_right (by rw [List.length_take];omega),List.getElem?_drop,List.getElem?_drop,List.length_take,List.length_take]
  congr 1
  omega
section
variable{M n:Nat}{x:VE}{Sz:Hp}{K:KV}{two:Bool}
noncomputable def Lc (bp o7 o8:Nat) (st:LoopState):Ob:= .loop [3,7,8] [.ptr bp 0,.ptr o7 0,.ptr o8 0] 28 (tL PP aQ [.r,.r,.r,.l,.r,.d]) (tO PP aQ [.r,.r,.r,.l,.r,.d]) (qD PP aQ [.r,.r,.r,.l,.r,.d]) st none
structure aBR (SA:Hp) (bp o7 o8 oi l:Nat) (vd:V) (back:Nat) (draws xs:List Nat) (k:Nat) (Sz:Hp):Prop where
 le:bE SA Sz
 nbp:SA bp=none
 n7:SA o7=none
 n8:SA o8=none
 noi:SA oi=none
 nol:SA l=none
 rp:Sz bp=some (.row [nu 23,nu back,vd] 86)
 r7:Sz o7=some (.row [.acc oi draws.length] 32)
 r8:Sz o8=some (.row [ni k] 3)
 ri:Sz oi=some (.dF (gA (JB draws xs k)) 22 draws.length)
 lo:Sz l=some (Lc bp o7 o8 .ready)
theorem Xj (hM:1000000<M) (hx:Deep PP bH gM M (n+2) x){SA:Hp}{bp o7 o8 oi l:Nat}{vd:V}{back:Nat}{draws xs rest:List Nat}{k z:Nat} (h64:qB draws) (x64:qB xs) (hl:xs.length=draws.length) (hll:draws.length<1000) (hz:xs.drop k=z::rest) (h:aBR SA bp o7 o8 oi l vd back draws xs k Sz)
 (hK:∀S',aBR SA bp o7 o8 oi l vd back draws xs (k+1) S'->K (.bool true) S'):x.R l [nu z] Sz K:=by
 refine hx.round fun y hy=>?_;refine CO (st:= .ready) (pe:=none) h.lo zQ ?_;rw [zR];unfold pP;refine HH h.lo ?_;have hbz:upd Sz l (.loop [3,7,8] [.ptr bp 0,.ptr o7 0,.ptr o8 0] 28 (tL PP aQ [.r,.r,.r,.l,.r,.d]) (tO PP aQ [.r,.r,.r,.l,.r,.d]) (qD PP aQ [.r,.r,.r,.l,.r,.d]) .busy none)=upd Sz l (Lc bp o7 o8 .busy):=rfl;rw [hbz];have ne:∀{i:Nat} {o:Ob},Sz i=some o->o≠Lc bp o7 o8 .ready->i≠l:=fun e hne c=>by rw [c,h.lo]at e;injection e with e;exact hne e.symm
 have nl7:o7≠l:=ne h.r7 (fun e=>by cases e);have nl8:o8≠l:=ne h.r8 (fun e=>by cases e);have nli:oi≠l:=ne h.ri (fun e=>by cases e);have nlp:bp≠l:=ne h.rp (fun e=>by cases e);have n78:o7≠o8:=fun c=>by have:=h.r7;rw [c,h.r8]at this;injection this with e;injection e with _ e;cases e
 have n7i:o7≠oi:=fun c=>by have:=h.r7;rw [c,h.ri]at this;cases this
 have n8i:o8≠oi:=fun c=>by have:=h.r8;rw [c,h.ri]at this;cases this
 have np7:bp≠o7:=fun c=>by have:=h.rp;rw [c,h.r7]at this;injection this with e;injection e with _ e;cases e
 have np8:bp≠o8:=fun c=>by have:=h.rp;rw [c,h.r8]at this;injection this with e;injection e with _ e;cases e
 have npi:bp≠oi:=fun c=>by have:=h.rp;rw [c,h.ri]at this;cases this
 have k1:bE SA (upd Sz l (Lc bp o7 o8 .busy)):=pL h.le h.nol;have kl:upd Sz l (Lc bp o7 o8 .busy) l=some (Lc bp o7 o8 .busy):=upd_same;have kp:upd Sz l (Lc bp o7 o8 .busy) bp=some (.row [nu 23,nu back,vd] 86):=by rw [aB nlp];exact h.rp
 have k7:upd Sz l (Lc bp o7 o8 .busy) o7=some (.row [.acc oi draws.length] 32):=by rw [aB nl7];exact h.r7
 have k8:upd Sz l (Lc bp o7 o8 .busy) o8=some (.row [ni k] 3):=by rw [aB nl8];exact h.r8
 have ki:upd Sz l (Lc bp o7 o8 .busy) oi=some (.dF (gA (JB draws xs k)) 22 draws.length):=by rw [aB nli];exact h.ri
 generalize upd Sz l (Lc bp o7 o8 .busy)=S2 at k1 kl kp k7 k8 ki
 have hkx:k<xs.length:=by
  rcases Nat.lt_or_ge k xs.length with c | c
  ·exact c
  ·rw [List.drop_eq_nil_of_le c]at hz;cases hz
 have hkd:k<draws.length:=by omega
 have ez:xs[k]=z:=by
  have:=List.drop_eq_getElem_cons hkx;rw [hz]at this;injection this with e _;exact e.symm
 subst ez;have l7:∀{K:KV},aS (.ptr o7 0) S2 K=K (.acc oi draws.length) S2:=cG k7 rfl;have l8:∀{K:KV},aS (.ptr o8 0) S2 K=K (ni k) S2:=cG k8 rfl;have li:∀{K:KV},aS (.lX oi draws.length k) S2 K=K (nu draws[k]) S2:=gld ki (rG (aBQ hl hkd));rw [l7,l8,l7,l8,XI hkd,li,aN,cG kp rfl];refine ZH hy (h64 _ (List.getElem_mem hkd)) (x64 _ (List.getElem_mem hkx)) q23 ?_;rw [l8,bO,l7,bQ rfl,l8,bO,l7,bQ rfl,XI hkd];have hpl:=He hl (k:=k) (by omega);refine Xe ki rfl (by rw [cY];omega) ?_;rw [qE (by rw [cY];omega),II,show(draws[k]%23+xs[k]%23)%23=dD draws[k] xs[k]from rfl,Xi hl hkd hkx];have m8:upd S2 oi (.dF (gA (JB draws xs (k+1))) 22 draws.length) o8=some (.row [ni k] 3):=by rw [aB n8i];exact k8
 rw [cG m8 rfl,aX (by omega),EB m8 (by simp) rfl];have l4:upd (upd S2 oi (.dF (gA (JB draws xs (k+1))) 22 draws.length)) o8 (.row ([ni k].set 0 (ni (k+1))) 3) l=some (Lc bp o7 o8 .busy):=by rw [aB (Ne.symm nl8),aB (Ne.symm nli)];exact kl
 refine HI l4 (hK _ ⟨pL (pL (pL k1 h.noi) h.n8) h.nol,h.nbp,h.n7,h.n8,h.noi,h.nol,?_,?_,?_,?_,upd_same⟩)
 ·rw [aB nlp,aB np8,aB npi];exact kp
 ·rw [aB nl7,aB n78,aB n7i];exact k7
 ·rw [aB nl8];exact upd_same
 ·rw [aB nli,aB (Ne.symm n8i)];exact upd_same
theorem OnV.up{b0 b1 b2 b3 lo:Nat}{vd:V}{diff line:List Nat}{back:Nat}{Sz S':Hp} (h:OnV b0 b1 b2 b3 lo vd diff line back Sz) (hle:bE Sz S'):OnV b0 b1 b2 b3 lo vd diff line back S':=
 ⟨hle _ _ h.r0,hle _ _ h.r1,hle _ _ h.r2,hle _ _ h.r3,h.d.up hle,hle _ _ h.l⟩
theorem Xk (line:List Nat) (back:Nat):∀diff,qB (rR line back diff):=by
 intro diff;induction diff with
 | nil=>intro c hc;cases hc
 | cons d l ih=>
  intro c hc;rcases List.mem_append.1 hc with hc | hc
  ·obtain⟨a,_,rfl⟩:=List.mem_map.1 hc;exact qS q23
  ·rcases List.mem_append.1 hc with hc | hc
   ·obtain⟨a,_,rfl⟩:=List.mem_map.1 hc;exact Nat.lt_trans (sub_lt _ _) (by decide)
   ·exact ih c hc
theorem ZI (line:List Nat) (back:Nat):∀diff,(rR line back diff).length=diff.length*(line.length-1+line.length):=by
 intro diff;induction diff with
 | nil=>simp [rR]
 | cons d l ih=>simp only [rR,List.length_append,List.length_map,List.length_drop,ih,List.length_cons,Nat.succ_mul];omega
theorem MN.aEn{S0 Sz:Hp}{w:V}{l:List Nat} (h:MN S0 Sz w l) (a:Ah Sz w l) (hl:0<l.length):∃i,w= .acc i l.length/\S0 i=none/\Sz i=some (.dF (gA l) 22 l.length):=by
 cases h with
 | nil=>simp at hl
 | acc h0 h=>exact⟨_,rfl,h0,h⟩
 | @own i _ h0 h=>
  exfalso;generalize hv:V.own i 0 l.length l.length=v at a;cases a with
  | HE=>simp at hl
  | nil=>cases hv
  | emp=>cases hv
  | acc=>cases hv
  | tW=>cases hv
theorem aC0 (hM:1000000<M) (hx:Deep PP bH gM M (n+5) x){S0 SA:Hp}{b0 b1 b2 b3:Nat}{vd va:V}{draws xs:List Nat}{back:Nat}{On:Hp->Prop} (hon:On SA) (hup:∀Sz S',On Sz->bE Sz S'->On S') (hv1:jK vd=true) (x64:qB xs)
 (hit:∀(y:VE),Deep PP bH gM M (n+4) y->∀(l:Nat) (Inv:Nat->Hp->Prop) (Sz:Hp) (K:KV),(∀k Sz,Inv k Sz->On Sz)->(∀(y:VE),Deep PP bH gM M (n+3) y->∀(k:Nat) (Sz:Hp) (z:Nat) (rest:List Nat) (K:KV),xs.drop k=z::rest->Inv k Sz->(∀S',Inv (k+1) S'->K (.bool true) S')->y.R l [nu z] Sz K)->Inv 0 Sz->(∀k Sz,xs.drop k=[]->Inv k Sz->K (.tuple []) Sz)->y.call bD [.yield l,.ptr b0 0,.ptr b1 0,.ptr b2 0,.ptr b3 0] Sz K)
 (ma:MN S0 SA va draws) (h64:qB draws) (hlen:xs.length=draws.length) (hdr:draws.length<1000) (aEo:0<draws.length) (hK:∀w S',bE SA S'->MN SA S' w (List.zipWith dD draws xs)->K w S'):x.call aQ [.agg [nu 23,nu back,vd],va,.func bD [] [.ptr b0 0,.ptr b1 0,.ptr b2 0,.ptr b3 0]] SA K:=by
 refine hx.call aFY fun y hy=>?_;rw [JC];unfold xV;refine cO (by simp only [List.all_cons,List.all_nil,hv1];rfl) fun bp hbp=>?_;have le1:bE SA (upd SA bp (.row [nu 23,nu back,vd] 86)):= .aH hbp;have rp:upd SA bp (.row [nu 23,nu back,vd] 86) bp=some (.row [nu 23,nu back,vd] 86):=upd_same;generalize upd SA bp (.row [nu 23,nu back,vd] 86)=S1 at le1 rp;refine Pg (n:=n+3) hy (ma.up le1) (by omega) fun w S2 gP mw aw=>?_;obtain⟨oi,rfl,n1,ri⟩:=mw.aEn aw aEo;have rp:=gP _ _ rp;refine eI rfl fun o7 h7=>?_;have r7:upd S2 o7 (.row [.nil] 32) o7=some (.row [.nil] 32):=upd_same;rw [EB r7 (by simp) rfl,fP];show eU [(.int .i64 (.ofNat 0))] 3 (upd S2 o7 (.row [.acc oi draws.length] 32)) _;have kP:bE S2 (upd S2 o7 (.row [.acc oi draws.length] 32)):= .aH h7;have r7:upd S2 o7 (.row [.acc oi draws.length] 32) o7=some (.row [.acc oi draws.length] 32):=upd_same;generalize upd S2 o7 (.row [.acc oi draws.length] 32)=S3 at kP r7;refine eI rfl fun o8 h8=>?_;have r8:upd S3 o8 (.row [ni 0] 3) o8=some (.row [ni 0] 3):=upd_same;have le4:bE S3 (upd S3 o8 (.row [ni 0] 3)):= .aH h8;refine Eq.mpr (EB r8 (by simp) rfl) ?_;rw [fP];show zT y _ [3,7,8] _ 28 _ _ _ (upd S3 o8 (.row [ni 0] 3)) _;generalize upd S3 o8 (.row [ni 0] 3)=S4 at le4 r8;refine CP fun l hl=>?_;have hlo:upd S4 l (.loop [3,7,8] [.ptr bp 0,.ptr o7 0,.ptr o8 0] 28 (tL PP aQ [.r,.r,.r,.l,.r,.d]) (tO PP aQ [.r,.r,.r,.l,.r,.d]) (qD PP aQ [.r,.r,.r,.l,.r,.d]) .ready none)=upd S4 l (Lc bp o7 o8 .ready):=rfl;rw [hlo];have wY:bE S4 (upd S4 l (Lc bp o7 o8 .ready)):= .aH hl;have ND:=le1.trans gP;have uU:=ND.trans kP;have AM:=uU.trans le4
 have q0:aBR SA bp o7 o8 oi l vd back draws xs 0 (upd S4 l (Lc bp o7 o8 .ready)):=
  ⟨AM.trans wY,hbp,ND.none h7,uU.none h8,le1.none n1,AM.none hl,wY _ _ (le4 _ _ (kP _ _ rp)),wY _ _ (le4 _ _ r7),wY _ _ r8,by
   have e:JB draws xs 0=draws:=rfl;rw [e];exact wY _ _ (le4 _ _ (kP _ _ ri)),upd_same⟩
 show y.call bD [.yield l,.ptr b0 0,.ptr b1 0,.ptr b2 0,.ptr b3 0] _ _;refine hit y hy l (aBR SA bp o7 o8 oi l vd back draws xs) _ _ (fun k Sz h=>hup _ _ hon h.le) (fun z hz k Sz a rest K hr h hk=>Xj (n:=n+1) hM hz h64 x64 hlen hdr hr h hk) q0 fun k S5 hk q5=>?_;refine HJ q5.lo (by simp) ?_;rw [NE];obtain⟨ob,hex⟩:∃ob,upd S5 l (.loop [3,7,8] [.ptr bp 0,.ptr o7 0,.ptr o8 0] 28 (tL PP aQ [.r,.r,.r,.l,.r,.d]) (tO PP aQ [.r,.r,.r,.l,.r,.d]) (qD PP aQ [.r,.r,.r,.l,.r,.d]) .exhausted none)=upd S5 l ob:=⟨_,rfl⟩;rw [hex];have n7l:o7≠l:=fun c=>by have:=q5.r7;rw [c,q5.lo]at this;injection this with e;cases e
 have nil:oi≠l:=fun c=>by have:=q5.ri;rw [c,q5.lo]at this;injection this with e;cases e
 rw [cG (by rw [aB n7l];exact q5.r7) rfl];have hkl:xs.length<=k:=List.drop_eq_nil_iff.1 hk
 have e:JB draws xs k=List.zipWith dD draws xs:=by
  unfold JB;rw [List.take_of_length_le (by rw [List.length_zipWith];omega),List.drop_eq_nil_of_le (by omega),List.append_nil]
 have el:(List.zipWith dD draws xs).length=draws.length:=by rw [List.length_zipWith];omega
 refine aJ (hK _ _ (pL q5.le q5.nol) ?_);have:=q5.ri;rw [e]at this;have hm:MN SA (upd S5 l ob) (.acc oi (List.zipWith dD draws xs).length) (List.zipWith dD draws xs):= .acc q5.noi (by rw [aB nil,el];exact this);rw [el]at hm;exact hm
theorem aFZ (hM:1000000<M) (hx:Deep PP bH gM M (n+5) x){S0 SA:Hp}{b0 b1 b2 b3 lo:Nat}{vd va:V}{diff line draws:List Nat}{back:Nat} (hon:OnV b0 b1 b2 b3 lo vd diff line back SA) (hv1:jK vd=true) (Cq:qB diff) (VI:qB line) (hb:b64 back) (hl0:0<line.length) (hll:line.length<1000) (hdl:diff.length<1000)
 (ma:MN S0 SA va draws) (h64:qB draws) (hlen:(rR line back diff).length=draws.length) (hdr:draws.length<1000) (aEo:0<draws.length) (hK:∀w S',bE SA S'->MN SA S' w (List.zipWith dD draws (rR line back diff))->K w S'):x.call aQ [.agg [nu 23,nu back,vd],va,.func bD [] [.ptr b0 0,.ptr b1 0,.ptr b2 0,.ptr b3 0]] SA K:=
 aC0 hM hx (On:=OnV b0 b1 b2 b3 lo vd diff line back) hon (fun Sz S' h hle=>h.up hle) hv1 (Xk _ _ _) (fun y hy l Inv Sz K hI step h0 hK=>aBP (n:=n+1) (Inv:=Inv) hM hy Cq VI hb hl0 hll hdl hI step h0 hK) ma h64 hlen hdr aEo hK
theorem aEp (hx:Deep PP bH gM M (n+1) x){Sz:Hp}{lo:Nat}{vd:V}{diff line:List Nat}{back:Nat} (hv1:jK vd=true) (hd:NV Sz vd diff) (hl:Sz lo=some (.row (gA line) 22))
 (hK:∀b0 b1 b2 b3 S',bE Sz S'->OnV b0 b1 b2 b3 lo vd diff line back S'->K (.func bD [] [.ptr b0 0,.ptr b1 0,.ptr b2 0,.ptr b3 0]) S'):x.call gC [.agg [nu 23,nu back,vd],.own lo 0 line.length line.length,ni 1,ni 0] Sz K:=by
 refine hx.call Xh fun y hy=>?_;rw [xB];unfold qF;refine cO (by simp only [List.all_cons,List.all_nil,hv1];rfl) fun b0 h0=>?_;have le0:bE Sz (upd Sz b0 (.row [nu 23,nu back,vd] 86)):= .aH h0;have r0:upd Sz b0 (.row [nu 23,nu back,vd] 86) b0=some (.row [nu 23,nu back,vd] 86):=upd_same;generalize upd Sz b0 (.row [nu 23,nu back,vd] 86)=S1 at le0 r0;refine box1 rfl fun b1 h1=>?_;have le1:bE S1 (upd S1 b1 (.row [.own lo 0 line.length line.length] 32)):= .aH h1;have r1:upd S1 b1 (.row [.own lo 0 line.length line.length] 32) b1=some (.row [.own lo 0 line.length line.length] 32):=upd_same;generalize upd S1 b1 (.row [.own lo 0 line.length line.length] 32)=S2 at le1 r1;refine box1 rfl fun b2 h2=>?_;have gP:bE S2 (upd S2 b2 (.row [ni 1] 3)):= .aH h2;have r2:upd S2 b2 (.row [ni 1] 3) b2=some (.row [ni 1] 3):=upd_same;generalize upd S2 b2 (.row [ni 1] 3)=S3 at gP r2;refine box1 rfl fun b3 h3=>?_;have kP:bE S3 (upd S3 b3 (.row [ni 0] 3)):= .aH h3;have r3:upd S3 b3 (.row [ni 0] 3) b3=some (.row [ni 0] 3):=upd_same;generalize upd S3 b3 (.row [ni 0] 3)=S4 at kP r3;have OL:=((le0.trans le1).trans gP).trans kP;exact aJ (hK _ _ _ _ _ OL ⟨kP _ _ (gP _ _ (le1 _ _ r0)),kP _ _ (gP _ _ r1),kP _ _ r2,r3,hd.up OL,OL _ _ hl⟩)
theorem aC1 (hx:Deep PP bH gM M (n+2) x){Sz:Hp}{vd:V}{diff:List Nat} (hv1:jK vd=true) (hd:NV Sz vd diff) (hl:diff.length=2){w:Nat} (hw1:1<=w) (hw2:w<=22) (hK:∀S',bE Sz S'->K (.tuple [.agg [nu 23,nu (iA w),vd],.bool true]) S'):x.call xA [.agg (pv two),nu w,vd] Sz K:=by
 refine hx.call aFX fun y hy=>?_;rw [Hf];unfold QX;refine cO jL fun bp hbp=>?_;have le1:bE Sz (upd Sz bp (.row (pv two) 25)):= .aH hbp;have rp:upd Sz bp (.row (pv two) 25) bp=some (.row (pv two) 25):=upd_same;generalize upd Sz bp (.row (pv two) 25)=S1 at le1 rp;refine eI (l:=[nu 0,nu 0,.nil]) rfl fun o ho=>?_;have gP:bE S1 (upd S1 o (.row [nu 0,nu 0,.nil] 86)):= .aH ho;have ro:upd S1 o (.row [nu 0,nu 0,.nil] 86) o=some (.row [nu 0,nu 0,.nil] 86):=upd_same;generalize upd S1 o (.row [nu 0,nu 0,.nil] 86)=S2 at gP ro;have Cr:=gP _ _ rp;have hd2:=hd.up (le1.trans gP);have e1:(pv two)[1]? =some (nu 23):=rfl;have e7:(pv two)[7]? =some (ni 1):=rfl;have e8:(pv two)[8]? =some (ni 1):=rfl;rw [aN,cG Cr e1];refine aCZ hy (show w<18446744073709551616 by omega) q23 (Pe hw1 hw2) ?_;rw [iD (v:=nu (iA w)) rfl,iD (v:=ni 0) rfl,aN,cG Cr e1]
 have hb:∀{k:V->Prop},gQ [(.int .u64 (.ofNat 0)),(.int .u64 (.ofNat 0)),(.slice none 0 0)] [(0,1,nu 23),(1,1,nu (iA w)),(2,1,vd)] k=k (.agg [nu 23,nu (iA w),vd]):=fun {k}=>by
  have hc:∀{p:List V->Prop},oY vd p=p [vd]:=fun {p}=>by cases vd<;>first | rfl | cases hv1
  apply propext;unfold gQ mY;show jE _ [nu 0,nu 0,.nil] _↔_;unfold jE;show(_/\_/\jE [(1,1,nu (iA w)),(2,1,vd)] [nu 23,nu 0,.nil] _)↔_;unfold jE;show(_/\_/\_/\_/\jE [(2,1,vd)] [nu 23,nu (iA w),.nil] _)↔_;unfold jE;rw [hc];constructor
  ·intro h;exact h.2.2.2.2.2.2
  ·intro h;exact⟨rfl,by simp,rfl,by simp,rfl,by simp,h⟩
 rw [hb,iU Cr,cF (by rw [hH];omega),List.drop_zero,List.take_of_length_le (by rw [hH];omega)];refine Pc hy ?_;have eE:∀{k:V->Prop},aG PP .eql 61 (ni 0) (.int .i64 (.ofNat 0)) k=k (.bool true):=fun {k}=>by rw [ED];rfl
 simp only [aF,aI,gR,eE,hd2.len,cG Cr e1,bO];rw [aN,cG Cr e7,aN,cG Cr e8,aX (by decide),pB (by decide),ED,decide_eq_true hl];have hall:[nu 23,nu (iA w),vd].all jK=true:=by simp only [List.all_cons,List.all_nil,hv1];rfl
 refine qT (n:=3) (cs:=[nu 23,nu (iA w),vd]) ro hall rfl rfl ?_;have YL:bp≠o:=fun c=>by rw [c]at Cr;rw [ro]at Cr;injection Cr with e;injection e with _ e;cases e
 have zP:upd S2 o (.row [nu 23,nu (iA w),vd] 86) bp=some (.row (pv two) 25):=by rw [aB YL];exact Cr
 have Xl:upd S2 o (.row [nu 23,nu (iA w),vd] 86) o=some (.row [nu 23,nu (iA w),vd] 86):=upd_same;rw [vZ,cG zP e8,bO,vZ,cG zP e7,bO,iU Xl,cF (by simp)]
 exact aJ (hK _ (fun k p e=>by
  have hk:k≠o:=fun c=>by subst c;rw [le1.none ho]at e;cases e
  rw [aB hk];exact(le1.trans gP) k p e))
def CQ (two:Bool) (line diff draws:List Nat):List Nat:=List.zipWith dD draws (rR line (iA 19) diff)
theorem Xm (hM:1000000<M) (hx:Deep PP bH gM M (n+6) x){S0 Sz:Hp}{lo:Nat}{vd va:V}{diff line draws:List Nat} (hv1:jK vd=true) (hv2:sE vd=true) (hd:NV Sz vd diff) (hdl:diff.length=2) (Cq:qB diff) (hl:Sz lo=some (.row (gA line) 22)) (hll:line.length=tT two+1) (VI:qB line)
 (ma:MN S0 Sz va draws) (h64:qB draws) (hdr:draws.length=2*(2*tT two+1)) (hK:∀w S',bE Sz S'->MN Sz S' w (CQ two line diff draws)->K w S'):x.call rT [.agg (pv two),nu 19,vd,.own lo 0 line.length line.length,va] Sz K:=by
 have hT:tT two<=2:=by cases two<;>decide
 refine hx.call o_load fun y hy=>?_;rw [XK];unfold JT;refine cO jL fun bp hbp=>?_;have le1:bE Sz (upd Sz bp (.row (pv two) 25)):= .aH hbp;have rp:upd Sz bp (.row (pv two) 25) bp=some (.row (pv two) 25):=upd_same;generalize upd Sz bp (.row (pv two) 25)=S1 at le1 rp;rw [iU rp,cF (by rw [hH];omega),List.drop_zero,List.take_of_length_le (by rw [hH];omega)];refine aC1 (n:=n+3) hy hv1 (hd.up le1) hdl (by decide) (by decide) fun S2 gP=>?_;rw [iD (v:= .agg [nu 23,nu (iA 19),vd]) rfl,iD (v:= .bool true) rfl];refine eI (l:=[nu 0,nu 0,.nil]) rfl fun o ho=>?_;have ro:upd S2 o (.row [nu 0,nu 0,.nil] 86) o=some (.row [nu 0,nu 0,.nil] 86):=upd_same;have hall:[nu 23,nu (iA 19),vd].all jK=true:=by simp only [List.all_cons,List.all_nil,hv1];rfl
 refine qT (n:=3) (cs:=[nu 23,nu (iA 19),vd]) ro hall rfl rfl ?_;rw [fP];have kP:bE S2 (upd S2 o (.row [nu 23,nu (iA 19),vd] 86)):= .aH ho;have ro:upd S2 o (.row [nu 23,nu (iA 19),vd] 86) o=some (.row [nu 23,nu (iA 19),vd] 86):=upd_same;generalize upd S2 o (.row [nu 23,nu (iA 19),vd] 86)=S3 at kP ro;have uU:=(le1.trans gP).trans kP;have zP:=kP _ _ (gP _ _ rp);have e6:(pv two)[6]? =some (ni (tT two)):=rfl;have hlen:∀{k:V->Prop},aV (.own lo 0 line.length line.length) k=k (ni line.length):=rfl
 have ld3:∀{K:KV},bF 3 (.ptr o 0) S3 K=K (.agg [nu 23,nu (iA 19),vd]) S3:=fun {K}=>by
  rw [iU ro,cF (by simp)];rfl
 simp only [aF,jV,Bool.not_true,aI,hlen,(ma.up uU).nv.len,(hd.up uU).len];rw [aN,cG zP e6,aX (by omega),nB,decide_eq_true hll,Bool.not_true,dB];simp only [aI];rw [(ma.up uU).nv.len,(hd.up uU).len,aN,cG zP e6,pB (by omega),aX (by omega),pB (by rw [hdl];omega),nB,decide_eq_true (by rw [hdl];omega),Bool.not_true,dB,aZ,ld3,ld3];refine aEp (n:=n+4) hy hv1 (hd.up uU) (uU _ _ hl) fun b0 b1 b2 b3 S4 le4 hon=>?_;have ro4:=le4 _ _ ro
 have hsm:uP (.agg [nu 23,nu (iA 19),vd])=true:=by
  show(sE (nu 23)&&(sE (nu (iA 19))&&(sE vd&&true)))=true;rw [hv2];rfl
 rw [iU ro4,cF (by simp)];show aL (.agg [nu 23,nu (iA 19),vd]) (.agg [nu 23,nu (iA 19),vd]) _;rw [bQ hsm];have hol:(rR line (iA 19) diff).length=draws.length:=by rw [ZI,hdl,hll,hdr];omega
 refine aFZ (n:=n) hM hy hon hv1 Cq VI (by have:=Co (c:=19) (by decide) (by decide);exact Nat.lt_trans this (by decide)) (by omega) (by omega) (by omega) ((ma.up uU).up le4) h64 hol (by omega) (by omega) fun w S5 wY mw=>?_;exact aJ (hK w S5 ((uU.trans le4).trans wY) (mw.base (uU.trans le4)))
end
end Go.Am
set_option maxRecDepth 100000
namespace Go.Am
noncomputable def oL (x:VE) (m:Nat) (t2 t3 t5 t13 t14 t15:V) (Sz:Hp) (K:KV):Prop:=eT PP bH fU x [.r,.r,.r,.l,.r,.d] m [] [t2,t3,t5,t13,t14,t15] Sz K
noncomputable def FA (x:VE) (a0 a1:V) (Sz:Hp) (K:KV):Prop:=
 jO 25 a0 Sz fun v0 Sz=>
 jO 38 a1 Sz fun v1 Sz=>
 bF 12 v0 Sz fun v2 Sz=>
 bF 2 v1 Sz fun v3 Sz=>
 x.call xC [v2,v3] Sz fun v4 Sz=>
 IP .not v4 fun v5=>
 iG v5 (bC .nil Sz K) (bI 0 v1 fun v6=>
 aS v6 Sz fun v7 Sz=>
 aV v7 fun v8=>
 oL x x.most v0 v1 .nil v7 v8 (.int .i64 (.ofNat 0)) Sz K)
theorem RX (x:VE) (a0 a1:V) (Sz:Hp) (K:KV):lG PP bH fU x [a0,a1] Sz K=FA x a0 a1 Sz K:=by kernel_rfl
noncomputable def nE (x:VE) (m0:Nat) (t2 t3 t5 t13 t14 t15:V) (Sz:Hp) (K:KV):Prop:=
 cT Sz fun Sz=>
 aG PP .lss 3 t15 t14 fun v0=>
 iG v0 (bY 1 t13 t15 fun v1=>
 aS v1 Sz fun v2 Sz=>
 bI 1 t2 fun v3=>
 aS v3 Sz fun v4 Sz=>
 bI 1 t3 fun v5=>
 aS v5 Sz fun v6 Sz=>
 bY 1 v6 t15 fun v7=>
 aS v7 Sz fun v8 Sz=>
 bI 1 t2 fun v9=>
 aS v9 Sz fun v10 Sz=>
 x.call lJ [v4,v2] Sz fun v11 Sz=>
 aS v9 Sz fun v12 _=>
 aL v12 v10 (aS v7 Sz fun v13 _=>
 aL v13 v8 (aS v5 Sz fun v14 _=>
 aL v14 v6 (kI 22 1 8 t5 v11 Sz fun v15 Sz=>
 aS v9 Sz fun v16 _=>
 aL v16 v10 (aS v7 Sz fun v17 _=>
 aL v17 v8 (aS v5 Sz fun v18 _=>
 aL v18 v6 (x.call qG [v8,v10] Sz fun v19 Sz=>
 aS v5 Sz fun v20 _=>
 aL v20 v6 (aS v5 Sz fun v21 _=>
 aL v21 v6 ((aP 22 1 [(.int .u64 (.ofNat 0))] [(0,1,v19)] Sz fun v22 Sz=>
 True)/\(aP 22 1 [(.int .u64 (.ofNat 0))] [(0,1,v19)] Sz fun v23 Sz=>
 kI 22 1 8 v15 v23 Sz fun v24 Sz=>
 aS v5 Sz fun v25 _=>
 aL v25 v6 (aG PP .add 3 t15 (.int .i64 (.ofNat 1)) fun v26=>
 oL x m0 t2 t3 v24 t13 t14 v26 Sz K))))))))))) (bC t5 Sz K)
theorem tC (x:VE) (m0:Nat) (t2 t3 t5 t13 t14 t15:V) (Sz:Hp) (K:KV):oL x (m0+1) t2 t3 t5 t13 t14 t15 Sz K=nE x m0 t2 t3 t5 t13 t14 t15 Sz K:=by kernel_rfl
noncomputable def RA (x:VE) (a0 a1:V) (Sz:Hp) (K:KV):Prop:=
 jO 25 a0 Sz fun v0 Sz=>
 jO 38 a1 Sz fun v1 Sz=>
 bF 12 v0 Sz fun v2 Sz=>
 x.call BB [v2] Sz fun v3 Sz=>
 IP .not v3 fun v4=>
 aD x.most (aC false v4 (fun k=>bI 0 v1 fun v5=>
 k v5 Sz) Sz fun v6 Sz=>
 aD x.most (aC false v4 (fun k=>aS v6 Sz fun v7 Sz=>
 k v7 Sz) Sz fun v8 Sz=>
 aD x.most (aC false v4 (fun k=>aV v8 fun v9=>
 k v9 Sz) Sz fun v10 Sz=>
 aD x.most (aC false v4 (fun k=>bI 7 v0 fun v11=>
 k v11 Sz) Sz fun v12 Sz=>
 aD x.most (aC false v4 (fun k=>aS v12 Sz fun v13 Sz=>
 k v13 Sz) Sz fun v14 Sz=>
 aD x.most (aC false v4 (fun k=>aG PP .neq 3 v10 v14 fun v15=>
 k v15 Sz) Sz fun v16 Sz=>
 aD x.most (dA v4 (.bool true) v16 fun v17=>
 aD x.most (aC false v17 (fun k=>bI 1 v1 fun v18=>
 k v18 Sz) Sz fun v19 Sz=>
 aD x.most (aC false v17 (fun k=>aS v19 Sz fun v20 Sz=>
 k v20 Sz) Sz fun v21 Sz=>
 aD x.most (aC false v17 (fun k=>aV v21 fun v22=>
 k v22 Sz) Sz fun v23 Sz=>
 aD x.most (aC false v17 (fun k=>bI 7 v0 fun v24=>
 k v24 Sz) Sz fun v25 Sz=>
 aD x.most (aC false v17 (fun k=>aS v25 Sz fun v26 Sz=>
 k v26 Sz) Sz fun v27 Sz=>
 aD x.most (aC false v17 (fun k=>aG PP .neq 3 v23 v27 fun v28=>
 k v28 Sz) Sz fun v29 Sz=>
 aD x.most (dA v17 (.bool true) v29 fun v30=>
 aD x.most (aC false v30 (fun k=>bI 0 v1 fun v31=>
 k v31 Sz) Sz fun v32 Sz=>
 aD x.most (aC false v30 (fun k=>aS v32 Sz fun v33 Sz=>
 k v33 Sz) Sz fun v34 Sz=>
 aD x.most (aC false v30 (fun k=>k (.func rU [] [v0]) Sz) Sz fun v35 Sz=>
 aD x.most (aC false v30 (fun k=>x.call bX [v34,v35] Sz fun v36 Sz=>
 k v36 Sz) Sz fun v37 Sz=>
 aD x.most (dA v30 (.bool true) v37 fun v38=>
 iG v38 (bC (.bool false) Sz K) (bI 10 v0 fun v39=>
 aS v39 Sz fun v40 Sz=>
 bI 0 v1 fun v41=>
 aS v41 Sz fun v42 Sz=>
 x.call kS [v40,v42] Sz fun v43 Sz=>
 aD x.most (aC true v43 (fun k=>bI 10 v0 fun v44=>
 k v44 Sz) Sz fun v45 Sz=>
 aD x.most (aC true v43 (fun k=>aS v45 Sz fun v46 Sz=>
 k v46 Sz) Sz fun v47 Sz=>
 aD x.most (aC true v43 (fun k=>bI 1 v1 fun v48=>
 k v48 Sz) Sz fun v49 Sz=>
 aD x.most (aC true v43 (fun k=>aS v49 Sz fun v50 Sz=>
 k v50 Sz) Sz fun v51 Sz=>
 aD x.most (aC true v43 (fun k=>aP 36 1 [(.slice none 0 0)] [(0,1,v51)] Sz fun v52 Sz=>
 k v52 Sz) Sz fun v53 Sz=>
 aD x.most (aC true v43 (fun k=>x.call kS [v47,v53] Sz fun v54 Sz=>
 k v54 Sz) Sz fun v55 Sz=>
 aD x.most (dA v43 v55 (.bool false) fun v56=>
 bC v56 Sz K)))))))))))))))))))))))))))
theorem Hj (x:VE) (a0 a1:V) (Sz:Hp) (K:KV):lG PP bH xC x [a0,a1] Sz K=RA x a0 a1 Sz K:=by kernel_rfl
noncomputable def QZ (x:VE) (a0:V) (Sz:Hp) (K:KV):Prop:=
 jO 25 a0 Sz fun v0 Sz=>
 bI 7 v0 fun v1=>
 aS v1 Sz fun v2 Sz=>
 aG PP .geq 3 v2 (.int .i64 (.ofNat 0)) fun v3=>
 aD x.most (aC true v3 (fun k=>bI 7 v0 fun v4=>
 k v4 Sz) Sz fun v5 Sz=>
 aD x.most (aC true v3 (fun k=>aS v5 Sz fun v6 Sz=>
 k v6 Sz) Sz fun v7 Sz=>
 aD x.most (aC true v3 (fun k=>aG PP .leq 3 v7 (.int .i64 (.ofNat 2)) fun v8=>
 k v8 Sz) Sz fun v9 Sz=>
 aD x.most (dA v3 v9 (.bool false) fun v10=>
 aD x.most (aC true v10 (fun k=>bI 8 v0 fun v11=>
 k v11 Sz) Sz fun v12 Sz=>
 aD x.most (aC true v10 (fun k=>aS v12 Sz fun v13 Sz=>
 k v13 Sz) Sz fun v14 Sz=>
 aD x.most (aC true v10 (fun k=>aG PP .geq 3 v14 (.int .i64 (.ofNat 0)) fun v15=>
 k v15 Sz) Sz fun v16 Sz=>
 aD x.most (dA v10 v16 (.bool false) fun v17=>
 aD x.most (aC true v17 (fun k=>bI 8 v0 fun v18=>
 k v18 Sz) Sz fun v19 Sz=>
 aD x.most (aC true v17 (fun k=>aS v19 Sz fun v20 Sz=>
 k v20 Sz) Sz fun v21 Sz=>
 aD x.most (aC true v17 (fun k=>aG PP .leq 3 v21 (.int .i64 (.ofNat 4)) fun v22=>
 k v22 Sz) Sz fun v23 Sz=>
 aD x.most (dA v17 v23 (.bool false) fun v24=>
 aD x.most (aC true v24 (fun k=>bI 10 v0 fun v25=>
 k v25 Sz) Sz fun v26 Sz=>
 aD x.most (aC true v24 (fun k=>aS v26 Sz fun v27 Sz=>
 k v27 Sz) Sz fun v28 Sz=>
 aD x.most (aC true v24 (fun k=>aG PP .geq 2 v28 (.int .i64 (.ofNat 0)) fun v29=>
 k v29 Sz) Sz fun v30 Sz=>
 aD x.most (dA v24 v30 (.bool false) fun v31=>
 aD x.most (aC true v31 (fun k=>bI 10 v0 fun v32=>
 k v32 Sz) Sz fun v33 Sz=>
 aD x.most (aC true v31 (fun k=>aS v33 Sz fun v34 Sz=>
 k v34 Sz) Sz fun v35 Sz=>
 aD x.most (aC true v31 (fun k=>aG PP .leq 2 v35 (.int .i64 (.ofNat 1048576)) fun v36=>
 k v36 Sz) Sz fun v37 Sz=>
 aD x.most (dA v31 v37 (.bool false) fun v38=>
 aD x.most (aC true v38 (fun k=>bI 11 v0 fun v39=>
 k v39 Sz) Sz fun v40 Sz=>
 aD x.most (aC true v38 (fun k=>aS v40 Sz fun v41 Sz=>
 k v41 Sz) Sz fun v42 Sz=>
 aD x.most (aC true v38 (fun k=>aG PP .geq 2 v42 (.int .i64 (.ofNat 0)) fun v43=>
 k v43 Sz) Sz fun v44 Sz=>
 aD x.most (dA v38 v44 (.bool false) fun v45=>
 aD x.most (aC true v45 (fun k=>bI 11 v0 fun v46=>
 k v46 Sz) Sz fun v47 Sz=>
 aD x.most (aC true v45 (fun k=>aS v47 Sz fun v48 Sz=>
 k v48 Sz) Sz fun v49 Sz=>
 aD x.most (aC true v45 (fun k=>aG PP .leq 2 v49 (.int .i64 (.ofNat 1048576)) fun v50=>
 k v50 Sz) Sz fun v51 Sz=>
 aD x.most (dA v45 v51 (.bool false) fun v52=>
 bC v52 Sz K))))))))))))))))))))))))))))
theorem Hi (x:VE) (a0:V) (Sz:Hp) (K:KV):lG PP bH BB x [a0] Sz K=QZ x a0 Sz K:=by kernel_rfl
noncomputable def JU (x:VE) (a0 a1:V) (Sz:Hp) (K:KV):Prop:=
 aV a0 fun v0=>
 bI 8 a1 fun v1=>
 aS v1 Sz fun v2 Sz=>
 aG PP .neq 3 v0 v2 fun v3=>
 bC v3 Sz K
theorem XM (x:VE) (a0 a1:V) (Sz:Hp) (K:KV):lG PP bH rU x [a0,a1] Sz K=JU x a0 a1 Sz K:=by kernel_rfl
noncomputable def rO (x:VE) (m:Nat) (t2 t7 t8 t9:V) (Sz:Hp) (K:KV):Prop:=eT PP bH kS x [.r,.l,.r,.d] m [] [t2,t7,t8,t9] Sz K
noncomputable def HK (x:VE) (a0 a1:V) (Sz:Hp) (K:KV):Prop:=
 jO 2 a0 Sz fun v0 Sz=>
 aV a1 fun v1=>
 rO x x.most v0 a1 v1 (.int .i64 (.ofNat 0)) Sz K
theorem VJ (x:VE) (a0 a1:V) (Sz:Hp) (K:KV):lG PP bH kS x [a0,a1] Sz K=HK x a0 a1 Sz K:=by kernel_rfl
noncomputable def qI (x:VE) (m0:Nat) (t2 t7 t8 t9:V) (Sz:Hp) (K:KV):Prop:=
 cT Sz fun Sz=>
 aG PP .lss 3 t9 t8 fun v0=>
 iG v0 (bY 1 t7 t9 fun v1=>
 aS v1 Sz fun v2 Sz=>
 x.call cV [v2,(.func kJ [] [t2])] Sz fun v3 Sz=>
 iG v3 (bC (.bool false) Sz K) (aG PP .add 3 t9 (.int .i64 (.ofNat 1)) fun v4=>
 rO x m0 t2 t7 t8 v4 Sz K)) (bC (.bool true) Sz K)
theorem xD (x:VE) (m0:Nat) (t2 t7 t8 t9:V) (Sz:Hp) (K:KV):rO x (m0+1) t2 t7 t8 t9 Sz K=qI x m0 t2 t7 t8 t9 Sz K:=by kernel_rfl
noncomputable def CR (x:VE) (a0 a1:V) (Sz:Hp) (K:KV):Prop:=
 aS a1 Sz fun v0 Sz=>
 IP .neg v0 fun v1=>
 aG PP .lss 2 a0 v1 fun v2=>
 aD x.most (aC false v2 (fun k=>k a0 Sz) Sz fun v3 Sz=>
 aD x.most (aC false v2 (fun k=>aS a1 Sz fun v4 Sz=>
 k v4 Sz) Sz fun v5 Sz=>
 aD x.most (aC false v2 (fun k=>aG PP .gtr 2 v3 v5 fun v6=>
 k v6 Sz) Sz fun v7 Sz=>
 aD x.most (dA v2 (.bool true) v7 fun v8=>
 bC v8 Sz K))))
theorem PI (x:VE) (a0 a1:V) (Sz:Hp) (K:KV):lG PP bH kJ x [a0,a1] Sz K=CR x a0 a1 Sz K:=by kernel_rfl
noncomputable def pG (x:VE) (m:Nat) (t0 t5 t8 t9 t10:V) (Sz:Hp) (K:KV):Prop:=eT PP bH lJ x [.r,.r,.l,.r,.d] m [] [t0,t5,t8,t9,t10] Sz K
noncomputable def EZ (x:VE) (a0 a1:V) (Sz:Hp) (K:KV):Prop:=
 aV a1 fun v0=>
 pG x x.most a0 .nil a1 v0 (.int .i64 (.ofNat 0)) Sz K
theorem RW (x:VE) (a0 a1:V) (Sz:Hp) (K:KV):lG PP bH lJ x [a0,a1] Sz K=EZ x a0 a1 Sz K:=by kernel_rfl
noncomputable def oG (x:VE) (m0:Nat) (t0 t5 t8 t9 t10:V) (Sz:Hp) (K:KV):Prop:=
 cT Sz fun Sz=>
 aG PP .lss 3 t10 t9 fun v0=>
 iG v0 (bY 1 t8 t10 fun v1=>
 aS v1 Sz fun v2 Sz=>
 x.call qG [v2,t0] Sz fun v3 Sz=>
 aP 22 1 [(.int .u64 (.ofNat 0))] [(0,1,v3)] Sz fun v4 Sz=>
 kI 22 1 8 t5 v4 Sz fun v5 Sz=>
 aG PP .add 3 t10 (.int .i64 (.ofNat 1)) fun v6=>
 pG x m0 t0 v5 t8 t9 v6 Sz K) (bC t5 Sz K)
theorem uV (x:VE) (m0:Nat) (t0 t5 t8 t9 t10:V) (Sz:Hp) (K:KV):pG x (m0+1) t0 t5 t8 t9 t10 Sz K=oG x m0 t0 t5 t8 t9 t10 Sz K:=by kernel_rfl
noncomputable def QY (x:VE) (a0 a1:V) (Sz:Hp) (K:KV):Prop:=
 aG PP .lss 2 a0 (.int .i64 (.ofNat 0)) fun v0=>
 iG v0 (AL .u64 a0 fun v1=>
 IP .neg v1 fun v2=>
 x.call oW [(.int .u64 (.ofNat 0)),v2,a1] Sz fun v3 Sz=>
 bC v3 Sz K) (AL .u64 a0 fun v4=>
 x.call mX [v4,(.int .u64 (.ofNat 0)),a1] Sz fun v5 Sz=>
 bC v5 Sz K)
theorem Hg (x:VE) (a0 a1:V) (Sz:Hp) (K:KV):lG PP bH qG x [a0,a1] Sz K=QY x a0 a1 Sz K:=by kernel_rfl
end Go.Am
set_option maxRecDepth 4000
namespace Go.Am
open Go.Proofs.JQ
abbrev iz (z:Int):V:= .int .i64 z
def NF (z:Int):Nat:=if z<0 then lC 0 (-z).toNat 23 else dD z.toNat 0
theorem IJ (z:Int):NF z<23:=by unfold NF;split;exact Nat.mod_lt _ (by decide);exact Nat.mod_lt _ (by decide)
abbrev w1 (O:Tag) (z:Int):V:= .list O [.int .i64 z] 1
abbrev w2 (O:Tag) (z:Int):V:= .list O [.list [.int .i64 z] 1] 1
def Cs (O1 O2:Tag) (a b:Int):V:= .agg [w2 O1 a,w1 O2 b]
def XL (z:Int):Prop:=-2<=z/\z<=2
theorem aF0{z:Int} (h:XL z):z= -2\/z= -1\/z=0\/z=1\/z=2:=by unfold XL at h;omega
section
variable{M n:Nat}{x:VE}{Sz:Hp}{K:KV}{two:Bool}
theorem aF1:gM qG=none:=rfl
theorem aEq:gM lJ=none:=rfl
theorem Xn:gM kS=none:=rfl
theorem Sh:gM kJ=none:=rfl
theorem aF2:gM BB=none:=rfl
theorem aEr:gM xC=none:=rfl
theorem aBS:gM rU=none:=rfl
theorem aEs:gM fU=none:=rfl
theorem aHw:gM bX=none:=rfl
theorem aHx:gM cC=none:=rfl
theorem aHy:gM cV=none:=rfl
theorem aHz:gM dK=none:=rfl
theorem aC2 (hx:Deep PP bH gM M (n+2) x){z:Int} (hz:XL z) (hK:K (nu (NF z)) Sz):x.call qG [iz z,nu 23] Sz K:=by
 refine hx.call aF1 fun y hy=>?_;rw [Hg];unfold QY;rw [PH];rcases aF0 hz with rfl | rfl | rfl | rfl | rfl
 ·show y.call oW [nu 0,nu 2,nu 23] Sz _
  exact ZG hy (by decide) (by decide) q23 (aJ hK)
 ·show y.call oW [nu 0,nu 1,nu 23] Sz _
  exact ZG hy (by decide) (by decide) q23 (aJ hK)
 ·show y.call mX [nu 0,nu 0,nu 23] Sz _
  exact ZH hy (by decide) (by decide) q23 (aJ hK)
 ·show y.call mX [nu 1,nu 0,nu 23] Sz _
  exact ZH hy (by decide) (by decide) q23 (aJ hK)
 ·show y.call mX [nu 2,nu 0,nu 23] Sz _
  exact ZH hy (by decide) (by decide) q23 (aJ hK)
theorem lv{O:Tag}{z:Int}{K:V->Prop}:aV (w1 O z) K=K (ni 1):=rfl
theorem Si (hx:Deep PP bH gM M (n+1) x){z:Int} (hz:XL z){b:Nat} (hb:Sz b=some (.row [ni 2] 2)) (hK:K (.bool false) Sz):x.call kJ [iz z,.ptr b 0] Sz K:=by
 refine hx.call Sh fun y hy=>?_;rw [PI];unfold CR;rw [cG hb rfl];show aG PP .lss 2 (iz z) (iz (-2)) _;have h1:decide (z< -2)=false:=decide_eq_false (by have:=hz.1;omega);have h2:decide ((2:Int)<z)=false:=decide_eq_false (by have:=hz.2;omega);rw [PH,h1];simp only [aF,aI,dB];rw [cG hb rfl,PJ,show decide (Int.ofNat 2<z)=false from h2];exact aJ hK
theorem aBT (hM:10<M) (hx:Deep PP bH gM M (n+3) x){O:Tag}{z:Int} (hz:XL z){b:Nat} (hb:Sz b=some (.row [ni 2] 2)) (hK:K (.bool false) Sz):x.call cV [w1 O z,.func kJ [] [.ptr b 0]] Sz K:=by
 refine hx.call aHy fun y hy=>?_;rw [qH];unfold iV;refine hy.call aHz fun u hu=>?_;rw [rV];unfold kD;obtain⟨m,hm⟩:∃m,M=m+2:=⟨M-2,by omega⟩;rw [lv,hu.most,hm,gX];unfold dY;refine aE ?_;rw [aR,AZ (by decide),cU,sN (by decide)];show u.call kJ [iz z,.ptr b 0] Sz _;refine Si hu hz hb ?_;rw [aZ,aX (by decide),gX];unfold dY;refine aE ?_;rw [aR,lY (by decide),aZ];refine aJ ?_;rw [CM];exact aJ hK
def One (Sz:Hp) (v:V) (z:Int):Prop:=∃p O,(∀K:V->Prop,aV v K=K (ni 1))/\(∀K:V->Prop,bY 1 v (ni 0) K=K p)/\∀S',bE Sz S'->∀K:KV,aS p S' K=K (w1 O z) S'
theorem One.val{O:Tag}{z:Int}:One Sz (w2 O z) z:=⟨.nP O [.list [.int .i64 z] 1] (0*1),.sub O (0*1),fun _=>rfl,fun _=>sN (by decide),fun S' _ K=>by rw [Nat.zero_mul,uN];rfl⟩
theorem Hh (hM:10<M) (hx:Deep PP bH gM M (n+4) x){v:V}{z:Int} (hz:XL z) (ho:One Sz v z) (hK:K (.bool true) Sz):x.call kS [ni 2,v] Sz K:=by
 refine hx.call Xn fun y hy=>?_;rw [VJ];unfold HK;refine box1 rfl fun b hb=>?_;have rb:upd Sz b (.row [ni 2] 2) b=some (.row [ni 2] 2):=upd_same;have le:bE Sz (upd Sz b (.row [ni 2] 2)):= .aH hb;obtain⟨p,O,h1,h2,h3⟩:=ho;obtain⟨m,hm⟩:∃m,M=m+2:=⟨M-2,by omega⟩;rw [h1,hy.most,hm,xD];unfold qI;refine aE ?_;rw [aR,AZ (by decide),cU,h2,h3 _ le];refine aBT (n:=n) hM hy hz rb ?_;rw [aZ,aX (by decide),xD];unfold qI;refine aE ?_;rw [aR,lY (by decide),aZ];exact jG le hK
theorem aF3 (hx:Deep PP bH gM M (n+1) x) (hK:K (.bool true) Sz):x.call BB [.agg (pv two)] Sz K:=by
 refine hx.call aF2 fun y hy=>?_;rw [Hi];unfold QZ;refine cO jL fun b hb=>?_;have rb:upd Sz b (.row (pv two) 25) b=some (.row (pv two) 25):=upd_same;have e7:(pv two)[7]? =some (ni 1):=rfl;have e8:(pv two)[8]? =some (ni 1):=rfl;have e10:(pv two)[10]? =some (ni 2):=rfl;have e11:(pv two)[11]? =some (ni 2):=rfl;have hg:∀{a b:Nat} {t:TypeId} {k:V->Prop},aG PP .leq t (ni a) (ni b) k=k (.bool (decide (a<=b))):=fun {a b t k}=>by rw [PG];congr 2;simp
 simp only [aF];rw [aN,cG rb e7,HL,decide_eq_true (by decide)];simp only [aI];rw [aN,cG rb e7,hg,decide_eq_true (by decide),gR];simp only [aI];rw [aN,cG rb e8,HL,decide_eq_true (by decide),gR];simp only [aI];rw [aN,cG rb e8,hg,decide_eq_true (by decide),gR];simp only [aI];rw [aN,cG rb e10,HL,decide_eq_true (by decide),gR];simp only [aI];rw [aN,cG rb e10,hg,decide_eq_true (by decide),gR];simp only [aI];rw [aN,cG rb e11,HL,decide_eq_true (by decide),gR];simp only [aI];rw [aN,cG rb e11,hg,decide_eq_true (by decide),gR];exact jG (.aH hb) hK
theorem aBU (hM:10<M) (hx:Deep PP bH gM M (n+3) x){v:V}{z:Int} (ho:One Sz v z){b:Nat} (hb:Sz b=some (.row (pv two) 25)) (hK:K (.bool false) Sz):x.call bX [v,.func rU [] [.ptr b 0]] Sz K:=by
 refine hx.call aHw fun y hy=>?_;rw [lD];unfold fJ;refine hy.call aHx fun u hu=>?_;rw [mK];unfold fY;obtain⟨p,O,h1,h2,h3⟩:=ho;obtain⟨m,hm⟩:∃m,M=m+2:=⟨M-2,by omega⟩;rw [h1,hu.most,hm,eX];unfold cM;refine aE ?_;rw [aR,AZ (by decide),cU,h2,h3 _ (.refl _)];show u.call rU [w1 O z,.ptr b 0] Sz _;refine hu.call aBS fun w hw=>?_;rw [XM];unfold JU;have e8:(pv two)[8]? =some (ni 1):=rfl;rw [lv,aN,cG hb e8,nB];refine aJ ?_;show iG (.bool false) _ _;rw [aZ,aX (by decide),eX];unfold cM;refine aE ?_;rw [aR,lY (by decide),aZ];refine aJ ?_;rw [CM];exact aJ hK
theorem aEt (hM:10<M) (hx:Deep PP bH gM M (n+5) x){O1 O2:Tag}{a b:Int} (ha:XL a) (hb:XL b) (hK:K (.bool true) Sz):x.call xC [.agg (pv two),Cs O1 O2 a b] Sz K:=by
 refine hx.call aEr fun y hy=>?_;rw [Hj];unfold RA;refine cO jL fun p hp=>?_;have le1:bE Sz (upd Sz p (.row (pv two) 25)):= .aH hp;have rp:upd Sz p (.row (pv two) 25) p=some (.row (pv two) 25):=upd_same;generalize upd Sz p (.row (pv two) 25)=S1 at le1 rp;refine cO rfl fun q hq=>?_;have gP:bE S1 (upd S1 q (.row [w2 O1 a,w1 O2 b] 38)):= .aH hq;have rq:upd S1 q (.row [w2 O1 a,w1 O2 b] 38) q=some (.row [w2 O1 a,w1 O2 b] 38):=upd_same;generalize upd S1 q (.row [w2 O1 a,w1 O2 b] 38)=S2 at gP rq;have rp:=gP _ _ rp;have e7:(pv two)[7]? =some (ni 1):=rfl;have e10:(pv two)[10]? =some (ni 2):=rfl;rw [iU rp,cF (by rw [hH];omega),List.drop_zero,List.take_of_length_le (by rw [hH];omega)];refine aF3 (n:=n+3) hy ?_;have l2:∀{O:Tag} {z:Int} {k:V->Prop},aV (w2 O z) k=k (ni 1):=rfl;simp only [aF,jV,Bool.not_true,aI];rw [aN,cG rq rfl,l2,aN,cG rp e7,nB,decide_eq_true rfl,Bool.not_true,dB];simp only [aI];rw [aN,cG (o:=1) rq rfl,lv,aN,cG rp e7,nB,decide_eq_true rfl,Bool.not_true,dB];simp only [aI];rw [aN,cG rq rfl];refine aBU (n:=n+1) hM hy .val rp ?_;rw [dB,aZ,aN,cG rp e10,aN,cG rq rfl];refine Hh (n:=n) hM hy ha .val ?_;simp only [aI];rw [aN,cG rp e10,aN,cG (o:=1) rq rfl];refine⟨rfl,by simp,fun j hj=>?_⟩;have kP:bE S2 (upd S2 j (.row [w1 O2 b] 36)):= .aH hj;show y.call kS [ni 2,.own j 0 1 1] (upd S2 j (.row [w1 O2 b] 36)) _;have rj:upd S2 j (.row [w1 O2 b] 36) j=some (.row [w1 O2 b] 36):=upd_same;refine Hh (n:=n) hM hy hb ⟨.ptr j 0,O2,fun _=>rfl,fun _=>?_,fun S' hle K=>cG (hle _ _ rj) rfl⟩ ?_
 ·show(0<1/\_)=_
  simp
 ·rw [gR]
  exact jG ((le1.trans gP).trans kP) hK
theorem aEu (hM:10<M) (hx:Deep PP bH gM M (n+3) x){O:Tag}{z:Int} (hz:XL z) (hK:∀w S',bE Sz S'->MN Sz S' w [NF z]->K w S'):x.call lJ [nu 23,w1 O z] Sz K:=by
 refine hx.call aEq fun y hy=>?_;rw [RW];unfold EZ;obtain⟨m,hm⟩:∃m,M=m+2:=⟨M-2,by omega⟩;rw [lv,hy.most,hm,uV];unfold oG;refine aE ?_;rw [aR,AZ (by decide),cU,sN (by decide)];show y.call qG [iz z,nu 23] Sz _;refine aC2 hy hz ?_;refine(MN.nil (S0:=Sz)).app (.refl _) (by simp) fun w S1 le1 k1 m1=>?_;rw [aX (by decide),uV];unfold oG;refine aE ?_;rw [aR,lY (by decide),aZ];exact aJ (hK w S1 le1 m1)
def EE (a b:Int):List Nat:=[NF a,NF b]
theorem MN.app1{S0 Sz:Hp}{v:V}{n:Nat}{K:KV} (h:NV Sz v [n]) (hs:bE S0 Sz) (hk:∀w S',bE Sz S'->MN S0 S' w [n]->K w S'):kI 22 1 8 .nil v Sz K:=by
 refine h.src ?_;refine⟨SQ [n],⟨by decide,fun i hi=>?_⟩⟩;exact hk _ _ (.aH hi) (.acc (l:=[n]) (hs.none hi) upd_same)
theorem zU (hM:10<M) (hx:Deep PP bH gM M (n+6) x){O1 O2:Tag}{a b:Int} (ha:XL a) (hb:XL b) (hK:∀w S',bE Sz S'->MN Sz S' w (EE a b)->K w S'):x.call fU [.agg (pv two),Cs O1 O2 a b] Sz K:=by
 refine hx.call aEs fun y hy=>?_;rw [RX];unfold FA;refine cO jL fun p hp=>?_;have le1:bE Sz (upd Sz p (.row (pv two) 25)):= .aH hp;have rp:upd Sz p (.row (pv two) 25) p=some (.row (pv two) 25):=upd_same;generalize upd Sz p (.row (pv two) 25)=S1 at le1 rp;refine cO rfl fun q hq=>?_;have gP:bE S1 (upd S1 q (.row [w2 O1 a,w1 O2 b] 38)):= .aH hq;have rq:upd S1 q (.row [w2 O1 a,w1 O2 b] 38) q=some (.row [w2 O1 a,w1 O2 b] 38):=upd_same;generalize upd S1 q (.row [w2 O1 a,w1 O2 b] 38)=S2 at gP rq;have rp:=gP _ _ rp;have e1:(pv two)[1]? =some (nu 23):=rfl;have l2:∀{O:Tag} {z:Int} {k:V->Prop},aV (w2 O z) k=k (ni 1):=rfl;rw [iU rp,cF (by rw [hH];omega),List.drop_zero,List.take_of_length_le (by rw [hH];omega),iU rq,cF (by simp)];show y.call xC [.agg (pv two),Cs O1 O2 a b] S2 _;refine aEt (n:=n) hM hy ha hb ?_;obtain⟨m,hm⟩:∃m,M=m+2:=⟨M-2,by omega⟩;rw [jV,Bool.not_true,aZ,aN,cG rq rfl,l2,hy.most,hm,tC];unfold nE;refine aE ?_;rw [aR,AZ (by decide),cU,sN (by decide),uN,bR (a:= .list [.int .i64 a] 1) rfl,aN,cG rp e1,aN,cG (o:=1) rq rfl,sN (by decide),uN,bR (a:= .int .i64 b) rfl,aN,cG rp e1];show y.call lJ [nu 23,w1 _ a] S2 _;refine aEu (n:=n+2) hM hy ha fun w S3 kP mw=>?_;have zP:=kP _ _ rp;have rq3:=kP _ _ rq;rw [cG zP e1,bO,uN,bR (a:= .int .i64 b) rfl];show aL (iz b) (iz b) _;rw [bO,cG (o:=1) rq3 rfl];show aL (w1 O2 b) (w1 O2 b) _;rw [bQ rfl];refine MN.app1 (S0:=Sz) mw.nv ((le1.trans gP).trans kP) fun u S4 le4 mu=>?_;have rp4:=le4 _ _ zP;have rq4:=le4 _ _ rq3;rw [cG rp4 e1,bO,uN,bR (a:= .int .i64 b) rfl];show aL (iz b) (iz b) _;rw [bO,cG (o:=1) rq4 rfl];show aL (w1 O2 b) (w1 O2 b) _;rw [bQ rfl];show y.call qG [iz b,nu 23] S4 _;refine aC2 (n:=n+3) hy hb ?_;rw [cG (o:=1) rq4 rfl];show aL (w1 O2 b) (w1 O2 b) _;rw [bQ rfl,cG (o:=1) rq4 rfl];show aL (w1 O2 b) (w1 O2 b) _;rw [bQ rfl];have AM:=((le1.trans gP).trans kP).trans le4;refine⟨⟨rfl,by simp,fun j hj=>trivial⟩,?_⟩;refine mu.app AM (by simp) fun u5 S5 wY k5 m5=>?_;have rq5:=k5 _ _ rq4 (fun vs m e=>by cases e);rw [cG (o:=1) rq5 rfl];show aL (w1 O2 b) (w1 O2 b) _;rw [bQ rfl,aX (by decide),tC];unfold nE;refine aE ?_;rw [aR,lY (by decide),aZ];exact aJ (hK u5 S5 wY m5)
end
end Go.Am
set_option maxRecDepth 100000
namespace Go.Am
noncomputable def NG (x:VE) (a0:V) (Sz:Hp) (K:KV):Prop:=
 eU [(.int .u64 (.ofNat 0)),(.int .u64 (.ofNat 0)),(.int .u64 (.ofNat 0)),(.int .u64 (.ofNat 0)),(.int .i64 (.ofNat 0)),(.int .i64 (.ofNat 0)),(.int .i64 (.ofNat 0)),(.int .i64 (.ofNat 0)),(.int .i64 (.ofNat 0)),(.int .i64 (.ofNat 0)),(.int .i64 (.ofNat 0)),(.int .i64 (.ofNat 0))] 25 Sz fun v0 Sz=>
 gQ [(.int .u64 (.ofNat 0)),(.int .u64 (.ofNat 0)),(.int .u64 (.ofNat 0)),(.int .u64 (.ofNat 0)),(.int .i64 (.ofNat 0)),(.int .i64 (.ofNat 0)),(.int .i64 (.ofNat 0)),(.int .i64 (.ofNat 0)),(.int .i64 (.ofNat 0)),(.int .i64 (.ofNat 0)),(.int .i64 (.ofNat 0)),(.int .i64 (.ofNat 0))] [(0,1,(.int .u64 (.ofNat 47))),(1,1,(.int .u64 (.ofNat 23))),(2,1,(.int .u64 (.ofNat 2))),(3,1,(.int .u64 (.ofNat 3))),(4,1,(.int .i64 (.ofNat 5))),(5,1,(.int .i64 (.ofNat 4))),(6,1,(.int .i64 (.ofNat 1))),(7,1,(.int .i64 (.ofNat 1))),(8,1,(.int .i64 (.ofNat 1))),(9,1,(.int .i64 (.ofNat 1))),(10,1,(.int .i64 (.ofNat 2))),(11,1,(.int .i64 (.ofNat 2)))] fun v1=>
 eU [(.int .u64 (.ofNat 0)),(.int .u64 (.ofNat 0)),(.int .u64 (.ofNat 0)),(.int .u64 (.ofNat 0)),(.int .i64 (.ofNat 0)),(.int .i64 (.ofNat 0)),(.int .i64 (.ofNat 0)),(.int .i64 (.ofNat 0)),(.int .i64 (.ofNat 0)),(.int .i64 (.ofNat 0)),(.int .i64 (.ofNat 0)),(.int .i64 (.ofNat 0))] 25 Sz fun v2 Sz=>
 rH 12 v2 v1 Sz fun Sz=>
 iG a0 (bI 4 v2 fun v3=>
 rH 1 v3 (.int .i64 (.ofNat 7)) Sz fun Sz=>
 bI 5 v2 fun v4=>
 rH 1 v4 (.int .i64 (.ofNat 7)) Sz fun Sz=>
 bI 6 v2 fun v5=>
 rH 1 v5 (.int .i64 (.ofNat 2)) Sz fun Sz=>
 bF 12 v2 Sz fun v6 Sz=>
 rH 12 v0 v6 Sz fun Sz=>
 bF 12 v0 Sz fun v7 _=>
 bC v7 Sz K) (bF 12 v2 Sz fun v8 Sz=>
 rH 12 v0 v8 Sz fun Sz=>
 bF 12 v0 Sz fun v9 _=>
 bC v9 Sz K)
theorem Ct (x:VE) (a0:V) (Sz:Hp) (K:KV):lG PP bH uW x [a0] Sz K=NG x a0 Sz K:=by kernel_rfl
noncomputable def pS (x:VE) (m:Nat) (t1 t2 t5 t6:V) (Sz:Hp) (K:KV):Prop:=eT PP bH lS x [.r,.r,.l,.r,.d] m [] [t1,t2,t5,t6] Sz K
noncomputable def gU (x:VE) (m:Nat) (m0:Nat) (t1 t2 t5 t6 t7 t8 t9:V) (Sz:Hp) (K:KV):Prop:=eT PP bH lS x [.r,.r,.l,.r,.d,.d,.r,.l,.d,.r,.r,.l,.r,.d] m [m0] [t1,t2,t5,t6,t7,t8,t9] Sz K
noncomputable def gD (x:VE) (m0:Nat) (t1 t2 t5 t6:V) (Sz:Hp) (K:KV):Prop:=WD PP bH lS x [.r,.r,.l,.r,.d,.d,.r,.r] [m0] [t1,t2,t5,t6] Sz K
noncomputable def RD (x:VE) (a0 a1:V) (Sz:Hp) (K:KV):Prop:=
 jO 25 a0 Sz fun v0 Sz=>
 pS x x.most a1 v0 .nil (.int .i64 (.ofNat 0)) Sz K
theorem Hr (x:VE) (a0 a1:V) (Sz:Hp) (K:KV):lG PP bH lS x [a0,a1] Sz K=RD x a0 a1 Sz K:=by kernel_rfl
noncomputable def sQ (x:VE) (m0:Nat) (t1 t2 t5 t6:V) (Sz:Hp) (K:KV):Prop:=
 cT Sz fun Sz=>
 aV t1 fun v0=>
 aG PP .lss 3 t6 v0 fun v1=>
 aD x.most (aC true v1 (fun k=>k t5 Sz) Sz fun v2 Sz=>
 aD x.most (aC true v1 (fun k=>aV v2 fun v3=>
 k v3 Sz) Sz fun v4 Sz=>
 aD x.most (aC true v1 (fun k=>bI 6 t2 fun v5=>
 k v5 Sz) Sz fun v6 Sz=>
 aD x.most (aC true v1 (fun k=>aS v6 Sz fun v7 Sz=>
 k v7 Sz) Sz fun v8 Sz=>
 aD x.most (aC true v1 (fun k=>aG PP .lss 3 v4 v8 fun v9=>
 k v9 Sz) Sz fun v10 Sz=>
 aD x.most (dA v1 v10 (.bool false) fun v11=>
 iG v11 (bY 1 t1 t6 fun v12=>
 aS v12 Sz fun v13 Sz=>
 AL .i64 v13 fun v14=>
 bI 5 t2 fun v15=>
 aS v15 Sz fun v16 Sz=>
 aG PP .rem 3 v14 v16 fun v17=>
 aG PP .add 3 (.int .i64 (.ofNat 1)) v17 fun v18=>
 gU x x.most m0 t1 t2 t5 t6 v18 (.bool true) (.int .i64 (.ofNat 0)) Sz K) (bC t5 Sz K)))))))
theorem zY (x:VE) (m0:Nat) (t1 t2 t5 t6:V) (Sz:Hp) (K:KV):pS x (m0+1) t1 t2 t5 t6 Sz K=sQ x m0 t1 t2 t5 t6 Sz K:=by kernel_rfl
noncomputable def jW (x:VE) (m1:Nat) (m0:Nat) (t1 t2 t5 t6 t7 t8 t9:V) (Sz:Hp) (K:KV):Prop:=
 cT Sz fun Sz=>
 aV t5 fun v0=>
 aG PP .lss 3 t9 v0 fun v1=>
 iG v1 (aD x.most (aC true t8 (fun k=>k t5 Sz) Sz fun v2 Sz=>
 aD x.most (aC true t8 (fun k=>k t9 Sz) Sz fun v3 Sz=>
 aD x.most (aC true t8 (fun k=>bY 1 v2 v3 fun v4=>
 k v4 Sz) Sz fun v5 Sz=>
 aD x.most (aC true t8 (fun k=>aS v5 Sz fun v6 Sz=>
 k v6 Sz) Sz fun v7 Sz=>
 aD x.most (aC true t8 (fun k=>k t7 Sz) Sz fun v8 Sz=>
 aD x.most (aC true t8 (fun k=>aG PP .neq 3 v7 v8 fun v9=>
 k v9 Sz) Sz fun v10 Sz=>
 aD x.most (dA t8 v10 (.bool false) fun v11=>
 aG PP .add 3 t9 (.int .i64 (.ofNat 1)) fun v12=>
 gU x m1 m0 t1 t2 t5 t6 t7 v11 v12 Sz K)))))))) (iG t8 (aP 3 1 [(.int .i64 (.ofNat 0))] [(0,1,t7)] Sz fun v13 Sz=>
 kI 3 1 8 t5 v13 Sz fun v14 Sz=>
 gD x m0 t1 t2 v14 t6 Sz K) (gD x m0 t1 t2 t5 t6 Sz K))
theorem pR (x:VE) (m1:Nat) (m0:Nat) (t1 t2 t5 t6 t7 t8 t9:V) (Sz:Hp) (K:KV):gU x (m1+1) m0 t1 t2 t5 t6 t7 t8 t9 Sz K=jW x m1 m0 t1 t2 t5 t6 t7 t8 t9 Sz K:=by kernel_rfl
noncomputable def pC (x:VE) (m0:Nat) (t1 t2 t5 t6:V) (Sz:Hp) (K:KV):Prop:=
 cT Sz fun Sz=>
 aG PP .add 3 t6 (.int .i64 (.ofNat 1)) fun v0=>
 pS x m0 t1 t2 t5 v0 Sz K
theorem EN (x:VE) (m0:Nat) (t1 t2 t5 t6:V) (Sz:Hp) (K:KV):Ae PP bH lS x [.r,.r,.l,.r,.d,.d,.r,.r] [m0] [t1,t2,t5,t6] Sz K=pC x m0 t1 t2 t5 t6 Sz K:=by kernel_rfl
theorem FP (x:VE) (hm:x.most≠0) (m0:Nat) (t1 t2 t5 t6:V) (Sz:Hp) (K:KV):gD x m0 t1 t2 t5 t6 Sz K=pC x m0 t1 t2 t5 t6 Sz K:=(OD (hm:=hm) ..).trans (EN x m0 t1 t2 t5 t6 Sz K)
noncomputable def KA (x:VE) (a0 a1 a2 a3 a4:V) (Sz:Hp) (K:KV):Prop:=
 jO 25 a0 Sz fun v0 Sz=>
 jO 38 a1 Sz fun v1 Sz=>
 jO 38 a2 Sz fun v2 Sz=>
 bF 12 v0 Sz fun v3 Sz=>
 x.call kC [v3,a4] Sz fun v4 Sz=>
 bF 12 v0 Sz fun v5 Sz=>
 bF 2 v1 Sz fun v6 Sz=>
 bI 6 v0 fun v7=>
 aS v7 Sz fun v8 Sz=>
 aG PP .mul 3 (.int .i64 (.ofNat 2)) v8 fun v9=>
 aG PP .add 3 v9 (.int .i64 (.ofNat 1)) fun v10=>
 bI 1 v0 fun v11=>
 aS v11 Sz fun v12 Sz=>
 x.call sR [a3] Sz fun v13 Sz=>
 aS v11 Sz fun v14 _=>
 aL v14 v12 (aS v7 Sz fun v15 _=>
 aL v15 v8 (bF 2 v1 Sz fun v16 _=>
 aL v16 v6 (bF 12 v0 Sz fun v17 _=>
 aL v17 v5 (x.call fU [v5,v6] Sz fun v18 Sz=>
 aS v11 Sz fun v19 _=>
 aL v19 v12 (aS v7 Sz fun v20 _=>
 aL v20 v8 (aV v18 fun v21=>
 aG PP .mul 3 v21 v10 fun v22=>
 x.call jH [v13,v22,v12] Sz fun v23 Sz=>
 aS v7 Sz fun v24 _=>
 aL v24 v8 (bF 12 v0 Sz fun v25 Sz=>
 bF 12 v0 Sz fun v26 Sz=>
 bF 2 v1 Sz fun v27 Sz=>
 x.call fU [v26,v27] Sz fun v28 Sz=>
 bF 12 v0 Sz fun v29 _=>
 aL v29 v25 (x.call sR [a3] Sz fun v30 Sz=>
 bF 12 v0 Sz fun v31 _=>
 aL v31 v25 (x.call lQ [v25,v28,v30] Sz fun v32 Sz=>
 tK 0 v32 fun v33=>
 tK 1 v32 fun v34=>
 tK 2 v32 fun v35=>
 bF 12 v0 Sz fun v36 Sz=>
 bF 12 v0 Sz fun v37 Sz=>
 bF 2 v2 Sz fun v38 Sz=>
 bF 12 v0 Sz fun v39 Sz=>
 bF 12 v0 Sz fun v40 Sz=>
 bF 2 v1 Sz fun v41 Sz=>
 bF 2 v2 Sz fun v42 Sz=>
 x.call fU [v37,v38] Sz fun v43 Sz=>
 bF 2 v2 Sz fun v44 _=>
 aL v44 v42 (bF 2 v1 Sz fun v45 _=>
 aL v45 v41 (bF 12 v0 Sz fun v46 _=>
 aL v46 v40 (bF 12 v0 Sz fun v47 _=>
 aL v47 v39 (bF 12 v0 Sz fun v48 _=>
 aL v48 v36 (x.call lK [v40,v41,v42] Sz fun v49 Sz=>
 bF 12 v0 Sz fun v50 _=>
 aL v50 v39 (bF 12 v0 Sz fun v51 _=>
 aL v51 v36 (x.call rT [v39,(.int .u64 (.ofNat 19)),v49,v4,v23] Sz fun v52 Sz=>
 bF 12 v0 Sz fun v53 _=>
 aL v53 v36 (x.call CU [v52,(.int .u64 (.ofNat 0))] Sz fun v54 Sz=>
 bF 12 v0 Sz fun v55 _=>
 aL v55 v36 (x.call lQ [v36,v43,v54] Sz fun v56 Sz=>
 tK 0 v56 fun v57=>
 tK 1 v56 fun v58=>
 tK 2 v56 fun v59=>
 aG PP .eql 61 v35 (.int .i64 (.ofNat 0)) fun v60=>
 aD x.most (aC true v60 (fun k=>k v59 Sz) Sz fun v61 Sz=>
 aD x.most (aC true v60 (fun k=>aG PP .eql 61 v61 (.int .i64 (.ofNat 0)) fun v62=>
 k v62 Sz) Sz fun v63 Sz=>
 aD x.most (dA v60 v63 (.bool false) fun v64=>
 aD x.most (aC true v64 (fun k=>k v4 Sz) Sz fun v65 Sz=>
 aD x.most (aC true v64 (fun k=>aV v65 fun v66=>
 k v66 Sz) Sz fun v67 Sz=>
 aD x.most (aC true v64 (fun k=>bI 6 v0 fun v68=>
 k v68 Sz) Sz fun v69 Sz=>
 aD x.most (aC true v64 (fun k=>aS v69 Sz fun v70 Sz=>
 k v70 Sz) Sz fun v71 Sz=>
 aD x.most (aC true v64 (fun k=>aG PP .add 3 v71 (.int .i64 (.ofNat 1)) fun v72=>
 k v72 Sz) Sz fun v73 Sz=>
 aD x.most (aC true v64 (fun k=>aG PP .eql 3 v67 v73 fun v74=>
 k v74 Sz) Sz fun v75 Sz=>
 aD x.most (dA v64 v75 (.bool false) fun v76=>
 aD x.most (aC true v76 (fun k=>k v33 Sz) Sz fun v77 Sz=>
 aD x.most (aC true v76 (fun k=>aV v77 fun v78=>
 k v78 Sz) Sz fun v79 Sz=>
 aD x.most (aC true v76 (fun k=>bI 5 v0 fun v80=>
 k v80 Sz) Sz fun v81 Sz=>
 aD x.most (aC true v76 (fun k=>aS v81 Sz fun v82 Sz=>
 k v82 Sz) Sz fun v83 Sz=>
 aD x.most (aC true v76 (fun k=>aG PP .eql 3 v79 v83 fun v84=>
 k v84 Sz) Sz fun v85 Sz=>
 aD x.most (dA v76 v85 (.bool false) fun v86=>
 aD x.most (aC true v86 (fun k=>k v57 Sz) Sz fun v87 Sz=>
 aD x.most (aC true v86 (fun k=>aV v87 fun v88=>
 k v88 Sz) Sz fun v89 Sz=>
 aD x.most (aC true v86 (fun k=>bI 5 v0 fun v90=>
 k v90 Sz) Sz fun v91 Sz=>
 aD x.most (aC true v86 (fun k=>aS v91 Sz fun v92 Sz=>
 k v92 Sz) Sz fun v93 Sz=>
 aD x.most (aC true v86 (fun k=>aG PP .eql 3 v89 v93 fun v94=>
 k v94 Sz) Sz fun v95 Sz=>
 aD x.most (dA v86 v95 (.bool false) fun v96=>
 aD x.most (gH true v86 v93 (fun k=>aS v91 Sz fun v97 _=>
 aL v97 v93 k) (aD x.most (gH true v76 v83 (fun k=>aS v81 Sz fun v98 _=>
 aL v98 v83 k) (aD x.most (gH true v64 v71 (fun k=>aS v69 Sz fun v99 _=>
 aL v99 v71 k) (aD x.most (gH true v86 v93 (fun k=>aS v91 Sz fun aE6 _=>
 aL aE6 v93 k) (aD x.most (gH true v76 v83 (fun k=>aS v81 Sz fun aE7 _=>
 aL aE7 v83 k) (aD x.most (gH true v64 v71 (fun k=>aS v69 Sz fun aE8 _=>
 aL aE8 v71 k) (aD x.most (gH true v86 v93 (fun k=>aS v91 Sz fun aE9 _=>
 aL aE9 v93 k) (aD x.most (gH true v76 v83 (fun k=>aS v81 Sz fun aFa _=>
 aL aFa v83 k) (aD x.most (gH true v64 v71 (fun k=>aS v69 Sz fun v105 _=>
 aL v105 v71 k) (aD x.most (gH true v86 v93 (fun k=>aS v91 Sz fun aG0 _=>
 aL aG0 v93 k) (aD x.most (gH true v76 v83 (fun k=>aS v81 Sz fun v107 _=>
 aL v107 v83 k) (aD x.most (gH true v64 v71 (fun k=>aS v69 Sz fun aFb _=>
 aL aFb v71 k) (aD x.most (gH true v86 v93 (fun k=>aS v91 Sz fun v109 _=>
 aL v109 v93 k) (aD x.most (gH true v76 v83 (fun k=>aS v81 Sz fun aG1 _=>
 aL aG1 v83 k) (aD x.most (gH true v64 v71 (fun k=>aS v69 Sz fun aA2 _=>
 aL aA2 v71 k) (bC (.tuple [v33,v57,v34,v58,v4,v96]) Sz K))))))))))))))))))))))))))))))))))))))))))))))))))))))))))))))))))))))
theorem XR (x:VE) (a0 a1 a2 a3 a4:V) (Sz:Hp) (K:KV):lG PP bH wO x [a0,a1,a2,a3,a4] Sz K=KA x a0 a1 a2 a3 a4 Sz K:=by kernel_rfl
noncomputable def JV (x:VE) (a0 a1:V) (Sz:Hp) (K:KV):Prop:=
 eU [(.slice none 0 0),(.slice none 0 0)] 38 Sz fun v0 Sz=>
 aG PP .rem 2 a0 (.int .i64 (.ofNat 3)) fun v1=>
 aP 2 1 [(.int .i64 (.ofNat 0))] [(0,1,v1)] Sz fun v2 Sz=>
 aP 36 1 [(.slice none 0 0)] [(0,1,v2)] Sz fun v3 Sz=>
 aG PP .rem 2 a1 (.int .i64 (.ofNat 3)) fun v4=>
 aP 2 1 [(.int .i64 (.ofNat 0))] [(0,1,v4)] Sz fun v5 Sz=>
 gQ [(.slice none 0 0),(.slice none 0 0)] [(0,1,v3),(1,1,v5)] fun v6=>
 rH 2 v0 v6 Sz fun Sz=>
 bF 2 v0 Sz fun v7 _=>
 bC v7 Sz K
theorem XN (x:VE) (a0 a1:V) (Sz:Hp) (K:KV):lG PP bH mA x [a0,a1] Sz K=JV x a0 a1 Sz K:=by kernel_rfl
noncomputable def gT (x:VE) (m:Nat) (t3 t7 t8 t9 t10:V) (Sz:Hp) (K:KV):Prop:=eT PP bH lK x [.r,.r,.r,.l,.r,.d] m [] [t3,t7,t8,t9,t10] Sz K
noncomputable def FC (x:VE) (a0 a1 a2:V) (Sz:Hp) (K:KV):Prop:=
 jO 25 a0 Sz fun v0 Sz=>
 jO 38 a1 Sz fun v1 Sz=>
 jO 38 a2 Sz fun v2 Sz=>
 bF 12 v0 Sz fun v3 Sz=>
 bF 2 v1 Sz fun v4 Sz=>
 bF 12 v0 Sz fun v5 Sz=>
 bF 2 v2 Sz fun v6 Sz=>
 x.call fU [v3,v4] Sz fun v7 Sz=>
 bF 2 v2 Sz fun v8 _=>
 aL v8 v6 (bF 12 v0 Sz fun v9 _=>
 aL v9 v5 (x.call fU [v5,v6] Sz fun v10 Sz=>
 gT x x.most v0 v7 v10 .nil (.int .i64 (.ofNat 0)) Sz K))
theorem RZ (x:VE) (a0 a1 a2:V) (Sz:Hp) (K:KV):lG PP bH lK x [a0,a1,a2] Sz K=FC x a0 a1 a2 Sz K:=by kernel_rfl
noncomputable def nF (x:VE) (m0:Nat) (t3 t7 t8 t9 t10:V) (Sz:Hp) (K:KV):Prop:=
 cT Sz fun Sz=>
 aV t7 fun v0=>
 aG PP .lss 3 t10 v0 fun v1=>
 aD x.most (aC true v1 (fun k=>k t10 Sz) Sz fun v2 Sz=>
 aD x.most (aC true v1 (fun k=>k t8 Sz) Sz fun v3 Sz=>
 aD x.most (aC true v1 (fun k=>aV v3 fun v4=>
 k v4 Sz) Sz fun v5 Sz=>
 aD x.most (aC true v1 (fun k=>aG PP .lss 3 v2 v5 fun v6=>
 k v6 Sz) Sz fun v7 Sz=>
 aD x.most (dA v1 v7 (.bool false) fun v8=>
 iG v8 (bY 1 t8 t10 fun v9=>
 aS v9 Sz fun v10 Sz=>
 bY 1 t7 t10 fun v11=>
 aS v11 Sz fun v12 Sz=>
 bI 1 t3 fun v13=>
 aS v13 Sz fun v14 Sz=>
 x.call oW [v10,v12,v14] Sz fun v15 Sz=>
 (aP 22 1 [(.int .u64 (.ofNat 0))] [(0,1,v15)] Sz fun v16 Sz=>
 True)/\(aP 22 1 [(.int .u64 (.ofNat 0))] [(0,1,v15)] Sz fun v17 Sz=>
 kI 22 1 8 t9 v17 Sz fun v18 Sz=>
 aG PP .add 3 t10 (.int .i64 (.ofNat 1)) fun v19=>
 gT x m0 t3 t7 t8 v18 v19 Sz K)) (bC t9 Sz K))))))
theorem tD (x:VE) (m0:Nat) (t3 t7 t8 t9 t10:V) (Sz:Hp) (K:KV):gT x (m0+1) t3 t7 t8 t9 t10 Sz K=nF x m0 t3 t7 t8 t9 t10 Sz K:=by kernel_rfl
noncomputable def mQ (x:VE) (m:Nat) (t0 t1 t5:V) (Sz:Hp) (K:KV):Prop:=eT PP bH oX x [.r,.r,.l,.r,.d] m [] [t0,t1,t5] Sz K
noncomputable def JY (x:VE) (a0 a1:V) (Sz:Hp) (K:KV):Prop:=
 aV a0 fun v0=>
 aV a1 fun v1=>
 aG PP .neq 3 v0 v1 fun v2=>
 iG v2 (bC (.bool false) Sz K) (mQ x x.most a0 a1 (.int .i64 (.ofNat 0)) Sz K)
theorem XQ (x:VE) (a0 a1:V) (Sz:Hp) (K:KV):lG PP bH oX x [a0,a1] Sz K=JY x a0 a1 Sz K:=by kernel_rfl
noncomputable def qK (x:VE) (m0:Nat) (t0 t1 t5:V) (Sz:Hp) (K:KV):Prop:=
 cT Sz fun Sz=>
 aV t0 fun v0=>
 aG PP .lss 3 t5 v0 fun v1=>
 iG v1 (bY 2 t0 t5 fun v2=>
 bF 2 v2 Sz fun v3 Sz=>
 bY 2 t1 t5 fun v4=>
 bF 2 v4 Sz fun v5 Sz=>
 Sm PP .neq 73 v3 v5 fun v6=>
 iG v6 (bC (.bool false) Sz K) (aG PP .add 3 t5 (.int .i64 (.ofNat 1)) fun v7=>
 mQ x m0 t0 t1 v7 Sz K)) (bC (.bool true) Sz K)
theorem xF (x:VE) (m0:Nat) (t0 t1 t5:V) (Sz:Hp) (K:KV):mQ x (m0+1) t0 t1 t5 Sz K=qK x m0 t0 t1 t5 Sz K:=by kernel_rfl
noncomputable def mP (x:VE) (m:Nat) (t0 t1 t5:V) (Sz:Hp) (K:KV):Prop:=eT PP bH rW x [.r,.r,.l,.r,.d] m [] [t0,t1,t5] Sz K
noncomputable def JX (x:VE) (a0 a1:V) (Sz:Hp) (K:KV):Prop:=
 aV a0 fun v0=>
 aV a1 fun v1=>
 aG PP .neq 3 v0 v1 fun v2=>
 iG v2 (bC (.bool false) Sz K) (mP x x.most a0 a1 (.int .i64 (.ofNat 0)) Sz K)
theorem XP (x:VE) (a0 a1:V) (Sz:Hp) (K:KV):lG PP bH rW x [a0,a1] Sz K=JX x a0 a1 Sz K:=by kernel_rfl
noncomputable def qJ (x:VE) (m0:Nat) (t0 t1 t5:V) (Sz:Hp) (K:KV):Prop:=
 cT Sz fun Sz=>
 aV t0 fun v0=>
 aG PP .lss 3 t5 v0 fun v1=>
 iG v1 (bY 1 t0 t5 fun v2=>
 aS v2 Sz fun v3 Sz=>
 bY 1 t1 t5 fun v4=>
 aS v4 Sz fun v5 Sz=>
 x.call uX [v3,v5] Sz fun v6 Sz=>
 IP .not v6 fun v7=>
 iG v7 (bC (.bool false) Sz K) (aG PP .add 3 t5 (.int .i64 (.ofNat 1)) fun v8=>
 mP x m0 t0 t1 v8 Sz K)) (bC (.bool true) Sz K)
theorem xE (x:VE) (m0:Nat) (t0 t1 t5:V) (Sz:Hp) (K:KV):mP x (m0+1) t0 t1 t5 Sz K=qJ x m0 t0 t1 t5 Sz K:=by kernel_rfl
noncomputable def oI (x:VE) (m:Nat) (t0 t1 t5:V) (Sz:Hp) (K:KV):Prop:=eT PP bH uX x [.r,.r,.l,.r,.d] m [] [t0,t1,t5] Sz K
noncomputable def NI (x:VE) (a0 a1:V) (Sz:Hp) (K:KV):Prop:=
 aV a0 fun v0=>
 aV a1 fun v1=>
 aG PP .neq 3 v0 v1 fun v2=>
 iG v2 (bC (.bool false) Sz K) (oI x x.most a0 a1 (.int .i64 (.ofNat 0)) Sz K)
theorem Cv (x:VE) (a0 a1:V) (Sz:Hp) (K:KV):lG PP bH uX x [a0,a1] Sz K=NI x a0 a1 Sz K:=by kernel_rfl
noncomputable def rI (x:VE) (m0:Nat) (t0 t1 t5:V) (Sz:Hp) (K:KV):Prop:=
 cT Sz fun Sz=>
 aV t0 fun v0=>
 aG PP .lss 3 t5 v0 fun v1=>
 iG v1 (bY 1 t0 t5 fun v2=>
 aS v2 Sz fun v3 Sz=>
 bY 1 t1 t5 fun v4=>
 aS v4 Sz fun v5 Sz=>
 aG PP .neq 22 v3 v5 fun v6=>
 iG v6 (bC (.bool false) Sz K) (aG PP .add 3 t5 (.int .i64 (.ofNat 1)) fun v7=>
 oI x m0 t0 t1 v7 Sz K)) (bC (.bool true) Sz K)
theorem xW (x:VE) (m0:Nat) (t0 t1 t5:V) (Sz:Hp) (K:KV):oI x (m0+1) t0 t1 t5 Sz K=rI x m0 t0 t1 t5 Sz K:=by kernel_rfl
noncomputable def kW (x:VE) (m:Nat) (t0 t1 t5:V) (Sz:Hp) (K:KV):Prop:=eT PP bH jM x [.r,.r,.l,.r,.d] m [] [t0,t1,t5] Sz K
noncomputable def FB (x:VE) (a0 a1:V) (Sz:Hp) (K:KV):Prop:=
 aV a0 fun v0=>
 aV a1 fun v1=>
 aG PP .neq 3 v0 v1 fun v2=>
 iG v2 (bC (.bool false) Sz K) (kW x x.most a0 a1 (.int .i64 (.ofNat 0)) Sz K)
theorem RY (x:VE) (a0 a1:V) (Sz:Hp) (K:KV):lG PP bH jM x [a0,a1] Sz K=FB x a0 a1 Sz K:=by kernel_rfl
noncomputable def oH (x:VE) (m0:Nat) (t0 t1 t5:V) (Sz:Hp) (K:KV):Prop:=
 cT Sz fun Sz=>
 aV t0 fun v0=>
 aG PP .lss 3 t5 v0 fun v1=>
 iG v1 (bY 1 t0 t5 fun v2=>
 aS v2 Sz fun v3 Sz=>
 bY 1 t1 t5 fun v4=>
 aS v4 Sz fun v5 Sz=>
 aG PP .neq 22 v3 v5 fun v6=>
 iG v6 (bC (.bool false) Sz K) (aG PP .add 3 t5 (.int .i64 (.ofNat 1)) fun v7=>
 kW x m0 t0 t1 v7 Sz K)) (bC (.bool true) Sz K)
theorem uY (x:VE) (m0:Nat) (t0 t1 t5:V) (Sz:Hp) (K:KV):kW x (m0+1) t0 t1 t5 Sz K=oH x m0 t0 t1 t5 Sz K:=by kernel_rfl
noncomputable def JW (x:VE) (Sz:Hp) (K:KV):Prop:=
 x.call uW [(.bool false)] Sz fun v0 Sz=>
 eU [(.int .u64 (.ofNat 0)),(.int .u64 (.ofNat 0)),(.int .u64 (.ofNat 0)),(.int .u64 (.ofNat 0)),(.int .i64 (.ofNat 0)),(.int .i64 (.ofNat 0)),(.int .i64 (.ofNat 0)),(.int .i64 (.ofNat 0)),(.int .i64 (.ofNat 0)),(.int .i64 (.ofNat 0)),(.int .i64 (.ofNat 0)),(.int .i64 (.ofNat 0))] 25 Sz fun v1 Sz=>
 rH 12 v1 v0 Sz fun Sz=>
 bF 12 v1 Sz fun v2 Sz=>
 bF 12 v1 Sz fun v3 _=>
 aL v3 v2 ((aP 3 1 [(.int .i64 (.ofNat 0))] [(0,1,(.int .i64 (.ofNat 2)))] Sz fun v4 Sz=>
 True)/\((aP 22 2 [(.int .u64 (.ofNat 0))] [(0,1,(.int .u64 (.ofNat 1))),(1,1,(.int .u64 (.ofNat 11)))] Sz fun v5 Sz=>
 True)/\(aP 3 1 [(.int .i64 (.ofNat 0))] [(0,1,(.int .i64 (.ofNat 2)))] Sz fun v6 Sz=>
 x.call kC [v2,v6] Sz fun v7 Sz=>
 (aP 22 2 [(.int .u64 (.ofNat 0))] [(0,1,(.int .u64 (.ofNat 1))),(1,1,(.int .u64 (.ofNat 11)))] Sz fun v8 Sz=>
 True)/\(aP 22 2 [(.int .u64 (.ofNat 0))] [(0,1,(.int .u64 (.ofNat 1))),(1,1,(.int .u64 (.ofNat 11)))] Sz fun v9 Sz=>
 x.call jM [v7,v9] Sz fun v10 Sz=>
 aD x.most (aC true v10 (fun k=>bF 12 v1 Sz fun v11 Sz=>
 k v11 Sz) Sz fun v12 Sz=>
 VL true v10 (bF 12 v1 Sz fun v13 _=>
 aL v13 v12 ((aP 22 2 [(.int .u64 (.ofNat 0))] [(0,1,(.int .u64 (.ofNat 1))),(1,1,(.int .u64 (.ofNat 0)))] Sz fun v14 Sz=>
 True)/\(x.call kC [v12,.nil] Sz fun v15 Sz=>
 (aP 22 2 [(.int .u64 (.ofNat 0))] [(0,1,(.int .u64 (.ofNat 1))),(1,1,(.int .u64 (.ofNat 0)))] Sz fun v16 Sz=>
 True)/\(aP 22 2 [(.int .u64 (.ofNat 0))] [(0,1,(.int .u64 (.ofNat 1))),(1,1,(.int .u64 (.ofNat 0)))] Sz fun v17 Sz=>
 x.call jM [v15,v17] Sz fun v18 Sz=>
 aD x.most (dA v10 v18 (.bool false) fun v19=>
 aD x.most (aC true v19 (fun k=>bF 12 v1 Sz fun v20 Sz=>
 k v20 Sz) Sz fun v21 Sz=>
 VL true v19 (bF 12 v1 Sz fun v22 _=>
 aL v22 v21 ((aP 22 2 [(.int .u64 (.ofNat 0))] [(0,1,(.int .u64 (.ofNat 1))),(1,1,(.int .u64 (.ofNat 22)))] Sz fun v23 Sz=>
 True)/\((aP 22 2 [(.int .u64 (.ofNat 0))] [(0,1,(.int .u64 (.ofNat 1))),(1,1,(.int .u64 (.ofNat 11)))] Sz fun v24 Sz=>
 True)/\((Gy 22 8 [(.int .u64 (.ofNat 0))] (.int .i64 (.ofNat 6)) (.int .i64 (.ofNat 6)) Sz fun v25 Sz=>
 True)/\((aP 22 6 [(.int .u64 (.ofNat 0))] [(0,1,(.int .u64 (.ofNat 11))),(1,1,(.int .u64 (.ofNat 6))),(2,1,(.int .u64 (.ofNat 20))),(3,1,(.int .u64 (.ofNat 12))),(4,1,(.int .u64 (.ofNat 17))),(5,1,(.int .u64 (.ofNat 3)))] Sz fun v26 Sz=>
 True)/\(aP 22 2 [(.int .u64 (.ofNat 0))] [(0,1,(.int .u64 (.ofNat 1))),(1,1,(.int .u64 (.ofNat 22)))] Sz fun v27 Sz=>
 aP 22 2 [(.int .u64 (.ofNat 0))] [(0,1,(.int .u64 (.ofNat 1))),(1,1,(.int .u64 (.ofNat 11)))] Sz fun v28 Sz=>
 Gy 22 8 [(.int .u64 (.ofNat 0))] (.int .i64 (.ofNat 6)) (.int .i64 (.ofNat 6)) Sz fun v29 Sz=>
 x.call rT [v21,(.int .u64 (.ofNat 19)),v27,v28,v29] Sz fun v30 Sz=>
 (aP 22 6 [(.int .u64 (.ofNat 0))] [(0,1,(.int .u64 (.ofNat 11))),(1,1,(.int .u64 (.ofNat 6))),(2,1,(.int .u64 (.ofNat 20))),(3,1,(.int .u64 (.ofNat 12))),(4,1,(.int .u64 (.ofNat 17))),(5,1,(.int .u64 (.ofNat 3)))] Sz fun v31 Sz=>
 True)/\(aP 22 6 [(.int .u64 (.ofNat 0))] [(0,1,(.int .u64 (.ofNat 11))),(1,1,(.int .u64 (.ofNat 6))),(2,1,(.int .u64 (.ofNat 20))),(3,1,(.int .u64 (.ofNat 12))),(4,1,(.int .u64 (.ofNat 17))),(5,1,(.int .u64 (.ofNat 3)))] Sz fun v32 Sz=>
 x.call jM [v30,v32] Sz fun v33 Sz=>
 aD x.most (dA v19 v33 (.bool false) fun v34=>
 bC v34 Sz K)))))))))))))))))))
theorem XO (x:VE) (Sz:Hp) (K:KV):lG PP bH mB x [] Sz K=JW x Sz K:=by kernel_rfl
end Go.Am
set_option maxRecDepth 4000
namespace Go.Am
open Go.Proofs.JQ
section
variable{M n:Nat}{x:VE}{Sz:Hp}{K:KV}{two:Bool}
theorem aEv:gM uW=none:=rfl
theorem Xo:gM mA=none:=rfl
theorem Sj:gM lK=none:=rfl
theorem Xp:gM oX=none:=rfl
theorem aBV:gM rW=none:=rfl
theorem aBW:gM uX=none:=rfl
theorem Sk:gM jM=none:=rfl
theorem aBX:gM mB=none:=rfl
theorem aF4:gM lS=none:=rfl
theorem aBY:gM wO=none:=rfl
abbrev pz:List V:=[nu 0,nu 0,nu 0,nu 0,ni 0,ni 0,ni 0,ni 0,ni 0,ni 0,ni 0,ni 0]
theorem Xq (hx:Deep PP bH gM M (n+1) x) (hK:K (.agg (pv two)) Sz):x.call uW [.bool two] Sz K:=by
 refine hx.call aEv fun y hy=>?_;rw [Ct];unfold NG;refine eI (l:=pz) rfl fun o ho=>?_;have le1:bE Sz (upd Sz o (.row pz 25)):= .aH ho;have ro:upd Sz o (.row pz 25) o=some (.row pz 25):=upd_same;generalize upd Sz o (.row pz 25)=S1 at le1 ro
 have hb:∀{k:V->Prop},gQ [(.int .u64 (.ofNat 0)),(.int .u64 (.ofNat 0)),(.int .u64 (.ofNat 0)),(.int .u64 (.ofNat 0)),(.int .i64 (.ofNat 0)),(.int .i64 (.ofNat 0)),(.int .i64 (.ofNat 0)),(.int .i64 (.ofNat 0)),(.int .i64 (.ofNat 0)),(.int .i64 (.ofNat 0)),(.int .i64 (.ofNat 0)),(.int .i64 (.ofNat 0))] [(0,1,(.int .u64 (.ofNat 47))),(1,1,(.int .u64 (.ofNat 23))),(2,1,(.int .u64 (.ofNat 2))),(3,1,(.int .u64 (.ofNat 3))),(4,1,(.int .i64 (.ofNat 5))),(5,1,(.int .i64 (.ofNat 4))),(6,1,(.int .i64 (.ofNat 1))),(7,1,(.int .i64 (.ofNat 1))),(8,1,(.int .i64 (.ofNat 1))),(9,1,(.int .i64 (.ofNat 1))),(10,1,(.int .i64 (.ofNat 2))),(11,1,(.int .i64 (.ofNat 2)))] k->k (.agg (pv false)):=fun {k} h=>by
  unfold gQ mY at h;exact h.2.2.2.2.2.2.2.2.2.2.2.2.2.2.2.2.2.2.2.2.2.2.2.2
 have hb2:∀{k:V->Prop},k (.agg (pv false))->gQ [(.int .u64 (.ofNat 0)),(.int .u64 (.ofNat 0)),(.int .u64 (.ofNat 0)),(.int .u64 (.ofNat 0)),(.int .i64 (.ofNat 0)),(.int .i64 (.ofNat 0)),(.int .i64 (.ofNat 0)),(.int .i64 (.ofNat 0)),(.int .i64 (.ofNat 0)),(.int .i64 (.ofNat 0)),(.int .i64 (.ofNat 0)),(.int .i64 (.ofNat 0))] [(0,1,(.int .u64 (.ofNat 47))),(1,1,(.int .u64 (.ofNat 23))),(2,1,(.int .u64 (.ofNat 2))),(3,1,(.int .u64 (.ofNat 3))),(4,1,(.int .i64 (.ofNat 5))),(5,1,(.int .i64 (.ofNat 4))),(6,1,(.int .i64 (.ofNat 1))),(7,1,(.int .i64 (.ofNat 1))),(8,1,(.int .i64 (.ofNat 1))),(9,1,(.int .i64 (.ofNat 1))),(10,1,(.int .i64 (.ofNat 2))),(11,1,(.int .i64 (.ofNat 2)))] k:=fun {k} h=>by
  have l1:∀a b c d e f g h i j k l:V,a=a->0+1<=[a,b,c,d,e,f,g,h,i,j,k,l].length:=fun _ _ _ _ _ _ _ _ _ _ _ _ _=>by simp
  exact⟨rfl,Nat.le_of_ble_eq_true rfl,rfl,Nat.le_of_ble_eq_true rfl,rfl,Nat.le_of_ble_eq_true rfl,rfl,Nat.le_of_ble_eq_true rfl,rfl,Nat.le_of_ble_eq_true rfl,rfl,Nat.le_of_ble_eq_true rfl,rfl,Nat.le_of_ble_eq_true rfl,rfl,Nat.le_of_ble_eq_true rfl,rfl,Nat.le_of_ble_eq_true rfl,rfl,Nat.le_of_ble_eq_true rfl,rfl,Nat.le_of_ble_eq_true rfl,rfl,Nat.le_of_ble_eq_true rfl,h⟩
 refine hb2 ?_;refine eI (l:=pz) rfl fun q hq=>?_;have hqo:o≠q:=Ne.symm (ne_of hq ro);have rq:upd S1 q (.row pz 25) q=some (.row pz 25):=upd_same;refine qT (n:=12) rq jL rfl rfl ?_;rw [fP];have rq:upd S1 q (.row (pv false) 25) q=some (.row (pv false) 25):=upd_same;have gP:bE S1 (upd S1 q (.row (pv false) 25)):= .aH hq
 have fin:∀{l:List V},l.all jK=true->l.length=12->K (.agg l) Sz->(bF 12 (.ptr q 0) (upd S1 q (.row l 25)) fun v6 Sz=>rH 12 (.ptr o 0) v6 Sz fun Sz=>bF 12 (.ptr o 0) Sz fun v7 _=>bC v7 Sz K):=fun {l} h1 h2 hk=>by
  have rq:upd S1 q (.row l 25) q=some (.row l 25):=upd_same;rw [iU rq,cF (by omega),List.drop_zero,List.take_of_length_le (by omega)];have ro2:upd S1 q (.row l 25) o=some (.row pz 25):=by rw [aB hqo];exact ro
  refine qT (n:=12) ro2 h1 h2 rfl ?_;have Xl:upd (upd S1 q (.row l 25)) o (.row l 25) o=some (.row l 25):=upd_same;rw [iU Xl,cF (by omega),List.drop_zero,List.take_of_length_le (by omega)];refine jG (fun k p e=>?_) hk;have hko:k≠o:=fun c=>by rw [c,ho]at e;cases e
  have hkq:k≠q:=fun c=>by rw [c]at e;have:=le1 _ _ e;rw [hq]at this;cases this
  rw [aB hko,aB hkq];exact le1 _ _ e
 cases two with
 | false=>
  rw [aZ];exact fin jL rfl hK
 | true=>
  rw [cU,aN,EB rq (by simp [pv]) rfl,fP,aN,EB upd_same (by simp [pv]) rfl,fP,aN,EB upd_same (by simp [pv]) rfl,fP];exact fin (l:=pv true) jL rfl hK
theorem BC (a:Int):XL (a.tmod 3):=by
 have h:=Int.natAbs_tmod (a:=a) (b:=3);have h3:(3:Int).natAbs=3:=rfl;rw [h3]at h;have h2:a.natAbs%3<3:=Nat.mod_lt _ (by decide);unfold XL;omega
theorem NH (hx:Deep PP bH gM M (n+1) x){a b:Int} (hK:∀O1 O2,K (Cs O1 O2 (a.tmod 3) (b.tmod 3)) Sz):x.call mA [iz a,iz b] Sz K:=by
 refine hx.call Xo fun y hy=>?_;rw [XN];unfold JV;refine eI (l:=[.nil,.nil]) rfl fun o ho=>?_;have le1:bE Sz (upd Sz o (.row [.nil,.nil] 38)):= .aH ho;have ro:upd Sz o (.row [.nil,.nil] 38) o=some (.row [.nil,.nil] 38):=upd_same;generalize upd Sz o (.row [.nil,.nil] 38)=S1 at le1 ro;have e1:aG PP .rem 2 (iz a) (.int .i64 (.ofNat 3))=fun k:V->Prop=>aG PP .rem 2 (iz a) (.int .i64 (.ofNat 3)) k:=rfl;rw [IK (by decide)];refine⟨rfl,by simp,fun i1 h1=>?_⟩;have gP:bE S1 (upd S1 i1 (.row [iz (a.tmod 3)] 2)):= .aH h1;have r1:upd S1 i1 (.row [iz (a.tmod 3)] 2) i1=some (.row [iz (a.tmod 3)] 2):=upd_same;show aP 36 1 [(.slice none 0 0)] [(0,1,.own i1 0 1 1)] (upd S1 i1 (.row [iz (a.tmod 3)] 2)) _;generalize upd S1 i1 (.row [iz (a.tmod 3)] 2)=S2 at gP r1;refine⟨rfl,by simp,fun i2 h2=>?_⟩;have kP:bE S2 (upd S2 i2 (.row [.own i1 0 1 1] 36)):= .aH h2;have r2:upd S2 i2 (.row [.own i1 0 1 1] 36) i2=some (.row [.own i1 0 1 1] 36):=upd_same;show aG PP .rem 2 (iz b) (.int .i64 (.ofNat 3)) fun v4=>aP 2 1 [(.int .i64 (.ofNat 0))] [(0,1,v4)] (upd S2 i2 (.row [.own i1 0 1 1] 36)) fun v5 Sz=>gQ [(.slice none 0 0),(.slice none 0 0)] [(0,1,.own i2 0 1 1),(1,1,v5)] fun v6=>rH 2 (.ptr o 0) v6 Sz fun Sz=>bF 2 (.ptr o 0) Sz fun v7 _=>bC v7 Sz K;generalize upd S2 i2 (.row [.own i1 0 1 1] 36)=S3 at kP r2;rw [IK (by decide)];refine⟨rfl,by simp,fun i3 h3=>?_⟩;have le4:bE S3 (upd S3 i3 (.row [iz (b.tmod 3)] 2)):= .aH h3;have r3:upd S3 i3 (.row [iz (b.tmod 3)] 2) i3=some (.row [iz (b.tmod 3)] 2):=upd_same;show gQ [(.slice none 0 0),(.slice none 0 0)] [(0,1,.own i2 0 1 1),(1,1,.own i3 0 1 1)] fun v6=>rH 2 (.ptr o 0) v6 (upd S3 i3 (.row [iz (b.tmod 3)] 2)) fun Sz=>bF 2 (.ptr o 0) Sz fun v7 _=>bC v7 Sz K;generalize upd S3 i3 (.row [iz (b.tmod 3)] 2)=S4 at le4 r3;refine⟨rfl,by simp,rfl,by simp [splice],?_⟩;unfold jE;show rH 2 (.ptr o 0) (.agg [.own i2 0 1 1,.own i3 0 1 1]) S4 _;have ro4:=le4 _ _ (kP _ _ (gP _ _ ro));refine qT (n:=2) ro4 rfl rfl rfl ?_;have ro5:upd S4 o (.row [.own i2 0 1 1,.own i3 0 1 1] 38) o=some (.row [.own i2 0 1 1,.own i3 0 1 1] 38):=upd_same;rw [iU ro5,cF (by simp)];show bC (.agg [.own i2 0 1 1,.own i3 0 1 1]) _ K;have hle:bE Sz S4:=((le1.trans gP).trans kP).trans le4;have n1:Sz i1=none:=le1.none h1;have n2:Sz i2=none:=(le1.trans gP).none h2;have n3:Sz i3=none:=((le1.trans gP).trans kP).none h3
 have nr:∀{i:Nat} {vs:List V} {t:TypeId},S4 i=some (.row vs t)->t≠38->upd S4 o (.row [.own i2 0 1 1,.own i3 0 1 1] 38) i=some (.row vs t):=fun {i vs t} e h=>by
  rw [aB (fun c=>by rw [c,ro4]at e;injection e with e;injection e with _ e;exact h e.symm)];exact e
 have q1:=nr (le4 _ _ (kP _ _ r1)) (by decide);have q2:=nr (le4 _ _ r2) (by decide);have q3:=nr r3 (by decide)
 have f1:QV Sz (upd S4 o (.row [.own i2 0 1 1,.own i3 0 1 1] 38)) (.own i1 0 1 1) (.list [.int .i64 (a.tmod 3)] 1):= .own q1 n1 (Nat.le_refl _) (by simp) fun j v d x1 x2=>by
  match j with
  | 0=>injection x1 with x1;injection x2 with x2;subst x1 x2;exact .int
  | j+1=>simp at x2
 have f2:QV Sz (upd S4 o (.row [.own i2 0 1 1,.own i3 0 1 1] 38)) (.own i2 0 1 1) (.list [.list [.int .i64 (a.tmod 3)] 1] 1):= .own q2 n2 (Nat.le_refl _) (by simp) fun j v d x1 x2=>by
  match j with
  | 0=>injection x1 with x1;injection x2 with x2;subst x1 x2;exact f1
  | j+1=>simp at x2
 have f3:QV Sz (upd S4 o (.row [.own i2 0 1 1,.own i3 0 1 1] 38)) (.own i3 0 1 1) (.list [.int .i64 (b.tmod 3)] 1):= .own q3 n3 (Nat.le_refl _) (by simp) fun j v d x1 x2=>by
  match j with
  | 0=>injection x1 with x1;injection x2 with x2;subst x1 x2;exact .int
  | j+1=>simp at x2
 refine⟨Sz,fun O=>Cs (O 0) (O 1) (a.tmod 3) (b.tmod 3),fun k p e=>by rw [aB (fun c=>by rw [c,ho]at e;cases e)];exact hle k p e,fun O=> .agg ⟨rfl,fun j v u x1 x2=>?_⟩,fun O=>hK _ _⟩
 match j with
 | 0=>injection x1 with x1;injection x2 with x2;subst x1 x2;exact .dat f2
 | 1=>injection x1 with x1;injection x2 with x2;subst x1 x2;exact .dat f3
 | j+2=>simp at x1
theorem Ld (hx:Deep PP bH gM M (n+1) x){v w:V}{l:List Nat} (hv:NV Sz v l) (hw:NV Sz w l) (hl:l.length<100000) (hK:K (.bool true) Sz):∀(r i m:Nat),i+r=l.length->r<m->kW x m v w (ni i) Sz K:=by
 intro r;induction r with
 | zero=>
  intro i m hi hm;obtain⟨m,rfl⟩:=Nat.exists_eq_succ_of_ne_zero (show m≠0 by omega);rw [uY];unfold oH;refine aE ?_;rw [hv.len,aR,lY (by omega),aZ];exact aJ hK
 | succ r ih=>
  intro i m hi hm;obtain⟨m,rfl⟩:=Nat.exists_eq_succ_of_ne_zero (show m≠0 by omega);rw [uY];unfold oH;refine aE ?_;have hlt:i<l.length:=by omega
  obtain⟨p,hp,hld⟩:=hv.at (i:=i) (List.getElem?_eq_getElem hlt);obtain⟨q,hq,Xr⟩:=hw.at (i:=i) (List.getElem?_eq_getElem hlt);rw [hv.len,aR,AZ hlt,cU,hp,hld Sz (.refl Sz),hq,Xr Sz (.refl Sz),aC3,decide_eq_true rfl,Bool.not_true,aZ,aX (by omega)];exact ih (i+1) m (by omega) (by omega)
theorem PK (hM:1000000<M) (hx:Deep PP bH gM M (n+2) x){v w:V}{l:List Nat} (hv:NV Sz v l) (hw:NV Sz w l) (hl:l.length<100000) (hK:K (.bool true) Sz):x.call jM [v,w] Sz K:=by
 refine hx.call Sk fun y hy=>?_;rw [RY];unfold FB;rw [hv.len,hw.len,nB,decide_eq_true rfl,Bool.not_true,aZ,hy.most];exact Ld hy hv hw hl hK l.length 0 M (by omega) (by omega)
theorem Ph{p:Prop}:VL true (.bool true) p=p:=rfl
theorem Cu{a:Nat}{K:KV} (hk:∀j,Sz j=none->K (.own j 0 1 1) (upd Sz j (.row (JR [a]) 3))):aP 3 1 [(.int .i64 (.ofNat 0))] [(0,1,ni a)] Sz K:=⟨rfl,by simp,fun j hj=>hk j hj⟩
theorem Le{a b c d e f:Nat}{K:KV} (hk:∀j,Sz j=none->K (.own j 0 6 6) (upd Sz j (.row (gA [a,b,c,d,e,f]) 22))):aP 22 6 [(.int .u64 (.ofNat 0))] [(0,1,nu a),(1,1,nu b),(2,1,nu c),(3,1,nu d),(4,1,nu e),(5,1,nu f)] Sz K:=⟨rfl,by simp,rfl,by simp [splice],rfl,by simp [splice],rfl,by simp [splice],rfl,by simp [splice],rfl,by simp [splice],fun j hj=>hk j hj⟩
theorem mk6{K:KV} (hk:∀j,Sz j=none->K (.own j 0 6 6) (upd Sz j (.row (gA [0,0,0,0,0,0]) 22))):Gy 22 8 [(.int .u64 (.ofNat 0))] (.int .i64 (.ofNat 6)) (.int .i64 (.ofNat 6)) Sz K:=⟨by decide,by decide,by decide,fun j hj=>hk j hj⟩
theorem RB{i:Nat}{l:List Nat}{Sz:Hp} (h:Sz i=some (.row (gA l) 22)):NV Sz (.own i 0 l.length l.length) l:= .own h (fun k n hk=>by rw [Nat.zero_add];exact rG hk) (by rw [cY];omega)
theorem Hk:iH false [2]=[1,11]:=by decide
theorem Hl:iH false []=[1,0]:=by decide
theorem Lf:CQ false [1,11] [1,22] [0,0,0,0,0,0]=[11,6,20,12,17,3]:=by decide
theorem SV (hM:1000000<M) (hx:Deep PP bH gM M (n+8) x) (hK:K (.bool true) Sz):x.call mB [] Sz K:=by
 refine hx.call aBX fun y hy=>?_;rw [XO];unfold JW;refine Xq (two:=false) hy ?_;refine eI (l:=pz) rfl fun p hp=>?_;have rp:upd Sz p (.row pz 25) p=some (.row pz 25):=upd_same;refine qT (n:=12) rp jL rfl rfl ?_;rw [fP];have le1:bE Sz (upd Sz p (.row (pv false) 25)):= .aH hp;have rp:upd Sz p (.row (pv false) 25) p=some (.row (pv false) 25):=upd_same;generalize upd Sz p (.row (pv false) 25)=S1 at le1 rp
 have ld:∀{S2:Hp} {K:KV},bE S1 S2->bF 12 (.ptr p 0) S2 K=K (.agg (pv false)) S2:=fun {S2 K} hle=>by
  rw [iU (hle _ _ rp),cF (by rw [hH];omega),List.drop_zero,List.take_of_length_le (by rw [hH];omega)]
 have sm:∀{q:Prop},aL (.agg (pv false)) (.agg (pv false)) q=q:=fun {q}=>bQ rfl;rw [ld (.refl _),ld (.refl _),sm];refine⟨Cu fun _ _=>trivial,uS fun _ _=>trivial,Cu fun j hj=>?_⟩;have gP:bE S1 (upd S1 j (.row (JR [2]) 3)):= .aH hj;have r2:upd S1 j (.row (JR [2]) 3) j=some (.row (JR [2]) 3):=upd_same;generalize upd S1 j (.row (JR [2]) 3)=S2 at gP r2;refine Cp (n:=n+1) (two:=false) (l:=[2]) hM hy (.own (l:=[2]) (by decide) r2) (by decide) (fun c hc=>by rw [List.mem_singleton.1 hc];decide) (fun a b e=>by cases e) fun o S3 ho kP ro=>?_;rw [Hk]at ro;refine⟨uS fun _ _=>trivial,uS fun j2 hj2=>?_⟩;have le4:bE S3 (upd S3 j2 (.row (gA [1,11]) 22)):= .aH hj2;have r4:upd S3 j2 (.row (gA [1,11]) 22) j2=some (.row (gA [1,11]) 22):=upd_same;generalize upd S3 j2 (.row (gA [1,11]) 22)=S4 at le4 r4;refine PK (n:=n+5) hM hy (RB (l:=[1,11]) (le4 _ _ ro)) (RB (l:=[1,11]) r4) (by decide) ?_;have AM:=(gP.trans kP).trans le4;simp only [aF,aI];rw [ld AM,Ph,ld AM,sm];refine⟨uS fun _ _=>trivial,?_⟩;refine Cp (n:=n+1) (two:=false) (l:=[]) hM hy .nil (by decide) (fun c hc=>by cases hc) (fun a b e=>by cases e) fun o2 S5 ho2 wY ro2=>?_;rw [Hl]at ro2;refine⟨uS fun _ _=>trivial,uS fun j3 hj3=>?_⟩;have VH:bE S5 (upd S5 j3 (.row (gA [1,0]) 22)):= .aH hj3;have r6:upd S5 j3 (.row (gA [1,0]) 22) j3=some (.row (gA [1,0]) 22):=upd_same;generalize upd S5 j3 (.row (gA [1,0]) 22)=S6 at VH r6;refine PK (n:=n+5) hM hy (RB (l:=[1,0]) (VH _ _ ro2)) (RB (l:=[1,0]) r6) (by decide) ?_;have FO:=(AM.trans wY).trans VH;rw [gR];simp only [aI];rw [ld FO,Ph,ld FO,sm];refine⟨uS fun _ _=>trivial,uS fun _ _=>trivial,mk6 fun _ _=>trivial,Le fun _ _=>trivial,uS fun d hd=>?_⟩;have Pi:bE S6 (upd S6 d (.row (gA [1,22]) 22)):= .aH hd;have r7:upd S6 d (.row (gA [1,22]) 22) d=some (.row (gA [1,22]) 22):=upd_same;generalize upd S6 d (.row (gA [1,22]) 22)=S7z at Pi r7;refine uS fun li LN=>?_;have Ue:bE S7z (upd S7z li (.row (gA [1,11]) 22)):= .aH LN;have r8:upd S7z li (.row (gA [1,11]) 22) li=some (.row (gA [1,11]) 22):=upd_same;generalize upd S7z li (.row (gA [1,11]) 22)=S8 at Ue r8;refine mk6 fun dr hdr=>?_;have le9:bE S8 (upd S8 dr (.row (gA [0,0,0,0,0,0]) 22)):= .aH hdr;have r9:upd S8 dr (.row (gA [0,0,0,0,0,0]) 22) dr=some (.row (gA [0,0,0,0,0,0]) 22):=upd_same;generalize upd S8 dr (.row (gA [0,0,0,0,0,0]) 22)=S9 at le9 r9;have s64:∀l:List Nat,(∀c∈l,c<100)->qB l:=fun l h c hc=>Nat.lt_trans (h c hc) (by decide);refine Xm (n:=n+1) (two:=false) (S0:=S8) (vd:= .own d 0 2 2) (diff:=[1,22]) (line:=[1,11]) (draws:=[0,0,0,0,0,0]) hM hy rfl rfl (RB (l:=[1,22]) (le9 _ _ (Ue _ _ r7))) rfl (s64 _ (by decide)) (le9 _ _ r8) rfl (s64 _ (by decide)) (.own (l:=[0,0,0,0,0,0]) hdr r9) (s64 _ (by decide)) rfl fun w S10 aBZ mw=>?_;rw [Lf]at mw;refine⟨Le fun _ _=>trivial,Le fun j4 hj4=>?_⟩;have Hm:bE S10 (upd S10 j4 (.row (gA [11,6,20,12,17,3]) 22)):= .aH hj4;have r11:upd S10 j4 (.row (gA [11,6,20,12,17,3]) 22) j4=some (.row (gA [11,6,20,12,17,3]) 22):=upd_same;generalize upd S10 j4 (.row (gA [11,6,20,12,17,3]) 22)=S11 at Hm r11;refine PK (n:=n+5) hM hy (mw.nv.up Hm) (RB (l:=[11,6,20,12,17,3]) r11) (by decide) ?_;rw [gR];exact jG (((((((le1.trans FO).trans Pi).trans Ue).trans le9).trans aBZ).trans Hm)) hK
end
set_option maxRecDepth 4000
def EG (a b c d:Int):List Nat:=[lC (NF c) (NF a) 23,lC (NF d) (NF b) 23]
section
variable{M n:Nat}{x:VE}{Sz:Hp}{K:KV}{two:Bool}
theorem ZJ (hM:10<M) (hx:Deep PP bH gM M (n+7) x){O1 O2 O3 O4:Tag}{a b c d:Int} (ha:XL a) (hb:XL b) (hc:XL c) (hd:XL d) (hK:∀w S',bE Sz S'->MN Sz S' w (EG a b c d)->K w S'):x.call lK [.agg (pv two),Cs O1 O2 a b,Cs O3 O4 c d] Sz K:=by
 refine hx.call Sj fun y hy=>?_;rw [RZ];unfold FC;refine cO jL fun p hp=>?_;have le1:bE Sz (upd Sz p (.row (pv two) 25)):= .aH hp;have rp:upd Sz p (.row (pv two) 25) p=some (.row (pv two) 25):=upd_same;generalize upd Sz p (.row (pv two) 25)=S1 at le1 rp;refine cO rfl fun q hq=>?_;have gP:bE S1 (upd S1 q (.row [w2 O1 a,w1 O2 b] 38)):= .aH hq;have rq:upd S1 q (.row [w2 O1 a,w1 O2 b] 38) q=some (.row [w2 O1 a,w1 O2 b] 38):=upd_same;generalize upd S1 q (.row [w2 O1 a,w1 O2 b] 38)=S2 at gP rq;refine cO rfl fun r hr=>?_;have kP:bE S2 (upd S2 r (.row [w2 O3 c,w1 O4 d] 38)):= .aH hr;have rr:upd S2 r (.row [w2 O3 c,w1 O4 d] 38) r=some (.row [w2 O3 c,w1 O4 d] 38):=upd_same;generalize upd S2 r (.row [w2 O3 c,w1 O4 d] 38)=S3 at kP rr;have zP:=kP _ _ (gP _ _ rp);have rq3:=kP _ _ rq;have e1:(pv two)[1]? =some (nu 23):=rfl
 have lp:∀{S':Hp} {K:KV},bE S3 S'->bF 12 (.ptr p 0) S' K=K (.agg (pv two)) S':=fun {S' K} hle=>by
  rw [iU (hle _ _ zP),cF (by rw [hH];omega),List.drop_zero,List.take_of_length_le (by rw [hH];omega)]
 have lq:∀{S':Hp} {K:KV},bE S3 S'->bF 2 (.ptr q 0) S' K=K (Cs O1 O2 a b) S':=fun {S' K} hle=>by
  rw [iU (hle _ _ rq3),cF (by simp)];rfl
 have lr:∀{S':Hp} {K:KV},bE S3 S'->bF 2 (.ptr r 0) S' K=K (Cs O3 O4 c d) S':=fun {S' K} hle=>by
  rw [iU (hle _ _ rr),cF (by simp)];rfl
 have sm:∀{q:Prop},aL (.agg (pv two)) (.agg (pv two)) q=q:=fun {q}=>bQ rfl;have sm2:∀{q:Prop},aL (Cs O3 O4 c d) (Cs O3 O4 c d) q=q:=fun {q}=>bQ rfl;rw [lp (.refl _),lq (.refl _),lp (.refl _),lr (.refl _)];refine zU (n:=n) hM hy ha hb fun u S4 le4 mu=>?_;rw [lr le4,sm2,lp le4,sm];refine zU (n:=n) hM hy hc hd fun w S5 wY mw=>?_;have hu:=(mu.up wY).nv;have hw:=mw.nv;obtain⟨m,hm⟩:∃m,M=m+3:=⟨M-3,by omega⟩;have OL:bE Sz S5:=(((le1.trans gP).trans kP).trans le4).trans wY
 have go:∀(i m:Nat) (S6:Hp) (t:V) (l:List Nat),i<2->bE S5 S6->MN S5 S6 t l->l.length<=2->
  (∀S7z t',bE S5 S7z->MN S5 S7z t' (l++[lC ((EE c d).getD i 0) ((EE a b).getD i 0) 23])->gT y m (.ptr p 0) u w t' (ni (i+1)) S7z K)->
  gT y (m+1) (.ptr p 0) u w t (ni i) S6 K:=by
  intro i m S6 t l hi VH mt hl hk;rw [tD];unfold nF;refine aE ?_;have h1:(EE a b)[i]? =some ((EE a b).getD i 0):=by match i,hi with | 0,_=>rfl | 1,_=>rfl
  have h2:(EE c d)[i]? =some ((EE c d).getD i 0):=by match i,hi with | 0,_=>rfl | 1,_=>rfl
  have l1:(EE a b).getD i 0<23:=by match i,hi with | 0,_=>exact IJ _ | 1,_=>exact IJ _
  have l2:(EE c d).getD i 0<23:=by match i,hi with | 0,_=>exact IJ _ | 1,_=>exact IJ _
  obtain⟨p1,hp1,aB0⟩:=(hu.up VH).at h1;obtain⟨p2,hp2,Xr⟩:=(hw.up VH).at h2;have hlu:(EE a b).length=2:=rfl;have hlw:(EE c d).length=2:=rfl;rw [hu.len,aR,AZ (by rw [hlu];exact hi)];simp only [aF,aI,hw.len];rw [aR,AZ (by rw [hlw];exact hi),gR,cU,hp2,Xr _ (.refl _),hp1,aB0 _ (.refl _),aN,cG (VH _ _ (wY _ _ (le4 _ _ zP))) e1];refine ZG (n:=n+5) hy (show _<18446744073709551616 by omega) (show _<18446744073709551616 by omega) q23 ?_;refine⟨⟨rfl,by simp,fun j hj=>trivial⟩,?_⟩;refine mt.app VH (by omega) fun t' S7z Pi k7 mt'=>?_;rw [aX (by omega)];exact hk S7z t' Pi mt'
 rw [hy.most,hm];refine go 0 (m+2) S5 .nil [] (by decide) (.refl _) .nil (by decide) fun S6 t1 VH m1=>?_;refine go 1 (m+1) S6 t1 _ (by decide) VH m1 (by simp) fun S7z t2 Pi m2=>?_;rw [tD];unfold nF;refine aE ?_;have hlu:(EE a b).length=2:=rfl;rw [hu.len,aR,lY (by rw [hlu];decide)];simp only [aF,CL,dB];rw [aZ];exact aJ (hK t2 S7z (OL.trans Pi) (m2.base OL))
theorem aC4{O:Tag}{l:List Nat}{i:Nat} (h:i<l.length){K:KV}:aS (.nP O (tV l) i) Sz K=K (nu l[i]) Sz:=by
 rw [uN,bR (UW (List.getElem?_eq_getElem h))];rfl
theorem aB1 (hM:1000000<M) (hx:Deep PP bH gM M (n+1) x){O1 O2:Tag}{l:List Nat} (hl:l.length<100000) (hK:K (.bool true) Sz):x.call uX [.list O1 (tV l) l.length,.list O2 (tV l) l.length] Sz K:=by
 refine hx.call aBW fun y hy=>?_;rw [Cv];unfold NI;rw [gF,gF,nB,decide_eq_true rfl,Bool.not_true,aZ,hy.most]
 have go:∀(r i m:Nat),i+r=l.length->r<m->oI y m (.list O1 (tV l) l.length) (.list O2 (tV l) l.length) (ni i) Sz K:=by
  intro r;induction r with
  | zero=>
   intro i m hi hm;obtain⟨m,rfl⟩:=Nat.exists_eq_succ_of_ne_zero (show m≠0 by omega);rw [xW];unfold rI;refine aE ?_;rw [gF,aR,lY (by omega),aZ];exact aJ hK
  | succ r ih=>
   intro i m hi hm;obtain⟨m,rfl⟩:=Nat.exists_eq_succ_of_ne_zero (show m≠0 by omega);rw [xW];unfold rI;refine aE ?_;have hlt:i<l.length:=by omega
   rw [gF,aR,AZ hlt,cU,sN hlt,Nat.mul_one,aC4 hlt,sN hlt,Nat.mul_one,aC4 hlt,aC3,decide_eq_true rfl,Bool.not_true,aZ,aX (by omega)];exact ih (i+1) m (by omega) (by omega)
 exact go l.length 0 M (by omega) (by omega)
theorem aB2 (hM:1000000<M) (hx:Deep PP bH gM M (n+2) x){O1 O2:Tag}{l:List (List Nat)} (hl:l.length<100000) (hll:∀q∈l,q.length<100000) (hK:K (.bool true) Sz):x.call rW [.list O1 (pM l) l.length,.list O2 (pM l) l.length] Sz K:=by
 refine hx.call aBV fun y hy=>?_;rw [XP];unfold JX;rw [gF,gF,nB,decide_eq_true rfl,Bool.not_true,aZ,hy.most]
 have cell:∀{O:Tag} {i:Nat} (h:i<l.length) {K:KV},aS (.nP O (pM l) i) Sz K=K (.list (.sub O i) (tV l[i]) l[i].length) Sz:=fun {O i} h {K}=>by
  rw [uN];have:(pM l)[i]? =some (.list (tV l[i]) l[i].length):=by unfold pM;rw [List.getElem?_map,List.getElem?_eq_getElem h];rfl
  rw [bR this];rfl
 have go:∀(r i m:Nat),i+r=l.length->r<m->mP y m (.list O1 (pM l) l.length) (.list O2 (pM l) l.length) (ni i) Sz K:=by
  intro r;induction r with
  | zero=>
   intro i m hi hm;obtain⟨m,rfl⟩:=Nat.exists_eq_succ_of_ne_zero (show m≠0 by omega);rw [xE];unfold qJ;refine aE ?_;rw [gF,aR,lY (by omega),aZ];exact aJ hK
  | succ r ih=>
   intro i m hi hm;obtain⟨m,rfl⟩:=Nat.exists_eq_succ_of_ne_zero (show m≠0 by omega);rw [xE];unfold qJ;refine aE ?_;have hlt:i<l.length:=by omega
   rw [gF,aR,AZ hlt,cU,sN hlt,Nat.mul_one,cell hlt,sN hlt,Nat.mul_one,cell hlt];refine aB1 (n:=n) hM hy (hll _ (List.getElem_mem hlt)) ?_;rw [jV,Bool.not_true,aZ,aX (by omega)];exact ih (i+1) m (by omega) (by omega)
 exact go l.length 0 M (by omega) (by omega)
end
set_option maxRecDepth 4000
theorem Xs{l:List (Nat×Nat)}:∀{i:Nat} {a b:Nat},l[i]? =some (a,b)->(PF l)[i*2]? =some (nd a)/\(PF l)[i*2+1]? =some (nd b):=by
 induction l with
 | nil=>intro i a b h;cases h
 | cons p l ih=>
  intro i a b h
  match i with
  | 0=>injection h with h;subst h;exact⟨rfl,rfl⟩
  | i+1=>
   have:=ih (i:=i) (a:=a) (b:=b) h;rw [show(i+1)*2=i*2+2 by omega];exact this
theorem aEw{l:List (Nat×Nat)}:∀{i:Nat} {a b:Nat},l[i]? =some (a,b)->(XH l)[i*2]? =some (nu a)/\(XH l)[i*2+1]? =some (nu b):=by
 induction l with
 | nil=>intro i a b h;cases h
 | cons p l ih=>
  intro i a b h
  match i with
  | 0=>injection h with h;subst h;exact⟨rfl,rfl⟩
  | i+1=>
   have:=ih (i:=i) (a:=a) (b:=b) h;rw [show(i+1)*2=i*2+2 by omega];exact this
theorem Lg{α:Type}{l:List α}{o:Nat}{a b:α} (h1:l[o]? =some a) (h2:l[o+1]? =some b):o+2<=l.length/\(l.drop o).take 2=[a,b]:=by
 have hl:=(List.getElem?_eq_some_iff.1 h2).1;refine⟨by omega,?_⟩;rw [List.drop_eq_getElem_cons (show o<l.length by omega),List.take_succ_cons,List.drop_eq_getElem_cons hl,List.take_succ_cons,List.take_zero];have e1:=List.getElem?_eq_getElem (show o<l.length by omega);have e2:=List.getElem?_eq_getElem hl;rw [h1]at e1;rw [h2]at e2;injection e1 with e1;injection e2 with e2;rw [<-e1,<-e2]
inductive PV (Sz:Hp):V->List (Nat×Nat)->Prop
 | list {O:Tag} {l:List (Nat×Nat)}:PV Sz (.list O (PF l) l.length) l
 | nil:PV Sz .nil []
 | acc {i:Nat} {l:List (Nat×Nat)} (h:Sz i=some (.dF (XH l) 73 l.length)):PV Sz (.acc i l.length) l
section
variable{Sz S':Hp}{v:V}{l:List (Nat×Nat)}
theorem PV.len (h:PV Sz v l){K:V->Prop}:aV v K=K (ni l.length):=by cases h<;>rfl
theorem PV.at (h:PV Sz v l){i a b:Nat} (hi:l[i]? =some (a,b)):∃p,(∀K:V->Prop,bY 2 v (ni i) K=K p)/\(∀K:KV,bF 2 p Sz K=K (.agg [nu a,nu b]) Sz)/\(∀S',bE Sz S'->∀K:KV,(bI 0 p fun q=>aS q S' K)=K (nu a) S')/\(∀S',bE Sz S'->∀K:KV,(bI 1 p fun q=>aS q S' K)=K (nu b) S')/\∃q0 q1,(∀k:V->Prop,bI 0 p k=k q0)/\(∀k:V->Prop,bI 1 p k=k q1)/\(∀S',bE Sz S'->∀K:KV,aS q0 S' K=K (nu a) S')/\(∀S',bE Sz S'->∀K:KV,aS q1 S' K=K (nu b) S'):=by
 have hlt:i<l.length:=(List.getElem?_eq_some_iff.1 hi).1;cases h with
 | nil=>cases hi
 | @list O=>
  obtain⟨h1,h2⟩:=Xs hi;obtain⟨h3,h4⟩:=Lg h1 h2;have l0:∀S',bE Sz S'->∀K:KV,aS (.nP O (PF l) (i*2+0)) S' K=K (nu a) S':=fun S' _ K=>by rw [Nat.add_zero,uN,bR h1];rfl
  have l1:∀S',bE Sz S'->∀K:KV,aS (.nP O (PF l) (i*2+1)) S' K=K (nu b) S':=fun S' _ K=>by rw [uN,bR h2];rfl
  refine⟨.nP O (PF l) (i*2),fun K=>sN hlt,fun K=>?_,l0,l1,_,_,fun k=>rfl,fun k=>rfl,l0,l1⟩;rw [Xt,cF h3,h4];rfl
 | @acc j _ h=>
  obtain⟨h1,h2⟩:=aEw hi;obtain⟨h3,h4⟩:=Lg h1 h2;have l0:∀S',bE Sz S'->∀K:KV,aS (.lX j l.length (i*2+0)) S' K=K (nu a) S':=fun S' hle K=>by unfold aS;simp only [hle _ _ h,Nat.add_zero,bR h1,true_and]
  have l1:∀S',bE Sz S'->∀K:KV,aS (.lX j l.length (i*2+1)) S' K=K (nu b) S':=fun S' hle K=>by unfold aS;simp only [hle _ _ h,bR h2,true_and]
  refine⟨.lX j l.length (i*2),fun K=>wX hlt,fun K=>?_,l0,l1,_,_,fun k=>rfl,fun k=>rfl,l0,l1⟩;unfold bF;simp only [h,cF h3,h4,true_and]
end
def Cw (back k:Nat):List (Nat×Nat)->List Nat->List (Nat×Nat)
 | p::ps,d::ds=>(dD p.1 (d*k%23),lC p.2 (d*k%23*back%23) 23)::Cw back k ps ds
 | _,_=>[]
section
variable{M n:Nat}{x:VE}{Sz:Hp}{K:KV}{two:Bool}
theorem aF5:keyS PP 73=some (.many [.int .u64,.int .u64]):=by kernel_rfl
theorem Sl{P:Program}{t:TypeId}{l:List CT}{a:List V}{k:V->Prop} (hs:keyS P t=some (.many l)) (ha:NJ l a) (h1:k (.bool false)):Sm P .neq t (.agg a) (.agg a) k:=by
 unfold Sm;rw [hs];exact⟨ha,ha,fun _=>h1,fun h=>absurd rfl h⟩
theorem Hn (hM:1000000<M) (hx:Deep PP bH gM M (n+1) x){v w:V}{l:List (Nat×Nat)} (hv:PV Sz v l) (hw:PV Sz w l) (hl:l.length<1000) (h64:∀p∈l,b64 p.1/\b64 p.2) (hK:K (.bool true) Sz):x.call oX [v,w] Sz K:=by
 refine hx.call Xp fun y hy=>?_;rw [XQ];unfold JY;rw [hv.len,hw.len,nB,decide_eq_true rfl,Bool.not_true,aZ,hy.most]
 have go:∀(r i m:Nat),i+r=l.length->r<m->mQ y m v w (ni i) Sz K:=by
  intro r;induction r with
  | zero=>
   intro i m hi hm;obtain⟨m,rfl⟩:=Nat.exists_eq_succ_of_ne_zero (show m≠0 by omega);rw [xF];unfold qK;refine aE ?_;rw [hv.len,aR,lY (by omega),aZ];exact aJ hK
  | succ r ih=>
   intro i m hi hm;obtain⟨m,rfl⟩:=Nat.exists_eq_succ_of_ne_zero (show m≠0 by omega);rw [xF];unfold qK;refine aE ?_;have hlt:i<l.length:=by omega
   have hg:l[i]? =some (l[i].1,l[i].2):=List.getElem?_eq_getElem hlt;obtain⟨p,hp,hld,_⟩:=hv.at hg;obtain⟨q,hq,Xr,_⟩:=hw.at hg;obtain⟨b1,b2⟩:=h64 _ (List.getElem_mem hlt);rw [hv.len,aR,AZ hlt,cU,hp,hld,hq,Xr];refine Sl aF5 ?_ ?_
   ·exact⟨rfl,rfl,trivial⟩
   ·rw [aZ,aX (by omega)]
    exact ih (i+1) m (by omega) (by omega)
 exact go l.length 0 M (by omega) (by omega)
end
set_option maxRecDepth 4000
def JZ (N T:Nat):List Nat->List Nat->List Nat
 | [],out=>out
 | b::l,out=>if out.length<T then JZ N T l (if 1+b%N∈out then out else out++[1+b%N])else out
def zX (two:Bool) (l:List Nat):List Nat:=JZ (tN two) (tT two) l []
theorem Xy{N T:Nat} (hN:0<N):∀(l out:List Nat),out.length<=T->(∀c∈out,1<=c/\c<=N)->out.Nodup->(JZ N T l out).length<=T/\(∀c∈JZ N T l out,1<=c/\c<=N)/\(JZ N T l out).Nodup:=by
 intro l;induction l with
 | nil=>intro out h1 h2 h3;exact⟨h1,h2,h3⟩
 | cons b l ih=>
  intro out h1 h2 h3;unfold JZ;split
  ·rename_i hlt
   split
   ·exact ih out h1 h2 h3
   ·rename_i hn
    refine ih _ (by simp;omega) (fun c hc=>?_) ?_
    ·rcases List.mem_append.1 hc with hc | hc
     ·exact h2 c hc
     ·rw [List.mem_singleton.1 hc]
      have:=Nat.mod_lt b hN;omega
    ·rw [List.nodup_append]
     exact⟨h3,by simp,fun a ha c hc e=>hn (by rw [<-List.mem_singleton.1 hc,<-e];exact ha)⟩
  ·exact⟨h1,h2,h3⟩
def Li (l:List Nat):List Dt:=l.map fun b=> .int .u8 (.ofNat b)
inductive IB (S0 Sz:Hp):V->List Nat->Prop
 | nil:IB S0 Sz .nil []
 | acc {i:Nat} {l:List Nat} (h0:0<l.length) (hn:S0 i=none) (h:Sz i=some (.dF (JR l) 3 l.length)):IB S0 Sz (.acc i l.length) l
theorem aB5 (l m:List Nat):JR (l++m)=JR l++JR m:=List.map_append
section
variable{S0 Sz S':Hp}{v:V}{l:List Nat}
theorem IB.iv (h:IB S0 Sz v l):IV Sz v l:=by cases h with | nil=>exact .nil | acc h0 hn h=>exact .acc h0 h
theorem IB.app (h:IB S0 Sz v l) (hs:bE S0 Sz) (hl:l.length<=1000000){n:Nat}{K:KV} (hk:∀w S',bE S0 S'->IB S0 S' w (l++[n])->K w S'):aP 3 1 [(.int .i64 (.ofNat 0))] [(0,1,ni n)] Sz fun v2 Sz=>kI 3 1 8 v v2 Sz K:=by
 refine Cu fun j hj=>?_;have hs1:bE S0 (upd Sz j (.row (JR [n]) 3)):=hs.trans (.aH hj);refine uO (m:=1) upd_same rfl ?_;refine⟨rfl,?_⟩;cases h with
 | nil=>
  refine⟨by decide,fun i hi=>hk _ _ (hs1.trans (.aH hi)) ?_⟩;exact .acc (l:=[n]) (by simp) (hs1.none hi) upd_same
 | @acc i _ h0 hn h=>
  have hne:j≠i:=fun e=>by rw [e,h]at hj;cases hj
  have h':upd Sz j (.row (JR [n]) 3) i=some (.dF (JR l) 3 l.length):=by rw [aB (Ne.symm hne)];exact h
  simp only [h'];refine⟨trivial,trivial,by rw [Cm];omega,by omega,?_⟩;have el:l.length+(0+1)=(l++[n]).length:=by simp
  rw [el];exact hk _ _ (pL hs1 hn) (.acc (by simp) hn (by rw [aB5];exact upd_same))
end
section
variable{M n:Nat}{x:VE}{S0:Hp}{K:KV}{two:Bool}
theorem Xz{a b:Nat}{t:TypeId}{k:V->Prop} (h:0<b):aG PP .rem t (ni a) (ni b) k=k (ni (a%b)):=by
 rw [IK (by simp only [Int.ofNat_eq_natCast];omega)]
 congr 2
theorem aC6 (hM:1000000<M) (hx:Deep PP bH gM M (n+1) x){O:Tag}{l:List Nat} (hl8:∀b∈l,b<256) (hl:l.length<1000) (hK:∀w S',bE S0 S'->IV S' w (zX two l)->K w S'):x.call lS [.agg (pv two),.list O (Li l) l.length] S0 K:=by
 have hN:0<tN two:=by cases two<;>decide
 have hN7:tN two<=7:=by cases two<;>decide
 have hT:tT two<=2:=by cases two<;>decide
 refine hx.call aF4 fun y hy=>?_;rw [Hr];unfold RD;refine cO jL fun bp hbp=>?_;have le1:bE S0 (upd S0 bp (.row (pv two) 25)):= .aH hbp;have rp:upd S0 bp (.row (pv two) 25) bp=some (.row (pv two) 25):=upd_same;generalize upd S0 bp (.row (pv two) 25)=S1 at le1 rp;have e5:(pv two)[5]? =some (ni (tN two)):=rfl;have e6:(pv two)[6]? =some (ni (tT two)):=rfl;have hm0:y.most≠0:=by rw [hy.most];omega
 have aF9:∀{i:Nat} (h:i<l.length) {Sz:Hp} {K:KV},aS (.nP O (Li l) i) Sz K=K (.int .u8 (.ofNat l[i])) Sz:=fun {i} h {Sz K}=>by
  rw [uN];have:(Li l)[i]? =some (.int .u8 (.ofNat l[i])):=by unfold Li;rw [List.getElem?_map,List.getElem?_eq_getElem h];rfl
  rw [bR this];rfl
 have i64:∀{b:Nat} {k:V->Prop},b<256->AL .i64 (.int .u8 (.ofNat b)) k=k (ni b):=fun {b k} hb=>by
  show k (.int .i64 (mU .i64 (.ofNat b)))=_;have:mU .i64 (.ofNat b)= .ofNat b:=wrap_small (by simp only [Int.ofNat_eq_natCast];omega) (by simp only [Int.ofNat_eq_natCast];omega);rw [this]
 have inner:∀(m0 i c:Nat) (Sz:Hp) (t:V) (out:List Nat),IB S1 Sz t out->out.length<1000->
  ((c∈out->gD y m0 (.list O (Li l) l.length) (.ptr bp 0) t (ni i) Sz K)/\(¬c∈out->aP 3 1 [(.int .i64 (.ofNat 0))] [(0,1,ni c)] Sz fun v13 Sz=>kI 3 1 8 t v13 Sz fun v14 Sz=>gD y m0 (.list O (Li l) l.length) (.ptr bp 0) v14 (ni i) Sz K))->
  ∀(r k m:Nat) (b:Bool),k+r=out.length->r<m->(b=true↔∀j,j<k->out[j]? ≠some c)->
   gU y m m0 (.list O (Li l) l.length) (.ptr bp 0) t (ni i) (ni c) (.bool b) (ni k) Sz K:=by
  intro m0 i c Sz t out ht hlo hk r;induction r with
  | zero=>
   intro k m b hkr hm hb;obtain⟨m,rfl⟩:=Nat.exists_eq_succ_of_ne_zero (show m≠0 by omega);rw [pR];unfold jW;refine aE ?_;rw [ht.iv.len,aR,lY (by omega),aZ];cases b with
   | true=>
    rw [cU];refine hk.2 fun hc=>?_;obtain⟨j,hj⟩:=List.getElem?_of_mem hc;have:=(List.getElem?_eq_some_iff.1 hj).1;exact hb.1 rfl j (by omega) hj
   | false=>
    rw [aZ];refine hk.1 (Classical.byContradiction fun hc=>?_);have:false=true:=hb.2 fun j _ hj=>hc (List.mem_of_getElem? hj);cases this
  | succ r ih=>
   intro k m b hkr hm hb;obtain⟨m,rfl⟩:=Nat.exists_eq_succ_of_ne_zero (show m≠0 by omega);rw [pR];unfold jW;refine aE ?_;have hlt:k<out.length:=by omega
   obtain⟨p,hp,hld⟩:=ht.iv.at (i:=k) (List.getElem?_eq_getElem hlt);rw [ht.iv.len,aR,AZ hlt,cU];cases b with
   | true=>
    simp only [aF,aI];rw [hp,hld Sz (.refl Sz),nB,gR,aX (by omega)];refine ih (k+1) m _ (by omega) (by omega) ⟨fun h j hj=>?_,fun h=>?_⟩
    ·by_cases hjk:j=k
     ·subst hjk
      rw [List.getElem?_eq_getElem hlt];intro hh;injection hh with hh;simp [hh]at h
     ·exact hb.1 rfl j (by omega)
    ·have:=h k (by omega)
     rw [List.getElem?_eq_getElem hlt]at this;have:¬out[k]=c:=fun e=>this (by rw [e]);simp [this]
   | false=>
    simp only [aF,CL,dB];rw [aX (by omega)];refine ih (k+1) m _ (by omega) (by omega) ⟨(fun h=>by cases h),fun h=>?_⟩;exact hb.2 fun j hj=>h j (by omega)
 have outer:∀(r i m:Nat) (Sz:Hp) (t:V) (out:List Nat),i+r=l.length->r<m->bE S1 Sz->IB S1 Sz t out->out.length<=2->JZ (tN two) (tT two) (l.drop i) out=zX two l->pS y m (.list O (Li l) l.length) (.ptr bp 0) t (ni i) Sz K:=by
  intro r;induction r with
  | zero=>
   intro i m Sz t out hi hm hle ht hlo he;obtain⟨m,rfl⟩:=Nat.exists_eq_succ_of_ne_zero (show m≠0 by omega);rw [zY];unfold sQ;refine aE ?_;rw [gF,aR,lY (by omega)];simp only [aF,CL,dB];rw [aZ];rw [List.drop_eq_nil_of_le (by omega)]at he;unfold JZ at he;rw [<-he]at hK;exact aJ (hK t Sz (le1.trans hle) ht.iv)
  | succ r ih=>
   intro i m Sz t out hi hm hle ht hlo he;obtain⟨m,rfl⟩:=Nat.exists_eq_succ_of_ne_zero (show m≠0 by omega);rw [zY];unfold sQ;refine aE ?_;have hlt:i<l.length:=by omega
   have Cr:=hle _ _ rp;have ed:l.drop i=l[i]::l.drop (i+1):=List.drop_eq_getElem_cons hlt;rw [ed]at he;unfold JZ at he;rw [gF,aR,AZ hlt];simp only [aF,aI,ht.iv.len];rw [aN,cG Cr e6,aR,gR];by_cases c:out.length<tT two
   ·rw [decide_eq_true c,cU,sN hlt,Nat.mul_one,aF9 hlt,i64 (hl8 _ (List.getElem_mem hlt)),aN,cG Cr e5,Xz hN,aX (by have:=Nat.mod_lt l[i] hN;omega),hy.most]
    rw [if_pos c]at he
    have jn:∀(S':Hp) (t':V) (out':List Nat),bE S1 S'->IB S1 S' t' out'->out'.length<=2->JZ (tN two) (tT two) (l.drop (i+1)) out'=zX two l->gD y m (.list O (Li l) l.length) (.ptr bp 0) t' (ni i) S' K:=fun S' t' out' h1 h2 h3 h4=>by
     rw [FP y hm0];unfold pC;refine aE ?_;rw [aX (by omega)];exact ih (i+1) m S' t' out' (by omega) (by omega) h1 h2 h3 h4
    refine inner m i (1+l[i]%tN two) Sz t out ht (by omega) ⟨fun hc=>?_,fun hc=>?_⟩ out.length 0 M true (by omega) (by omega) ⟨fun _ j hj=>absurd hj (by omega),fun _=>rfl⟩
    ·rw [if_pos hc]at he
     exact jn Sz t out hle ht hlo he
    ·rw [if_neg hc]at he
     refine ht.app hle (by omega) fun w S' le' hw=>?_;exact jn S' w _ le' hw (by simp;omega) he
   ·rw [decide_eq_false c,aZ]
    rw [if_neg c]at he;rw [<-he]at hK;exact aJ (hK t Sz (le1.trans hle) ht.iv)
 rw [hy.most];exact outer l.length 0 M S1 .nil [] (by omega) (by omega) (.refl _) .nil (by simp) rfl
end
set_option maxRecDepth 4000
theorem Cz{S1 S2:Hp}{t:Nat} (h:bE S1 S2) (ht:S1 t=none):bE S1 (del S2 t):=fun j o e=>by
 have hj:j≠t:=fun c=>by rw [c,ht]at e;cases e
 rw [zN hj];exact h j o e
def Uf (two:Bool) (ah:List Nat) (s:BitVec 64):List Nat:=drawn ((tT two+(1+tT two))*2) ah s
theorem Ya{a b:Int}:qB (EE a b):=fun c hc=>by
 rcases List.mem_cons.1 hc with rfl | hc
 ·exact Nat.lt_trans (IJ _) (by decide)
 ·rw [List.mem_singleton.1 hc];exact Nat.lt_trans (IJ _) (by decide)
theorem aC7{a b c d:Int}:qB (EG a b c d):=fun e he=>by
 rcases List.mem_cons.1 he with rfl | he
 ·exact Nat.lt_trans (sub_lt _ _) (by decide)
 ·rw [List.mem_singleton.1 he];exact Nat.lt_trans (sub_lt _ _) (by decide)
section
variable{M n:Nat}{x:VE}{Sz:Hp}{K:KV}{two:Bool}
theorem Yb (l:List Nat):∀c∈CN l,c<18446744073709551616:=by
 have:∀(l m:List Nat),qB m->qB (l.foldl lineS m):=by
  intro l;induction l with
  | nil=>intro m h;exact h
  | cons a l ih=>intro m h;exact ih _ Hc
 exact this l [1] (fun c hc=>by rw [List.mem_singleton.1 hc];show 1<18446744073709551616;decide)
theorem VN (l:List Nat):qB (iH two l):=fun c hc=>by
 unfold iH aBL at hc;rcases List.mem_append.1 hc with hc | hc
 ·exact Yb l c hc
 ·rw [(List.mem_replicate.1 hc).2];show 0<18446744073709551616;decide
theorem PL{l:List Nat} (h:l.length<=tT two):(iH two l).length=tT two+1:=by
 unfold iH aBL CN;rw [List.length_append,List.length_replicate,ZF];simp only [List.length_cons,List.length_nil];omega
theorem aB6 (hM:1000000<M) (hx:Deep PP bH gM M (n+17) x){O1 O2 O3 O4:Tag}{a b c d:Int} (ha:XL a) (hb:XL b) (hc:XL c) (hd:XL d){S:Nat} (hS:b64 S){v:V}{tk:List Nat} (hv:IV Sz v tk) (h1:tk.length<=tT two) (h2:∀c∈tk,1<=c/\c<=tN two) (h3:∀a b,tk=[a,b]->a≠b)
 (hK:∀S' o f r f2 r2,bE Sz S'->S' o=some (.row (gA (iH two tk)) 22)->f=Oy (tT two) (EE a b) (Uf two [] (BitVec.ofNat 64 S))->r=Oz (tT two) 2 (Uf two [] (BitVec.ofNat 64 S))->
  f2=Oy (tT two) (EE c d) (Uf two (CQ two (iH two tk) (EG a b c d) (drawn (2*(2*tT two+1)) [] (BitVec.ofNat 64 S))) 0)->r2=Oz (tT two) 2 (Uf two (CQ two (iH two tk) (EG a b c d) (drawn (2*(2*tT two+1)) [] (BitVec.ofNat 64 S))) 0)->
  ∀O1 O2 O3 O4,K (.tuple [.list O1 (Lb f r (tN two)) (tN two),.list O2 (Lb f2 r2 (tN two)) (tN two),.list O3 (pM (dW f r)) (dW f r).length,.list O4 (pM (dW f2 r2)) (dW f2 r2).length,.own o 0 (tT two+1) (tT two+1),.bool true]) S'):
 x.call wO [.agg (pv two),Cs O1 O2 a b,Cs O3 O4 c d,nu S,v] Sz K:=by
 have hT:tT two<=2:=by cases two<;>decide
 have hT1:1<=tT two:=by cases two<;>decide
 refine hx.call aBY fun y hy=>?_;rw [XR];unfold KA;refine cO jL fun p hp=>?_;have le1:bE Sz (upd Sz p (.row (pv two) 25)):= .aH hp;have rp:upd Sz p (.row (pv two) 25) p=some (.row (pv two) 25):=upd_same;generalize upd Sz p (.row (pv two) 25)=S1 at le1 rp;refine cO rfl fun q hq=>?_;have gP:bE S1 (upd S1 q (.row [w2 O1 a,w1 O2 b] 38)):= .aH hq;have rq:upd S1 q (.row [w2 O1 a,w1 O2 b] 38) q=some (.row [w2 O1 a,w1 O2 b] 38):=upd_same;generalize upd S1 q (.row [w2 O1 a,w1 O2 b] 38)=S2 at gP rq;refine cO rfl fun r hr=>?_;have kP:bE S2 (upd S2 r (.row [w2 O3 c,w1 O4 d] 38)):= .aH hr;have rr:upd S2 r (.row [w2 O3 c,w1 O4 d] 38) r=some (.row [w2 O3 c,w1 O4 d] 38):=upd_same;generalize upd S2 r (.row [w2 O3 c,w1 O4 d] 38)=S3 at kP rr;have zP:=kP _ _ (gP _ _ rp);have rq3:=kP _ _ rq;have leS:=(le1.trans gP).trans kP;have e1:(pv two)[1]? =some (nu 23):=rfl;have e5:(pv two)[5]? =some (ni (tN two)):=rfl;have e6:(pv two)[6]? =some (ni (tT two)):=rfl
 have lp:∀{S':Hp} {K:KV},bE S3 S'->bF 12 (.ptr p 0) S' K=K (.agg (pv two)) S':=fun {S' K} hle=>by
  rw [iU (hle _ _ zP),cF (by rw [hH];omega),List.drop_zero,List.take_of_length_le (by rw [hH];omega)]
 have lq:∀{S':Hp} {K:KV},bE S3 S'->bF 2 (.ptr q 0) S' K=K (Cs O1 O2 a b) S':=fun {S' K} hle=>by
  rw [iU (hle _ _ rq3),cF (by simp)];rfl
 have lr:∀{S':Hp} {K:KV},bE S3 S'->bF 2 (.ptr r 0) S' K=K (Cs O3 O4 c d) S':=fun {S' K} hle=>by
  rw [iU (hle _ _ rr),cF (by simp)];rfl
 have l1:∀{S':Hp} {K:KV},bE S3 S'->aS (.ptr p 1) S' K=K (nu 23) S':=fun hle=>cG (hle _ _ zP) e1;have l5:∀{S':Hp} {K:KV},bE S3 S'->aS (.ptr p 5) S' K=K (ni (tN two)) S':=fun hle=>cG (hle _ _ zP) e5;have l6:∀{S':Hp} {K:KV},bE S3 S'->aS (.ptr p 6) S' K=K (ni (tT two)) S':=fun hle=>cG (hle _ _ zP) e6;have sm:∀{q:Prop},aL (.agg (pv two)) (.agg (pv two)) q=q:=fun {q}=>bQ rfl;have smq:∀{q:Prop},aL (Cs O1 O2 a b) (Cs O1 O2 a b) q=q:=fun {q}=>bQ rfl;have smr:∀{q:Prop},aL (Cs O3 O4 c d) (Cs O3 O4 c d) q=q:=fun {q}=>bQ rfl;rw [lp (.refl _)];refine Cp (n:=n+10) hM hy (hv.up leS) h1 h2 h3 fun o S4 ho le4 ro=>?_;rw [lp le4,lq le4,aN,l6 le4,pB (by omega),aX (by omega),aN,l1 le4];refine Pl (n:=n+15) hy hS fun t S5 ht wY bt5 tp5=>?_;have Yc:=le4.trans wY;rw [l1 Yc,bO,l6 Yc,bO,lq Yc,smq,lp Yc,sm];refine zU (n:=n+10) (by omega) hy ha hb fun w1' S6 VH m6=>?_;have aGa:=Yc.trans VH;have hl2:(EE a b).length=2:=rfl;rw [l1 aGa,bO,l6 aGa,bO,m6.nv.len,hl2,pB (by omega)];have tp6:Tape S6 t (BitVec.ofNat 64 S) [] 0:=tp5.keep fun j o e _=>VH j o e;refine Pm (n:=n+13) (by omega) hy (by omega) (by decide) tp6 fun S7z od hod b7 _ rod=>?_
 have aGb:bE S4 S7z:=fun j ob e=>by
  have hj:j≠t:=fun c=>by rw [c,ht]at e;cases e
  have e6:=VH _ _ (wY _ _ e);have hj2:j≠od:=fun c=>by rw [c,hod]at e6;cases e6
  rw [b7 j hj hj2];exact e6
 have Yd:=le4.trans aGb;rw [l6 Yd,bO,lp Yd,lp Yd,lq Yd];refine zU (n:=n+10) (by omega) hy ha hb fun w2' S8 Ue m8=>?_;have aEA:=Yd.trans Ue;rw [lp aEA,sm];refine Pl (n:=n+15) hy hS fun t2 S9 ht2 le9 bt9 tp9=>?_;have aHB:=aEA.trans le9;rw [lp aHB,sm];have d9:bE S8 (del S9 t2):=Cz le9 ht2;refine Pb (n:=n) hM hy (m8.nv.up d9) Ya rfl tp9 fun f r' hf hr' O5 O6=>?_;have Da:=aEA.trans d9;rw [iD (v:= .list O5 (Lb f r' (tN two)) (tN two)) rfl,iD (v:= .list O6 (pM (dW f r')) (dW f r').length) rfl,iD (v:=ni 0) rfl];generalize del S9 t2=S10 at d9 Da;rw [lp Da,lp Da,lr Da,lp Da,lp Da,lq Da,lr Da];refine zU (n:=n+10) (by omega) hy hc hd fun w3 S11 Hm m11=>?_;have Sp:=Da.trans Hm;rw [lr Sp,smr,lq Sp,smq,lp Sp,sm,lp Sp,sm,lp Sp,sm];refine ZJ (n:=n+9) (by omega) hy ha hb hc hd fun w4 S12 ND m12=>?_;have aEB:=Sp.trans ND;rw [lp aEB,sm,lp aEB,sm];have aGc:bE S7z S12:=((Ue.trans d9).trans Hm).trans ND;have aGd:=aGc _ _ rod;have aGe:=aGc _ _ (aGb _ _ ro);have hll:=PL (two:=two) h1;have hdl:(drawn (2*(2*tT two+1)) [] (BitVec.ofNat 64 S)).length=2*(2*tT two+1):=mZ _ _ _
 have mod:MN S6 S12 (.own od 0 (2*(2*tT two+1)) (2*(2*tT two+1))) (drawn (2*(2*tT two+1)) [] (BitVec.ofNat 64 S)):=by
  have:=MN.own (S0:=S6) (l:=drawn (2*(2*tT two+1)) [] (BitVec.ofNat 64 S)) hod aGd;rw [hdl]at this;exact this
 rw [<-hll];refine Xm (n:=n+10) (two:=two) (line:=iH two tk) hM hy m12.one (by cases m12<;>rfl) m12.nv rfl aC7 aGe hll (VN tk) mod (fun c hc=>Nat.lt_trans (zM _ _ _ c hc) (by decide)) hdl fun w5 S13 uU m13=>?_;have aEC:=aEB.trans uU;rw [lp aEC,sm];refine aGf (n:=n+14) hy m13 (by unfold CQ;rw [List.length_zipWith,hdl];omega) (show 0<18446744073709551616 by decide) fun t3 S14 ht3 AM aHC=>?_;have aHD:=aEC.trans AM;rw [lp aHD,sm];have d14:bE S13 (del S14 t3):=Cz AM ht3;refine Pb (n:=n) hM hy (((m11.nv.up ND).up uU).up d14) Ya rfl aHC fun f2 r2 hf2 hr2 O7 O8=>?_;have Lj:=aEC.trans d14;rw [iD (v:= .list O7 (Lb f2 r2 (tN two)) (tN two)) rfl,iD (v:= .list O8 (pM (dW f2 r2)) (dW f2 r2).length) rfl,iD (v:=ni 0) rfl];have aGg:=d14 _ _ (uU _ _ aGe);generalize del S14 t3=S15 at d14 Lj aGg;have eE:∀{k:V->Prop},aG PP .eql 61 (ni 0) (.int .i64 (.ofNat 0)) k=k (.bool true):=fun {k}=>by rw [ED];rfl
 have eO:∀{k:V->Prop},aV (.own o 0 (iH two tk).length (iH two tk).length) k=k (ni (iH two tk).length):=rfl;have eL:∀{O:Tag} {cs:List Dt} {m:Nat} {k:V->Prop},aV (.list O cs m) k=k (ni m):=rfl;simp only [aF,eE,aI,gR,eO,eL,aN];rw [l6 Lj,aX (by omega),ED,decide_eq_true hll];simp only [aI,gR,eL];rw [l5 Lj,ED,decide_eq_true rfl];simp only [aI,gR,eL];rw [l5 Lj,ED,decide_eq_true rfl];simp only [vZ,l5 Lj,l6 Lj,bO];refine aJ ?_;rw [hll];exact hK S15 o f r' f2 r2 (leS.trans Lj) aGg hf hr' hf2 hr2 _ _ _ _
end
set_option maxRecDepth 4000
def aGh (two:Bool) (A B C D:Int) (S:Nat) (tk:List Nat):Prop:=
 ∀f r f2 r2,f=Oy (tT two) (EE A B) (Uf two [] (BitVec.ofNat 64 S))->r=Oz (tT two) 2 (Uf two [] (BitVec.ofNat 64 S))->
  f2=Oy (tT two) (EE C D) (Uf two (CQ two (iH two tk) (EG A B C D) (drawn (2*(2*tT two+1)) [] (BitVec.ofNat 64 S))) 0)->r2=Oz (tT two) 2 (Uf two (CQ two (iH two tk) (EG A B C D) (drawn (2*(2*tT two+1)) [] (BitVec.ofNat 64 S))) 0)->
  dW f r=dW f2 r2/\∀i,1<=i->i<=tN two->(i∈tk->oQ f r i=oQ f2 r2 i)/\oQ f2 r2 i=Cw (iA 19) (ev 23 (iH two tk) i) (oQ f r i) (EG A B C D)
theorem Ye{f r:List (List Nat)}{X:Nat}:∀p∈oQ f r X,b64 p.1/\b64 p.2:=by
 intro p hp;obtain⟨i,hi⟩:=List.getElem?_of_mem hp;unfold oQ at hi;rw [List.getElem?_zipWith]at hi;split at hi
 ·injection hi with hi;subst hi;exact⟨Pj 23 q23 _ _,Pj 23 q23 _ _⟩
 ·cases hi
theorem Yf{f r:List (List Nat)}{N i:Nat} (h:i<N):(Lb f r N)[i]? =some (.list (PF (oQ f r (i+1))) (oQ f r (i+1)).length):=by
 unfold Lb;rw [List.getElem?_map,List.getElem?_range h];rfl
section
variable{M n:Nat}{x:VE}{Sz:Hp}{K:KV}{two:Bool}
end
set_option maxRecDepth 4000
theorem Pn:iA 19=17:=by decide
theorem ZO:∀s,s<23->∀b,b<23->com s b=com ((s+19*b)%23) 0:=by decide+kernel
theorem yK (a b:Nat):dD a b<23:=Nat.mod_lt _ (by decide)
theorem VO (d l:Nat):iN 17 d l=374*d*l%23:=by
 unfold iN lC;rw [Nat.mul_assoc 374 d l];omega
theorem Yh{f r:Nat} (d l:Nat) (hf:f<23) (hr:r<23):com f r=com (dD f (kR d l)) (dD r (iN 17 d l)):=by
 rw [ZO f hf r hr,ZO _ (yK _ _) _ (yK _ _),VO]
 congr 1
 unfold dD kR;rw [Nat.mul_assoc 374 d l];omega
theorem IM (a:Nat) (l:List Nat) (X:Nat):ev 23 (a::l) X=(ev 23 l X*X+a)%23:=by
 show(ev 23 l X*X%23%23+a%23)%23=_;omega
theorem PM (a X:Nat):a%23*X%23=a*X%23:=Nat.mod_mul_mod a X 23
theorem Db:∀(f g:List Nat) (X:Nat),f.length=g.length->ev 23 (List.zipWith dD f g) X=dD (ev 23 f X) (ev 23 g X):=by
 intro f;induction f with
 | nil=>intro g X h;cases g with | nil=>rfl | cons b g=>cases h
 | cons a f ih=>
  intro g X h;cases g with
  | nil=>cases h
  | cons b g=>
   rw [List.zipWith_cons_cons,IM,IM,IM,ih g X (by simpa using h)]
   have e:dD (ev 23 f X) (ev 23 g X)*X%23=(ev 23 f X*X+ev 23 g X*X)%23:=by
    unfold dD;rw [PM,<-Nat.add_mul,<-PM,Nat.mod_add_mod,Nat.add_mod_mod,PM]
   unfold dD at e ⊢;generalize (ev 23 f X%23+ev 23 g X%23)%23*X=A at e;omega
theorem NN (d:Nat):∀(l:List Nat) (X:Nat),ev 23 (l.map fun c=>d*c%23) X=d*ev 23 l X%23:=by
 intro l X;induction l with
 | nil=>rfl
 | cons a l ih=>
  rw [List.map_cons,IM,IM,ih];have e1:d*ev 23 l X%23*X%23=d*(ev 23 l X*X)%23:=by rw [PM,Nat.mul_assoc]
  have e2:d*((ev 23 l X*X+a)%23)%23=(d*(ev 23 l X*X)+d*a)%23:=by rw [Nat.mul_comm,PM,Nat.mul_comm,Nat.mul_add]
  rw [e2];generalize d*ev 23 l X%23*X=A at e1;omega
theorem aGi (d:Nat) (l:List Nat) (X:Nat):ev 23 (l.map (kR d)) X=d*ev 23 l X%23:=NN d l X
theorem aGj (d:Nat) (l:List Nat) (X:Nat):ev 23 (l.map (iN 17 d)) X=374*d*ev 23 l X%23:=by
 rw [show iN 17 d=fun c=>374*d*c%23 from funext fun c=>VO d c];exact NN _ l X
theorem VP (l:List Nat) (X:Nat):ev 23 l X<23:=by cases l with | nil=>show 0<23;decide | cons a l=>rw [IM];exact Nat.mod_lt _ (by decide)
theorem Yi{f r l:List Nat} (d X:Nat) (hf:f.length=l.length) (hr:r.length=l.length):
 (ev 23 (List.zipWith dD f (l.map (kR d))) X,ev 23 (List.zipWith dD r (l.map (iN 17 d))) X)=(dD (ev 23 f X) (d*ev 23 l X%23),lC (ev 23 r X) (d*ev 23 l X%23*17%23) 23):=by
 rw [Db _ _ _ (by simpa using hf),Db _ _ _ (by simpa using hr),aGi,aGj]
 congr 1
 unfold dD lC;rw [Nat.mul_assoc 374 d];omega
theorem Dc{f r l:List Nat} (d:Nat):f.length=l.length->r.length=l.length->(∀c∈f,c<23)->(∀c∈r,c<23)->jX f r=jX (List.zipWith dD f (l.map (kR d))) (List.zipWith dD r (l.map (iN 17 d))):=by
 induction l generalizing f r with
 | nil=>intro h1 h2 _ _;cases f with | nil=>rfl | cons a f=>cases h1
 | cons a l ih=>
  intro h1 h2 h3 h4
  match f,r,h1,h2,h3,h4 with
  | b::f,c::r,h1,h2,h3,h4=>
   show com b c::jX f r=com _ _::jX _ _;rw [<-Yh d a (h3 b List.mem_cons_self) (h4 c List.mem_cons_self),ih (by simpa using h1) (by simpa using h2) (fun c hc=>h3 c (List.mem_cons_of_mem _ hc)) (fun c hc=>h4 c (List.mem_cons_of_mem _ hc))]
theorem ZP:∀(l:List Nat) (s:BitVec 64),(∀c∈l,c<23)->drawn l.length l s=l:=by
 intro l;induction l with
 | nil=>intro s _;rfl
 | cons a l ih=>
  intro s h;show a%23::drawn l.length l s=_;rw [ih s (fun c hc=>h c (List.mem_cons_of_mem _ hc)),Nat.mod_eq_of_lt (h a List.mem_cons_self)]
def aED:List (List Nat):=[]::(List.range 4).map fun i=>[i+1]
def aEE:List (List Nat):=[]::((List.range 7).map fun i=>[i+1])++(List.range 7).flatMap fun i=>(List.range 7).map fun j=>[i+1,j+1]
def VQ (two:Bool) (tk:List Nat):Bool:=(iH two tk).length=tT two+1&&(iH two tk)[0]? =some 1&&tk.all fun c=>ev 23 (iH two tk) c=0
theorem aEF:aED.all (VQ false)=true:=by decide+kernel
theorem aEG:aEE.all (VQ true)=true:=by decide+kernel
theorem Po{two:Bool}{tk:List Nat} (h1:tk.length<=tT two) (h2:∀c∈tk,1<=c/\c<=tN two):VQ two tk=true:=by
 cases two with
 | false=>
  have h1:tk.length<=1:=h1;refine List.all_eq_true.1 aEF tk ?_
  match tk,h1,h2 with
  | [],_,_=>exact List.mem_cons_self
  | [a],_,h2=>
   have h:=h2 a List.mem_cons_self;have hb:a<=4:=h.2;refine List.mem_cons_of_mem _ (List.mem_map.2 ⟨a-1,List.mem_range.2 (by omega),by rw [Nat.sub_add_cancel h.1]⟩)
 | true=>
  have h1:tk.length<=2:=h1;refine List.all_eq_true.1 aEG tk ?_
  match tk,h1,h2 with
  | [],_,_=>exact List.mem_cons_self
  | [a],_,h2=>
   have h:=h2 a List.mem_cons_self;have hb:a<=7:=h.2;exact List.mem_cons_of_mem _ (List.mem_append.2 (.inl (List.mem_map.2 ⟨a-1,List.mem_range.2 (by omega),by rw [Nat.sub_add_cancel h.1]⟩)))
  | [a,b],_,h2=>
   have h:=h2 a List.mem_cons_self;have h':=h2 b (List.mem_cons_of_mem _ List.mem_cons_self);have hb:a<=7:=h.2;have hb':b<=7:=h'.2;exact List.mem_cons_of_mem _ (List.mem_append.2 (.inr (List.mem_flatMap.2 ⟨a-1,List.mem_range.2 (by omega),List.mem_map.2 ⟨b-1,List.mem_range.2 (by omega),by rw [Nat.sub_add_cancel h.1,Nat.sub_add_cancel h'.1]⟩⟩)))
theorem Hs{tk line f0 f1 r0 r1:List Nat}{d0 d1 N:Nat} (hf0:f0.length=line.length) (hf1:f1.length=line.length) (hr0:r0.length=line.length) (hr1:r1.length=line.length)
 (h1:∀c∈f0,c<23) (h2:∀c∈f1,c<23) (h3:∀c∈r0,c<23) (h4:∀c∈r1,c<23) (hz:∀c∈tk,ev 23 line c=0) {f r f2 r2:List (List Nat)} (ef:f=[f0,f1]) (er:r=[r0,r1])
 (ef2:f2=[List.zipWith dD f0 (line.map (kR d0)),List.zipWith dD f1 (line.map (kR d1))]) (er2:r2=[List.zipWith dD r0 (line.map (iN 17 d0)),List.zipWith dD r1 (line.map (iN 17 d1))]):
 dW f r=dW f2 r2/\∀i,1<=i->i<=N->(i∈tk->oQ f r i=oQ f2 r2 i)/\oQ f2 r2 i=Cw (iA 19) (ev 23 line i) (oQ f r i) [d0,d1]:=by
 subst ef er ef2 er2;refine⟨?_,fun i _ _=>?_⟩
 ·show [jX f0 r0,jX f1 r1]=[jX _ _,jX _ _]
  rw [<-Dc d0 hf0 hr0 h1 h3,<-Dc d1 hf1 hr1 h2 h4]
 ·have e:oQ [List.zipWith dD f0 (line.map (kR d0)),List.zipWith dD f1 (line.map (kR d1))] [List.zipWith dD r0 (line.map (iN 17 d0)),List.zipWith dD r1 (line.map (iN 17 d1))] i=Cw (iA 19) (ev 23 line i) (oQ [f0,f1] [r0,r1] i) [d0,d1]:=by
   show [(_,_),(_,_)]=[(_,_),(_,_)];rw [Yi d0 i hf0 hr0,Yi d1 i hf1 hr1,Pn]
  refine⟨fun hi=>?_,e⟩;rw [e,hz i hi,Pn];show [(_,_),(_,_)]=[(_,_),(_,_)]
  have z:∀l:List Nat,∀d:Nat,dD (ev 23 l i) (d*0%23)=ev 23 l i:=fun l d=>by
   have:=VP l i;unfold dD;omega
  have z2:∀l:List Nat,∀d:Nat,lC (ev 23 l i) (d*0%23*17%23) 23=ev 23 l i:=fun l d=>by
   have:=VP l i;unfold lC;rw [Nat.mul_zero];omega
  rw [z,z,z2,z2]
theorem NO (a c:Nat):c%23=dD (a%23) (kR (lC c a 23) 1):=by unfold dD kR lC;omega
theorem aEH{two:Bool}{A B C D:Int}{S:Nat}{tk:List Nat} (h1:tk.length<=tT two) (h2:∀c∈tk,1<=c/\c<=tN two):aGh two A B C D S tk:=by
 intro f r f2 r2 ef er ef2 er2;have hl:=Po h1 h2;unfold VQ at hl;simp only [Bool.and_eq_true,decide_eq_true_eq,List.all_eq_true]at hl;obtain⟨⟨hl1,hl2⟩,hl3⟩:=hl;generalize iH two tk=line at*;have hD:(drawn (2*(2*tT two+1)) [] (BitVec.ofNat 64 S)).length=2*(2*tT two+1):=mZ _ _ _;have hL:=zM (2*(2*tT two+1)) [] (BitVec.ofNat 64 S);have e1:Uf two [] (BitVec.ofNat 64 S)=drawn (2*(2*tT two+1)) [] (BitVec.ofNat 64 S):=by unfold Uf;rw [show(tT two+(1+tT two))*2=2*(2*tT two+1)by omega]
 rw [e1]at ef er;clear e1
 have hz:∀xs ys:List Nat,∀c∈List.zipWith dD xs ys,c<23:=fun xs ys c hc=>by
  obtain⟨i,hi⟩:=List.getElem?_of_mem hc;rw [List.getElem?_zipWith]at hi;split at hi
  ·injection hi with hi;subst hi;exact yK _ _
  ·cases hi
 have e2:∀s,Uf two (CQ two line (EG A B C D) (drawn (2*(2*tT two+1)) [] (BitVec.ofNat 64 S))) s=CQ two line (EG A B C D) (drawn (2*(2*tT two+1)) [] (BitVec.ofNat 64 S)):=fun s=>by
  have hll:(CQ two line (EG A B C D) (drawn (2*(2*tT two+1)) [] (BitVec.ofNat 64 S))).length=2*(2*tT two+1):=by
   unfold CQ;rw [List.length_zipWith,ZI,hl1,hD,show(EG A B C D).length=2 from rfl];omega
  unfold Uf;rw [show(tT two+(1+tT two))*2=2*(2*tT two+1)by omega];have h:=ZP (CQ two line (EG A B C D) (drawn (2*(2*tT two+1)) [] (BitVec.ofNat 64 S))) s (hz _ _);rw [hll]at h;exact h
 rw [e2]at ef2 er2;clear e2;generalize drawn (2*(2*tT two+1)) [] (BitVec.ofNat 64 S)=DD at*;unfold CQ at ef2 er2;rw [Pn]at ef2 er2;unfold EG EE at*;generalize NF A=a at*;generalize NF B=b at*;generalize NF C=c at*;generalize NF D=d at*;cases two with
 | false=>
  have hl1:line.length=1+1:=hl1;have hD:DD.length=6:=hD
  match line,hl1,hl2,hl3,DD,hD,hL with
  | [l0,l1],_,hl2,hl3,[x0,x1,x2,x3,x4,x5],_,hL=>
   injection hl2 with hl2;subst hl2;have hx:∀c∈[x0,x1,x2,x3,x4,x5],c<23:=hL;simp only [List.mem_cons,List.not_mem_nil,or_false,forall_eq_or_imp,forall_eq]at hx;obtain⟨y0,y1,y2,y3,y4,y5⟩:=hx;refine Hs (line:=[1,l1]) (f0:=[a%23,x0]) (f1:=[b%23,x3]) (r0:=[x1%23,x2]) (r1:=[x4%23,x5]) rfl rfl rfl rfl ?_ ?_ ?_ ?_ hl3 ef er ?_ ?_
   ·simp only [List.mem_cons,List.not_mem_nil,or_false,forall_eq_or_imp,forall_eq];omega
   ·simp only [List.mem_cons,List.not_mem_nil,or_false,forall_eq_or_imp,forall_eq];omega
   ·simp only [List.mem_cons,List.not_mem_nil,or_false,forall_eq_or_imp,forall_eq];omega
   ·simp only [List.mem_cons,List.not_mem_nil,or_false,forall_eq_or_imp,forall_eq];omega
   ·rw [ef2]
    show [[c%23,_],[d%23,_]]=[[_,_],[_,_]];rw [<-NO,<-NO]
   ·rw [er2]
    show [[dD x1 (iN 17 (lC c a 23) 1)%23,_],[dD x4 (iN 17 (lC d b 23) 1)%23,_]]=[[_,_],[_,_]];rw [Nat.mod_eq_of_lt (yK _ _),Nat.mod_eq_of_lt (yK _ _),Nat.mod_eq_of_lt y1,Nat.mod_eq_of_lt y4]
 | true=>
  have hl1:line.length=2+1:=hl1;have hD:DD.length=10:=hD
  match line,hl1,hl2,hl3,DD,hD,hL with
  | [l0,l1,l2],_,hl2,hl3,[x0,x1,x2,x3,x4,x5,x6,x7,x8,x9],_,hL=>
   injection hl2 with hl2;subst hl2;have hx:∀c∈[x0,x1,x2,x3,x4,x5,x6,x7,x8,x9],c<23:=hL;simp only [List.mem_cons,List.not_mem_nil,or_false,forall_eq_or_imp,forall_eq]at hx;obtain⟨y0,y1,y2,y3,y4,y5,y6,y7,y8,y9⟩:=hx;refine Hs (line:=[1,l1,l2]) (f0:=[a%23,x0,x1]) (f1:=[b%23,x5,x6]) (r0:=[x2%23,x3,x4]) (r1:=[x7%23,x8,x9]) rfl rfl rfl rfl ?_ ?_ ?_ ?_ hl3 ef er ?_ ?_
   ·simp only [List.mem_cons,List.not_mem_nil,or_false,forall_eq_or_imp,forall_eq];omega
   ·simp only [List.mem_cons,List.not_mem_nil,or_false,forall_eq_or_imp,forall_eq];omega
   ·simp only [List.mem_cons,List.not_mem_nil,or_false,forall_eq_or_imp,forall_eq];omega
   ·simp only [List.mem_cons,List.not_mem_nil,or_false,forall_eq_or_imp,forall_eq];omega
   ·rw [ef2]
    show [[c%23,_,_],[d%23,_,_]]=[[_,_,_],[_,_,_]];rw [<-NO,<-NO]
   ·rw [er2]
    show [[dD x2 (iN 17 (lC c a 23) 1)%23,_,_],[dD x7 (iN 17 (lC d b 23) 1)%23,_,_]]=[[_,_,_],[_,_,_]];rw [Nat.mod_eq_of_lt (yK _ _),Nat.mod_eq_of_lt (yK _ _),Nat.mod_eq_of_lt y2,Nat.mod_eq_of_lt y7]
end Go.Am
set_option maxRecDepth 4000
namespace Go.Am
theorem Yg{two:Bool}{l:List Nat}:(zX two l).length<=tT two/\(∀c∈zX two l,1<=c/\c<=tN two)/\(zX two l).Nodup:=Xy (by cases two<;>decide) l [] (Nat.zero_le _) (fun c h=>by cases h) .nil
section
variable{M n:Nat}{x:VE}{Sz:Hp}{K:KV}{two:Bool}
end
end Go.Am
set_option maxRecDepth 100000
namespace Go.Am
open Go.RowKit Go.MapKept Go.Proofs
section
variable{Sz:St}{C:Nat->Prop}
theorem Zb{it:It}{v:Value}{es:List (List D)} (h:Rd Sz C (.list [it]) v (.l es)){α:Type} (f:α->Dt) (g:α->Prop) (hf:∀(v:Value) (d:D),Rd Sz C it v d->∃a,RE Sz C (f a) v/\g a):∃l:List α,RE Sz C (.list (l.map f) l.length) v/\(∀a∈l,g a)/\l.length<=140737488355328:=by
 cases h with
 | empty=>exact⟨[],.nil,(fun a h=>by cases h),Nat.zero_le _⟩
 | Bp=>exact⟨[],.emp,(fun a h=>by cases h),Nat.zero_le _⟩
 | @row _ b o n c sp vs e ck es hsp hb hC ho hw hn hl hd hN hnc hr=>
  have each:∀k:Nat,k<n->∃a:α,(∀v,vs[o+k]? =some v->RE Sz C (f a) v)/\g a:=by
   intro k hk;have hk1:k<es.length:=by omega
   have hlen:=hd es[k] (List.getElem_mem hk1);simp only [List.length_cons,List.length_nil]at hlen hl;have hv:vs[o+k]? =some (vs[o+k]'(by omega)):=List.getElem?_eq_getElem _;obtain⟨d,hd0⟩:∃d,(es[k])[0]? =some d:=⟨(es[k])[0]'(by omega),List.getElem?_eq_getElem (by omega)⟩;obtain⟨a,h1,h2⟩:=hf _ d (hr k es[k] 0 it (vs[o+k]'(by omega)) d (List.getElem?_eq_getElem hk1) rfl (by simp) hd0);exact⟨a,fun v e=>by rw [hv]at e;injection e with e;subst e;exact h1,h2⟩
  rcases Nat.eq_zero_or_pos n with h0 | h0
  ·subst h0
   exact⟨[],.row hsp hb hC ho (by simp;simp at hl;omega) hnc (fun j d v e=>by simp at e),(fun a h=>by cases h),Nat.zero_le _⟩
  ·obtain⟨a0,_⟩:=each 0 h0
   let F:Nat->α:=fun k=>if h:k<n then(each k h).choose else a0
   have hF:∀k,k<n->(∀v,vs[o+k]? =some v->RE Sz C (f (F k)) v)/\g (F k):=fun k h=>by
    show(∀v,vs[o+k]? =some v->RE Sz C (f (if h:k<n then(each k h).choose else a0)) v)/\g (if h:k<n then(each k h).choose else a0);rw [dif_pos h];exact(each k h).choose_spec
   refine⟨(List.range n).map F,?_,fun a ha=>?_,by simpa using hN⟩
   ·have:RE Sz C (.list (((List.range n).map F).map f) n) (.slice (some ⟨b,o,sp⟩) n c):=by
     refine .row hsp hb hC ho (by simp at hl ⊢;omega) hnc fun j d v e1 e2=>?_;rw [List.map_map,List.getElem?_map]at e1;cases hj:(List.range n)[j]? with
     | none=>rw [hj]at e1;cases e1
     | some q=>
      rw [hj]at e1;injection e1 with e1;have hjn:j<n:=by have:=(List.getElem?_eq_some_iff.1 hj).1;simpa using this
      rw [List.getElem?_range hjn]at hj;injection hj with hj;subst hj e1;exact(hF j hjn).1 v e2
    simpa using this
   ·obtain⟨k,hk,rfl⟩:=List.mem_map.1 ha
    exact(hF k (by simpa using hk)).2
theorem aEK{v:Value}{d:D} (h:Rd Sz C (.list [.kind]) v d):∃l:List Nat,RE Sz C (.list (Li l) l.length) v/\(∀b∈l,b<256)/\l.length<=140737488355328:=by
 have:∃es,d= .l es:=by cases h<;>exact⟨_,rfl⟩
 obtain⟨es,rfl⟩:=this;exact Zb h (fun b:Nat=>Dt.int .u8 (.ofNat b)) (fun b=>b<256) fun v d q=>by cases q with | @kind z h=>exact⟨z,.int,h⟩
end
def c0 (ws:List Value) (n:Nat):Cx:=⟨fun _=>none,fun _ _=>none,fun k=>ws[k]?,n⟩
theorem Zc (P:Program) (Sz:St) (ws:List Value):VS P (fun _=>False) Sz (c0 ws Sz.n) (fun _=>none) Sz:=by
 refine⟨.refl Sz,fun b h=>h.elim,(fun i o e _=>by cases e),(fun i vs t n e=>by cases e),fun i j b l _=>?_,(fun i n w e=>by cases e),⟨0,fun i _=>⟨rfl,rfl,fun n=>rfl⟩⟩,⟨ws.length,fun k hk=>List.getElem?_eq_none hk⟩,(fun i vs t n m b e=>by cases e),(fun i vs t n b w e o e1=>by cases e1)⟩;rcases l with ⟨o,e,_⟩ | ⟨vs,t,n,m,e,_⟩<;>cases e
theorem Sy{ws:List Value}{n b:Nat}:¬cJ (fun _=>False) (c0 ws n) (fun _=>none) b:=by
 rintro(h | ⟨i,⟨o,e,_⟩ | ⟨vs,t,n,m,e,_⟩⟩)
 ·exact h
 ·cases e
 ·cases e
theorem Hy{ws:List Value} (Sz:St):vG (fun _=>False) Sz Sz (cJ (fun _=>False) (c0 ws Sz.n) (fun _=>none)):=⟨Nat.le_refl _,fun _ _ _=>rfl,fun b hb=>(Sy hb).elim⟩
theorem Lay.none{P:Program}{w:World} (hsz:P.globals.size<=w.heap.size):Lay P w (Rn.globals P.globals.size) (St.none P.globals.size):=by
 refine⟨Rel.none hsz,fun i o h=>?_⟩;have:(St.none P.globals.size).obj i=Option.none:=rfl;rw [this]at h;cases h
def aCg:V->Prop
 | .bool b=>b=true
 | _=>False
theorem Pq{H:Type}{enc:TypeId×Value->H}{W:World}{t:TypeId} (ht:Ke PP 8 t=some [.list [.kind]]){v:Value}{d:DataW H}{p:List MemPlace} (hc:v.cells= #[v]) (h:DataW.Trod enc PP W 0 (fun _=>true) true t v d p) (hz:∀b off,MemPlace.cell b off∈p->W.frozen? ⟨b,off,none⟩=false) (hw:∀x∈d.weights PP t,x<=reachBytes)
 {U:Rn} {Sz:St} (hl:Lay PP W U Sz):∃U' S' u l,Ext U U'/\Lay PP W U' S'/\DW Sz S'/\VR U' u v/\RE S' (fun _=>False) (.list (Li l) l.length) u/\(∀b∈l,b<256)/\l.length<=140737488355328:=by
 obtain⟨F,hF⟩:=h;obtain⟨U',S',vs,ds,e1,l1,x1,hvs,hr⟩:=lay (P:=PP) (w:=W) (fun _=>true) (fun _=>rfl) F 8 t v.cells.toList d p hF hz hw [.list [.kind]] ht U Sz hl;rw [hc]at hvs;have hlen:vs.length=1:=hr.len
 match vs,hlen,hvs,hr with
 | [u],_,hvs,hr=>
  have hd:ds.length=1:=hr.Ge
  match ds,hd,hr with
  | [d1],_,hr=>
   obtain⟨l,h1,h2⟩:=aEK (hr.rd 0 _ _ _ rfl rfl rfl);exact⟨U',S',u,l,e1,l1,x1,hvs.2 0 u v rfl rfl,h1,h2⟩
theorem Ta{W:World}{U:Rn}{Sz:St} (hsz:PP.globals.size<=W.heap.size) (hg:Laid gs W) (hl:Lay PP W U Sz) (roots:List Value){f:FuncId}{va:List V}{us vs:List Value}{M m:Nat} (ra:iT (c0 roots Sz.n) Sz (cJ (fun _=>False) (c0 roots Sz.n) (fun _=>none)) va us) (hu:gW U us vs)
 (hv:(Dh PP bH gM M m).call f va (fun _=>none) (fun v _=>aCg v)):Calls PP f ⟨vs⟩ W (fun e w'=>e= .returned (.bool true)/\Below W.heap.size W w'):=by
 have hk:=(Zd (P:=PP) (B:=fun _=>False) (Sb:=Sz) (tb:=bH) aD8 M m).call' f (Zc PP Sz roots) ra (K:=fun v _=>isTrue v) (fun c' h' S' v w _ _ _ r hb=>by
  cases r with
  | bool=>exact hb
  | _=>cases hb) hv
 obtain⟨_,hcall⟩:=(Kw (P:=PP) (w0:=W) (tb:=bH) (most:=M) (aBz (w:=W) hsz hg) Cg Cf m).1 f us Sz (fun v _=>isTrue v) U W vs hk hl.1 hu;refine Calls.mono (callsIn_wide.1 hcall) ?_
 rintro e w' ⟨v',rfl,U3,v,S3,hk2,hv,hrel,_⟩
 cases v with
 | bool b=>
  have hb:b=true:=hk2;subst hb;rw [hv.of_flat rfl];exact⟨rfl,hrel.base⟩
 | _=>cases hk2
theorem aDf:Ke PP 8 23=some [.list [.kind]]:=by kernel_rfl
end Go.Am
set_option maxRecDepth 4000
namespace Go.Am
inductive GL (el:TypeId) (S0 Sz:Hp):V->List Dt->Prop
 | nil:GL el S0 Sz .nil []
 | acc {i:Nat} {vs:List V} {ds:List Dt} (h0:S0 i=none) (h:Sz i=some (.dF vs el ds.length)) (hl:vs.length=ds.length) (hv:∀(j:Nat) (d:Dt),ds[j]? =some d->∃t,vs[j]? =some (T t d)):GL el S0 Sz (.acc i ds.length) ds
theorem aGt (t:Tag) (d:Dt):jK (T t d)=true:=by cases d<;>rfl
theorem aCh{t:Tag}{d:Dt}{p:List V->Prop}:oY (T t d) p=p [T t d]:=by cases d<;>rfl
theorem aGu{S0 Sz:Hp} (t:Tag) (d:Dt):QV S0 Sz (T t d) d:=by cases d<;>constructor
section
variable{el:TypeId}{S0 Sz S':Hp}{v:V}{ds:List Dt}
theorem GL.len (h:GL el S0 Sz v ds){K:V->Prop}:aV v K=K (ni ds.length):=by cases h<;>rfl
theorem GL.one (h:GL el S0 Sz v ds):jK v=true:=by cases h<;>rfl
theorem GL.same (h:GL el S0 Sz v ds):uP v=true:=by cases h<;>rfl
theorem GL.up (h:GL el S0 Sz v ds) (hle:bE Sz S'):GL el S0 S' v ds:=by
 cases h with
 | nil=>exact .nil
 | acc h0 h hl hv=>exact .acc h0 (hle _ _ h) hl hv
theorem GL.base{S1:Hp} (h:GL el S1 Sz v ds) (hle:bE S0 S1):GL el S0 Sz v ds:=by
 cases h with
 | nil=>exact .nil
 | acc h0 h hl hv=>exact .acc (hle.none h0) h hl hv
theorem GL.at (h:GL el S0 Sz v ds){i:Nat}{d:Dt} (hi:ds[i]? =some d):∃p t,(∀(j:IntKind) (K:V->Prop),bY 1 v (.int j (.ofNat i)) K=K p)/\(∀S',bE Sz S'->∀K:KV,aS p S' K=K (T t d) S'):=by
 have hlt:i<ds.length:=(List.getElem?_eq_some_iff.1 hi).1;cases h with
 | nil=>cases hi
 | @acc b vs _ h0 h hl hv=>
  obtain⟨t,a⟩:=hv i d hi;refine⟨.lX b ds.length (i*1),t,fun j K=>wX hlt,fun S' hle K=>?_⟩;rw [Nat.mul_one];unfold aS;simp only [hle _ _ h,bR a,true_and]
theorem GL.Ox (h:GL el S0 Sz v ds):QV S0 Sz v (.list ds ds.length):=by
 cases h with
 | nil=>exact .nil
 | acc h0 h hl hv=>
  refine .acc h h0 hl fun j v d x1 x2=>?_;obtain⟨t,q⟩:=hv j d x2;rw [x1]at q;injection q with q;subst q;exact aGu t d
theorem GL.set (h:GL el S0 Sz v ds){i:Nat}{o p:Ob} (hi:Sz i=some p) (h1:∀vs m,p≠ .dF vs el m):GL el S0 (upd Sz i o) v ds:=by
 cases h with
 | nil=>exact .nil
 | acc h0 h hl hv=>exact .acc h0 (by rw [aB (fun c=>by rw [c,hi]at h;injection h with h;exact h1 _ _ h)];exact h) hl hv
theorem GL.but (h:GL el S0 Sz v ds) (hs:∀j vs m,Sz j=some (.dF vs el m)->S' j=some (.dF vs el m)):GL el S0 S' v ds:=by
 cases h with
 | nil=>exact .nil
 | acc h0 h hl hv=>exact .acc h0 (hs _ _ _ h) hl hv
theorem GL.keep{w:V}{es:List Dt}{e2:TypeId} (h:GL e2 S0 Sz w es) (hp:∀j o,Sz j=some o->(∀m,v≠ .acc j m)->S' j=some o) (ha:∀j m m',w= .acc j m->v≠ .acc j m'):GL e2 S0 S' w es:=by
 cases h with
 | nil=>exact .nil
 | acc h0 h hl hv=>exact .acc h0 (hp _ _ h fun m=>ha _ _ m rfl) hl hv
theorem GL.there (h:GL el S0 Sz v ds){j m:Nat} (e:v= .acc j m):∃vs n,Sz j=some (.dF vs el n):=by
 cases h with
 | nil=>cases e
 | acc h0 h hl hv=>injection e with e1 e2;subst e1;exact⟨_,_,h⟩
theorem GL.app (h:GL el S0 Sz v ds) (hs:bE S0 Sz) (hl:ds.length<=1000000){z:Value}{zv:V} (hz:AK [z]=some [zv]){b:Nat} (hb:b<=100){t:Tag}{d:Dt}{K:KV}
 (hk:∀u S',bE S0 S'->(∀j o,Sz j=some o->(∀m,v≠ .acc j m)->S' j=some o)->(∀j m,u= .acc j m->(∃m',v= .acc j m')\/Sz j=none)->GL el S0 S' u (ds++[d])->K u S'):aP el 1 [z] [(0,1,T t d)] Sz fun v2 Sz=>kI el 1 b v v2 Sz K:=by
 unfold aP mY;rw [hz];show jE [(0,1,T t d)] [zv] _;unfold jE;rw [aCh];refine⟨rfl,by simp,?_⟩;unfold jE;intro j hj;have hs1:bE Sz (upd Sz j (.row [T t d] el)):= .aH hj;show kI el 1 b v (.own j 0 1 1) (upd Sz j (.row (splice 0 [T t d] [zv]) el)) K;have e:splice 0 [T t d] [zv]=[T t d]:=rfl;rw [e];refine uO (m:=1) upd_same rfl ?_;refine⟨by simp [aGt],?_⟩;cases h with
 | nil=>
  refine⟨by rw [Nat.zero_add,Nat.one_mul];omega,fun i hi=>?_⟩;have hs2:bE (upd Sz j (.row [T t d] el)) (upd (upd Sz j (.row [T t d] el)) i (.dF [T t d] el 1)):= .aH hi;refine hk _ _ ((hs.trans hs1).trans hs2) (fun q o e _=>hs2 _ _ (hs1 _ _ e)) (fun q m e=> .inr (by injection e with e;subst e;exact hs1.none hi)) (.acc (ds:=[d]) ((hs.trans hs1).none hi) upd_same rfl fun q l' e=>?_)
  match q,e with
  | 0,e=>injection e with e;subst e;exact⟨t,rfl⟩
  | q+1,e=>cases e
 | @acc i vs _ h0 h hl2 hv=>
  have hne:j≠i:=fun e=>by rw [e,h]at hj;cases hj
  have h':upd Sz j (.row [T t d] el) i=some (.dF vs el ds.length):=by rw [aB (Ne.symm hne)];exact h
  simp only [h']
  have hm:(ds.length+(0+1))*(b+1)<=1099511627776:=by
   have:(ds.length+(0+1))*(b+1)<=1000001*101:=Nat.mul_le_mul (by omega) (by omega);omega
  refine⟨trivial,trivial,by omega,hm,?_⟩;have el':ds.length+(0+1)=(ds++[d]).length:=by simp
  rw [el'];have hs2:∀q o,q≠i->Sz q=some o->upd (upd Sz j (.row [T t d] el)) i (.dF (vs++[T t d]) el (ds++[d]).length) q=some o:=fun q o hq e=>by rw [aB hq];exact hs1 _ _ e
  refine hk _ _ (fun q o e=>hs2 q o (fun c=>by rw [c,h0]at e;cases e) (hs _ _ e)) (fun q o e hno=>hs2 q o (fun c=>hno ds.length (by rw [c])) e) (fun q m e=> .inl (by injection e with e;subst e;exact⟨_,rfl⟩)) (.acc h0 upd_same (by simp [hl2]) fun q l' e=>?_);rcases Nat.lt_or_ge q ds.length with hq | hq
  ·rw [List.getElem?_append_left hq]at e
   obtain⟨u,a⟩:=hv q l' e;exact⟨u,by rw [List.getElem?_append_left (by omega)];exact a⟩
  ·have hq':q=ds.length:=by
    have:=(List.getElem?_eq_some_iff.1 e).1;simp at this;omega
   subst hq';simp at e;subst e;exact⟨t,by rw [List.getElem?_append_right (by omega),hl2];simp⟩
end
set_option maxRecDepth 100000
noncomputable def dV (x:VE) (m:Nat) (t30 t32 LM t164 JF:V) (Sz:Hp) (K:KV):Prop:=eT PP bH iK x [.r,.r,.r,.r,.r,.r,.r,.r,.r,.r,.r,.r,.l,.r,.d] m [] [t30,t32,LM,t164,JF] Sz K
noncomputable def cH (x:VE) (m:Nat) (m0:Nat) (t30 t32 t35 t36 LM t164 JF:V) (Sz:Hp) (K:KV):Prop:=eT PP bH iK x [.r,.r,.r,.r,.r,.r,.r,.r,.r,.r,.r,.r,.l,.r,.d,.d,.r,.r,.l,.d,.r,.r,.d] m [m0] [t30,t32,t35,t36,LM,t164,JF] Sz K
noncomputable def AE (x:VE) (a0 a1 a2 a3 a4 a5 a6 a7 a8:V) (Sz:Hp) (K:KV):Prop:=
 x.call uW [a0] Sz fun v0 Sz=>
 eU [(.int .u64 (.ofNat 0)),(.int .u64 (.ofNat 0)),(.int .u64 (.ofNat 0)),(.int .u64 (.ofNat 0)),(.int .i64 (.ofNat 0)),(.int .i64 (.ofNat 0)),(.int .i64 (.ofNat 0)),(.int .i64 (.ofNat 0)),(.int .i64 (.ofNat 0)),(.int .i64 (.ofNat 0)),(.int .i64 (.ofNat 0)),(.int .i64 (.ofNat 0))] 25 Sz fun v1 Sz=>
 rH 12 v1 v0 Sz fun Sz=>
 aV a6 fun v2=>
 aG PP .gtr 3 v2 (.int .i64 (.ofNat 20)) fun v3=>
 aD x.most (aC false v3 (fun k=>k a7 Sz) Sz fun v4 Sz=>
 aD x.most (aC false v3 (fun k=>aV v4 fun v5=>
 k v5 Sz) Sz fun v6 Sz=>
 aD x.most (aC false v3 (fun k=>aG PP .gtr 3 v6 (.int .i64 (.ofNat 20)) fun v7=>
 k v7 Sz) Sz fun v8 Sz=>
 aD x.most (dA v3 (.bool true) v8 fun v9=>
 aD x.most (aC false v9 (fun k=>x.call mB [] Sz fun v10 Sz=>
 k v10 Sz) Sz fun v11 Sz=>
 aD x.most (aC false v9 (fun k=>IP .not v11 fun v12=>
 k v12 Sz) Sz fun v13 Sz=>
 aD x.most (dA v9 (.bool true) v13 fun v14=>
 iG v14 (x.call mB [] Sz fun v15 Sz=>
 bC v15 Sz K) (AL .i64 a8 fun v16=>
 bI 5 v1 fun v17=>
 aS v17 Sz fun v18 Sz=>
 aG PP .rem 3 v16 v18 fun v19=>
 aG PP .add 3 (.int .i64 (.ofNat 1)) v19 fun v20=>
 bF 12 v1 Sz fun v21 Sz=>
 bF 12 v1 Sz fun v22 Sz=>
 x.call mA [a1,a2] Sz fun v23 Sz=>
 bF 12 v1 Sz fun v24 _=>
 aL v24 v22 (bF 12 v1 Sz fun v25 _=>
 aL v25 v21 (x.call mA [a3,a4] Sz fun v26 Sz=>
 bF 12 v1 Sz fun v27 _=>
 aL v27 v22 (bF 12 v1 Sz fun v28 _=>
 aL v28 v21 (x.call lS [v22,a6] Sz fun v29 Sz=>
 bF 12 v1 Sz fun v30 _=>
 aL v30 v21 (x.call wO [v21,v23,v26,a5,v29] Sz fun v31 Sz=>
 tK 0 v31 fun v32=>
 tK 1 v31 fun v33=>
 tK 2 v31 fun v34=>
 tK 3 v31 fun v35=>
 tK 4 v31 fun v36=>
 tK 5 v31 fun v37=>
 IP .not v37 fun v38=>
 iG v38 (bC (.bool false) Sz K) (bF 12 v1 Sz fun v39 Sz=>
 x.call lS [v39,a7] Sz fun v40 Sz=>
 aG PP .add 22 a5 (.int .u64 (.ofNat 7)) fun v41=>
 bI 7 v1 fun v42=>
 aS v42 Sz fun v43 Sz=>
 aG PP .mul 3 (.int .i64 (.ofNat 2)) v43 fun v44=>
 bI 8 v1 fun v45=>
 aS v45 Sz fun v46 Sz=>
 aG PP .add 3 v46 (.int .i64 (.ofNat 1)) fun v47=>
 aG PP .mul 3 v44 v47 fun v48=>
 bI 6 v1 fun v49=>
 aS v49 Sz fun v50 Sz=>
 aG PP .add 3 v50 (.int .i64 (.ofNat 1)) fun v51=>
 bI 6 v1 fun v52=>
 aS v52 Sz fun v53 Sz=>
 aG PP .add 3 v53 (.int .i64 (.ofNat 1)) fun v54=>
 aG PP .mul 3 v51 v54 fun v55=>
 aG PP .sub 3 v55 (.int .i64 (.ofNat 1)) fun v56=>
 aG PP .mul 3 v48 v56 fun v57=>
 bI 1 v1 fun v58=>
 aS v58 Sz fun v59 Sz=>
 x.call sR [v41] Sz fun v60 Sz=>
 aS v58 Sz fun v61 _=>
 aL v61 v59 (aS v52 Sz fun v62 _=>
 aL v62 v53 (aS v49 Sz fun v63 _=>
 aL v63 v50 (aS v45 Sz fun v64 _=>
 aL v64 v46 (aS v42 Sz fun v65 _=>
 aL v65 v43 (x.call jH [v60,v57,v59] Sz fun v66 Sz=>
 aS v52 Sz fun v67 _=>
 aL v67 v53 (aS v49 Sz fun v68 _=>
 aL v68 v50 (aS v45 Sz fun v69 _=>
 aL v69 v46 (aS v42 Sz fun v70 _=>
 aL v70 v43 (bF 12 v1 Sz fun v71 Sz=>
 bF 12 v1 Sz fun v72 Sz=>
 bF 12 v1 Sz fun v73 Sz=>
 x.call mA [a1,a2] Sz fun v74 Sz=>
 bF 12 v1 Sz fun v75 _=>
 aL v75 v73 (bF 12 v1 Sz fun v76 _=>
 aL v76 v72 (bF 12 v1 Sz fun v77 _=>
 aL v77 v71 (x.call mA [a3,a4] Sz fun v78 Sz=>
 bF 12 v1 Sz fun v79 _=>
 aL v79 v73 (bF 12 v1 Sz fun v80 _=>
 aL v80 v72 (bF 12 v1 Sz fun v81 _=>
 aL v81 v71 (x.call lK [v72,v74,v78] Sz fun v82 Sz=>
 bF 12 v1 Sz fun v83 _=>
 aL v83 v73 (bF 12 v1 Sz fun v84 _=>
 aL v84 v71 (x.call kC [v73,v40] Sz fun v85 Sz=>
 bF 12 v1 Sz fun v86 _=>
 aL v86 v71 (x.call sB [v71,(.int .u64 (.ofNat 19)),v82,v20,v36,v85,v66] Sz fun v87 Sz=>
 bF 12 v1 Sz fun v88 Sz=>
 aG PP .sub 3 v20 (.int .i64 (.ofNat 1)) fun v89=>
 bY 1 v32 v89 fun v90=>
 aS v90 Sz fun v91 Sz=>
 bI 5 v1 fun v92=>
 aS v92 Sz fun v93 Sz=>
 aG PP .add 22 a5 (.int .u64 (.ofNat 7)) fun v94=>
 aS v92 Sz fun v95 _=>
 aL v95 v93 (aS v90 Sz fun v96 _=>
 aL v96 v91 (bF 12 v1 Sz fun v97 _=>
 aL v97 v88 ((eU [(.slice none 0 0),(.slice none 0 0),(.slice none 0 0)] 60 Sz fun v98 Sz=>
 True)/\(x.call sR [v94] Sz fun v99 Sz=>
 aS v92 Sz fun aE6 _=>
 aL aE6 v93 (aS v90 Sz fun aE7 _=>
 aL aE7 v91 (bF 12 v1 Sz fun aE8 _=>
 aL aE8 v88 (aS v92 Sz fun aE9 _=>
 aL aE9 v93 (aS v90 Sz fun aFa _=>
 aL aFa v91 (bF 12 v1 Sz fun v105 _=>
 aL v105 v88 ((eU [(.slice none 0 0),(.slice none 0 0),(.slice none 0 0)] 60 Sz fun aG0 Sz=>
 True)/\(x.call kF [v88,v91,v93,v99] Sz fun v107 Sz=>
 tK 0 v107 fun aFb=>
 tK 1 v107 fun v109=>
 (eU [(.slice none 0 0),(.slice none 0 0),(.slice none 0 0)] 60 Sz fun aG1 Sz=>
 True)/\(eU [(.slice none 0 0),(.slice none 0 0),(.slice none 0 0)] 60 Sz fun aA2 Sz=>
 rH 3 aA2 aFb Sz fun Sz=>
 bF 12 v1 Sz fun aCM Sz=>
 aG PP .sub 3 v20 (.int .i64 (.ofNat 1)) fun aHW=>
 bY 1 v33 aHW fun aCN=>
 aS aCN Sz fun aCO Sz=>
 bI 5 v1 fun aCP=>
 aS aCP Sz fun v117 Sz=>
 aS aCP Sz fun aHX _=>
 aL aHX v117 (aS aCN Sz fun aHY _=>
 aL aHY aCO (bF 12 v1 Sz fun aHZ _=>
 aL aHZ aCM ((eU [(.slice none 0 0),(.slice none 0 0),(.slice none 0 0)] 60 Sz fun aIs Sz=>
 True)/\(x.call CU [v87,(.int .u64 (.ofNat 0))] Sz fun aH0 Sz=>
 aS aCP Sz fun aH1 _=>
 aL aH1 v117 (aS aCN Sz fun v124 _=>
 aL v124 aCO (bF 12 v1 Sz fun aH2 _=>
 aL aH2 aCM (aS aCP Sz fun aH3 _=>
 aL aH3 v117 (aS aCN Sz fun v127 _=>
 aL v127 aCO (bF 12 v1 Sz fun aH4 _=>
 aL aH4 aCM ((eU [(.slice none 0 0),(.slice none 0 0),(.slice none 0 0)] 60 Sz fun aIt Sz=>
 True)/\(x.call kF [aCM,aCO,v117,aH0] Sz fun v130 Sz=>
 tK 0 v130 fun v131=>
 tK 1 v130 fun aH5=>
 (eU [(.slice none 0 0),(.slice none 0 0),(.slice none 0 0)] 60 Sz fun aIu Sz=>
 True)/\(eU [(.slice none 0 0),(.slice none 0 0),(.slice none 0 0)] 60 Sz fun aFc Sz=>
 rH 3 aFc v131 Sz fun Sz=>
 aG PP .neq 61 v109 (.int .i64 (.ofNat 0)) fun aFd=>
 aD x.most (aC false aFd (fun k=>k aH5 Sz) Sz fun aH6 Sz=>
 aD x.most (aC false aFd (fun k=>aG PP .neq 61 aH6 (.int .i64 (.ofNat 0)) fun aH7=>
 k aH7 Sz) Sz fun v138 Sz=>
 aD x.most (dA aFd (.bool true) v138 fun v139=>
 aD x.most (aC false v139 (fun k=>bI 0 aA2 fun aH8=>
 k aH8 Sz) Sz fun v141 Sz=>
 aD x.most (aC false v139 (fun k=>aS v141 Sz fun aH9 Sz=>
 k aH9 Sz) Sz fun v143 Sz=>
 aD x.most (aC false v139 (fun k=>bI 0 aFc fun aIa=>
 k aIa Sz) Sz fun v145 Sz=>
 aD x.most (aC false v139 (fun k=>aS v145 Sz fun v146 Sz=>
 k v146 Sz) Sz fun aIb Sz=>
 aD x.most (aC false v139 (fun k=>x.call nL [v143,aIb] Sz fun v148 Sz=>
 k v148 Sz) Sz fun aIc Sz=>
 aD x.most (aC false v139 (fun k=>IP .not aIc fun aId=>
 k aId Sz) Sz fun aIe Sz=>
 aD x.most (dA v139 (.bool true) aIe fun v152=>
 iG v152 (bC (.bool false) Sz K) (aV v40 fun aIf=>
 dV x x.most aA2 aFc v40 aIf (.int .i64 (.ofNat 0)) Sz K)))))))))))))))))))))))))))))))))))))))))))))))))))))))))))))))))))
theorem LE (x:VE) (a0 a1 a2 a3 a4 a5 a6 a7 a8:V) (Sz:Hp) (K:KV):lG PP bH iK x [a0,a1,a2,a3,a4,a5,a6,a7,a8] Sz K=AE x a0 a1 a2 a3 a4 a5 a6 a7 a8 Sz K:=by kernel_rfl
noncomputable def fS (x:VE) (m0:Nat) (t30 t32 LM t164 JF:V) (Sz:Hp) (K:KV):Prop:=
 cT Sz fun Sz=>
 aG PP .lss 3 JF t164 fun v0=>
 iG v0 (bY 1 LM JF fun v1=>
 aS v1 Sz fun v2 Sz=>
 cH x x.most m0 t30 t32 v2 (.int .i64 (.ofNat 0)) LM t164 JF Sz K) (bC (.bool true) Sz K)
theorem kG (x:VE) (m0:Nat) (t30 t32 LM t164 JF:V) (Sz:Hp) (K:KV):dV x (m0+1) t30 t32 LM t164 JF Sz K=fS x m0 t30 t32 LM t164 JF Sz K:=by kernel_rfl
noncomputable def dM (x:VE) (m1:Nat) (m0:Nat) (t30 t32 t35 t36 LM t164 JF:V) (Sz:Hp) (K:KV):Prop:=
 cT Sz fun Sz=>
 bI 1 t30 fun v0=>
 aS v0 Sz fun v1 Sz=>
 aG PP .sub 3 t35 (.int .i64 (.ofNat 1)) fun v2=>
 bY 1 v1 v2 fun v3=>
 aS v3 Sz fun v4 Sz=>
 aV v4 fun v5=>
 aG PP .lss 3 t36 v5 fun v6=>
 iG v6 (bI 1 t30 fun v7=>
 aS v7 Sz fun v8 Sz=>
 aG PP .sub 3 t35 (.int .i64 (.ofNat 1)) fun v9=>
 bY 1 v8 v9 fun v10=>
 aS v10 Sz fun v11 Sz=>
 bY 1 v11 t36 fun v12=>
 aS v12 Sz fun v13 Sz=>
 bI 1 t32 fun v14=>
 aS v14 Sz fun v15 Sz=>
 aG PP .sub 3 t35 (.int .i64 (.ofNat 1)) fun v16=>
 bY 1 v15 v16 fun v17=>
 aS v17 Sz fun v18 Sz=>
 bY 1 v18 t36 fun v19=>
 aS v19 Sz fun v20 Sz=>
 x.call oX [v13,v20] Sz fun v21 Sz=>
 aS v17 Sz fun v22 _=>
 aL v22 v18 (aS v14 Sz fun v23 _=>
 aL v23 v15 (aS v10 Sz fun v24 _=>
 aL v24 v11 (aS v7 Sz fun v25 _=>
 aL v25 v8 (IP .not v21 fun v26=>
 aD x.most (aC false v26 (fun k=>bI 2 t30 fun v27=>
 k v27 Sz) Sz fun v28 Sz=>
 aD x.most (aC false v26 (fun k=>aS v28 Sz fun v29 Sz=>
 k v29 Sz) Sz fun v30 Sz=>
 aD x.most (aC false v26 (fun k=>k t35 Sz) Sz fun v31 Sz=>
 aD x.most (aC false v26 (fun k=>aG PP .sub 3 v31 (.int .i64 (.ofNat 1)) fun v32=>
 k v32 Sz) Sz fun v33 Sz=>
 aD x.most (aC false v26 (fun k=>bY 1 v30 v33 fun v34=>
 k v34 Sz) Sz fun v35 Sz=>
 aD x.most (aC false v26 (fun k=>aS v35 Sz fun v36 Sz=>
 k v36 Sz) Sz fun v37 Sz=>
 aD x.most (aC false v26 (fun k=>k t36 Sz) Sz fun v38 Sz=>
 aD x.most (aC false v26 (fun k=>bY 1 v37 v38 fun v39=>
 k v39 Sz) Sz fun v40 Sz=>
 aD x.most (aC false v26 (fun k=>aS v40 Sz fun v41 Sz=>
 k v41 Sz) Sz fun v42 Sz=>
 aD x.most (aC false v26 (fun k=>bI 2 t32 fun v43=>
 k v43 Sz) Sz fun v44 Sz=>
 aD x.most (aC false v26 (fun k=>aS v44 Sz fun v45 Sz=>
 k v45 Sz) Sz fun v46 Sz=>
 aD x.most (aC false v26 (fun k=>k t35 Sz) Sz fun v47 Sz=>
 aD x.most (aC false v26 (fun k=>aG PP .sub 3 v47 (.int .i64 (.ofNat 1)) fun v48=>
 k v48 Sz) Sz fun v49 Sz=>
 aD x.most (aC false v26 (fun k=>bY 1 v46 v49 fun v50=>
 k v50 Sz) Sz fun v51 Sz=>
 aD x.most (aC false v26 (fun k=>aS v51 Sz fun v52 Sz=>
 k v52 Sz) Sz fun v53 Sz=>
 aD x.most (aC false v26 (fun k=>k t36 Sz) Sz fun v54 Sz=>
 aD x.most (aC false v26 (fun k=>bY 1 v53 v54 fun v55=>
 k v55 Sz) Sz fun v56 Sz=>
 aD x.most (aC false v26 (fun k=>aS v56 Sz fun v57 Sz=>
 k v57 Sz) Sz fun v58 Sz=>
 aD x.most (aC false v26 (fun k=>x.call oX [v42,v58] Sz fun v59 Sz=>
 k v59 Sz) Sz fun v60 Sz=>
 aD x.most (gH false v26 v53 (fun k=>aS v51 Sz fun v61 _=>
 aL v61 v53 k) (aD x.most (gH false v26 v46 (fun k=>aS v44 Sz fun v62 _=>
 aL v62 v46 k) (aD x.most (gH false v26 v37 (fun k=>aS v35 Sz fun v63 _=>
 aL v63 v37 k) (aD x.most (gH false v26 v30 (fun k=>aS v28 Sz fun v64 _=>
 aL v64 v30 k) (aS v17 Sz fun v65 _=>
 aL v65 v18 (aS v14 Sz fun v66 _=>
 aL v66 v15 (aS v10 Sz fun v67 _=>
 aL v67 v11 (aS v7 Sz fun v68 _=>
 aL v68 v8 (aD x.most (aC false v26 (fun k=>IP .not v60 fun v69=>
 k v69 Sz) Sz fun v70 Sz=>
 aD x.most (dA v26 (.bool true) v70 fun v71=>
 iG v71 (bC (.bool false) Sz K) (aG PP .add 3 t36 (.int .i64 (.ofNat 1)) fun v72=>
 cH x m1 m0 t30 t32 t35 v72 LM t164 JF Sz K))))))))))))))))))))))))))))))))))))))) (aG PP .add 3 JF (.int .i64 (.ofNat 1)) fun v73=>
 dV x m0 t30 t32 LM t164 v73 Sz K)
theorem gK (x:VE) (m1:Nat) (m0:Nat) (t30 t32 t35 t36 LM t164 JF:V) (Sz:Hp) (K:KV):cH x (m1+1) m0 t30 t32 t35 t36 LM t164 JF Sz K=dM x m1 m0 t30 t32 t35 t36 LM t164 JF Sz K:=by kernel_rfl
noncomputable def kA (x:VE) (m:Nat) (t5 t6 t7 t15 t17 Ji t71 t72 t73:V) (Sz:Hp) (K:KV):Prop:=eT PP bH sB x [.r,.r,.r,.r,.r,.l,.r,.d] m [] [t5,t6,t7,t15,t17,Ji,t71,t72,t73] Sz K
noncomputable def KF (x:VE) (a0 a1 a2 a3 a4 a5 a6:V) (Sz:Hp) (K:KV):Prop:=
 jO 25 a0 Sz fun v0 Sz=>
 bF 12 v0 Sz fun v1 Sz=>
 x.call xA [v1,a1,a2] Sz fun v2 Sz=>
 tK 0 v2 fun v3=>
 tK 1 v2 fun v4=>
 eU [(.int .u64 (.ofNat 0)),(.int .u64 (.ofNat 0)),(.slice none 0 0)] 86 Sz fun v5 Sz=>
 rH 3 v5 v3 Sz fun Sz=>
 IP .not v4 fun v6=>
 aD x.most (aC false v6 (fun k=>k a3 Sz) Sz fun v7 Sz=>
 aD x.most (aC false v6 (fun k=>aG PP .lss 3 v7 (.int .i64 (.ofNat 1)) fun v8=>
 k v8 Sz) Sz fun v9 Sz=>
 aD x.most (dA v6 (.bool true) v9 fun v10=>
 aD x.most (aC false v10 (fun k=>k a3 Sz) Sz fun v11 Sz=>
 aD x.most (aC false v10 (fun k=>bI 5 v0 fun v12=>
 k v12 Sz) Sz fun v13 Sz=>
 aD x.most (aC false v10 (fun k=>aS v13 Sz fun v14 Sz=>
 k v14 Sz) Sz fun v15 Sz=>
 aD x.most (aC false v10 (fun k=>aG PP .gtr 3 v11 v15 fun v16=>
 k v16 Sz) Sz fun v17 Sz=>
 aD x.most (dA v10 (.bool true) v17 fun v18=>
 aD x.most (aC false v18 (fun k=>k a4 Sz) Sz fun v19 Sz=>
 aD x.most (aC false v18 (fun k=>aV v19 fun v20=>
 k v20 Sz) Sz fun v21 Sz=>
 aD x.most (aC false v18 (fun k=>bI 6 v0 fun v22=>
 k v22 Sz) Sz fun v23 Sz=>
 aD x.most (aC false v18 (fun k=>aS v23 Sz fun v24 Sz=>
 k v24 Sz) Sz fun v25 Sz=>
 aD x.most (aC false v18 (fun k=>aG PP .add 3 v25 (.int .i64 (.ofNat 1)) fun v26=>
 k v26 Sz) Sz fun v27 Sz=>
 aD x.most (aC false v18 (fun k=>aG PP .neq 3 v21 v27 fun v28=>
 k v28 Sz) Sz fun v29 Sz=>
 aD x.most (dA v18 (.bool true) v29 fun v30=>
 aD x.most (aC false v30 (fun k=>k a5 Sz) Sz fun v31 Sz=>
 aD x.most (aC false v30 (fun k=>aV v31 fun v32=>
 k v32 Sz) Sz fun v33 Sz=>
 aD x.most (aC false v30 (fun k=>bI 6 v0 fun v34=>
 k v34 Sz) Sz fun v35 Sz=>
 aD x.most (aC false v30 (fun k=>aS v35 Sz fun v36 Sz=>
 k v36 Sz) Sz fun v37 Sz=>
 aD x.most (aC false v30 (fun k=>aG PP .add 3 v37 (.int .i64 (.ofNat 1)) fun v38=>
 k v38 Sz) Sz fun v39 Sz=>
 aD x.most (aC false v30 (fun k=>aG PP .neq 3 v33 v39 fun v40=>
 k v40 Sz) Sz fun v41 Sz=>
 aD x.most (dA v30 (.bool true) v41 fun v42=>
 aD x.most (aC false v42 (fun k=>k a6 Sz) Sz fun v43 Sz=>
 aD x.most (aC false v42 (fun k=>aV v43 fun v44=>
 k v44 Sz) Sz fun v45 Sz=>
 aD x.most (aC false v42 (fun k=>bF 12 v0 Sz fun v46 Sz=>
 k v46 Sz) Sz fun v47 Sz=>
 aD x.most (aC false v42 (fun k=>x.call yN [v47] Sz fun v48 Sz=>
 k v48 Sz) Sz fun v49 Sz=>
 aD x.most (aC false v42 (fun k=>aG PP .neq 3 v45 v49 fun v50=>
 k v50 Sz) Sz fun v51 Sz=>
 aD x.most (dA v42 (.bool true) v51 fun v52=>
 iG v52 (x.call bP [a6] Sz fun v53 Sz=>
 bC v53 Sz K) (AL .u64 a3 fun v54=>
 bI 1 v0 fun v55=>
 aS v55 Sz fun v56 Sz=>
 x.call lT [a4,v54,v56] Sz fun v57 Sz=>
 aV a5 fun v58=>
 kA x x.most a5 a6 v0 v5 v57 .nil a5 v58 (.int .i64 (.ofNat 0)) Sz K)))))))))))))))))))))))))))))
theorem XW (x:VE) (a0 a1 a2 a3 a4 a5 a6:V) (Sz:Hp) (K:KV):lG PP bH sB x [a0,a1,a2,a3,a4,a5,a6] Sz K=KF x a0 a1 a2 a3 a4 a5 a6 Sz K:=by kernel_rfl
noncomputable def nK (x:VE) (m0:Nat) (t5 t6 t7 t15 t17 Ji t71 t72 t73:V) (Sz:Hp) (K:KV):Prop:=
 cT Sz fun Sz=>
 aG PP .lss 3 t73 t72 fun v0=>
 iG v0 (bY 1 t71 t73 fun v1=>
 aS v1 Sz fun v2 Sz=>
 bI 1 t7 fun v3=>
 aS v3 Sz fun v4 Sz=>
 bI 1 t7 fun v5=>
 aS v5 Sz fun v6 Sz=>
 x.call qY [t5,v2,v4] Sz fun v7 Sz=>
 aS v5 Sz fun v8 _=>
 aL v8 v6 (x.call qY [v7,t17,v6] Sz fun v9 Sz=>
 kI 22 1 8 Ji v9 Sz fun v10 Sz=>
 aG PP .add 3 t73 (.int .i64 (.ofNat 1)) fun v11=>
 kA x m0 t5 t6 t7 t15 t17 v10 t71 t72 v11 Sz K)) (bF 3 t15 Sz fun v12 Sz=>
 bF 3 t15 Sz fun v13 Sz=>
 x.call gC [v13,Ji,(.int .i64 (.ofNat 1)),(.int .i64 (.ofNat 1))] Sz fun v14 Sz=>
 bF 3 t15 Sz fun v15 _=>
 aL v15 v12 (x.call aQ [v12,t6,v14] Sz fun v16 Sz=>
 bC v16 Sz K))
theorem tG (x:VE) (m0:Nat) (t5 t6 t7 t15 t17 Ji t71 t72 t73:V) (Sz:Hp) (K:KV):kA x (m0+1) t5 t6 t7 t15 t17 Ji t71 t72 t73 Sz K=nK x m0 t5 t6 t7 t15 t17 Ji t71 t72 t73 Sz K:=by kernel_rfl
noncomputable def OB (x:VE) (a0:V) (Sz:Hp) (K:KV):Prop:=
 jO 25 a0 Sz fun v0 Sz=>
 bI 7 v0 fun v1=>
 aS v1 Sz fun v2 Sz=>
 aG PP .mul 3 (.int .i64 (.ofNat 2)) v2 fun v3=>
 bI 8 v0 fun v4=>
 aS v4 Sz fun v5 Sz=>
 aG PP .add 3 v5 (.int .i64 (.ofNat 1)) fun v6=>
 aG PP .mul 3 v3 v6 fun v7=>
 bI 6 v0 fun v8=>
 aS v8 Sz fun v9 Sz=>
 aG PP .add 3 v9 (.int .i64 (.ofNat 1)) fun v10=>
 bI 6 v0 fun v11=>
 aS v11 Sz fun v12 Sz=>
 aG PP .add 3 v12 (.int .i64 (.ofNat 1)) fun v13=>
 aG PP .mul 3 v10 v13 fun v14=>
 aG PP .sub 3 v14 (.int .i64 (.ofNat 1)) fun v15=>
 aG PP .mul 3 v7 v15 fun v16=>
 bC v16 Sz K
theorem Dn (x:VE) (a0:V) (Sz:Hp) (K:KV):lG PP bH yN x [a0] Sz K=OB x a0 Sz K:=by kernel_rfl
noncomputable def jR (x:VE) (m:Nat) (t1 t2 t7 t16 t17 Ji:V) (Sz:Hp) (K:KV):Prop:=eT PP bH qY x [.r,.r,.r,.l,.r,.d] m [] [t1,t2,t7,t16,t17,Ji] Sz K
noncomputable def OA (x:VE) (a0 a1 a2:V) (Sz:Hp) (K:KV):Prop:=
 x.call zW [a2] Sz fun v0 Sz=>
 IP .not v0 fun v1=>
 iG v1 (bC .nil Sz K) (aV a0 fun v2=>
 Gy 22 8 [(.int .u64 (.ofNat 0))] v2 v2 Sz fun v3 Sz=>
 aV a0 fun v4=>
 jR x x.most a1 a2 v3 a0 v4 (.int .i64 (.ofNat 0)) Sz K)
theorem Dm (x:VE) (a0 a1 a2:V) (Sz:Hp) (K:KV):lG PP bH qY x [a0,a1,a2] Sz K=OA x a0 a1 a2 Sz K:=by kernel_rfl
noncomputable def qP (x:VE) (m0:Nat) (t1 t2 t7 t16 t17 Ji:V) (Sz:Hp) (K:KV):Prop:=
 cT Sz fun Sz=>
 aG PP .lss 3 Ji t17 fun v0=>
 iG v0 (bY 1 t16 Ji fun v1=>
 aS v1 Sz fun v2 Sz=>
 x.call lH [v2,t1,t2] Sz fun v3 Sz=>
 bY 1 t7 Ji fun v4=>
 rH 1 v4 v3 Sz fun Sz=>
 aG PP .add 3 Ji (.int .i64 (.ofNat 1)) fun v5=>
 jR x m0 t1 t2 t7 t16 t17 v5 Sz K) (bC t7 Sz K)
theorem xK (x:VE) (m0:Nat) (t1 t2 t7 t16 t17 Ji:V) (Sz:Hp) (K:KV):jR x (m0+1) t1 t2 t7 t16 t17 Ji Sz K=qP x m0 t1 t2 t7 t16 t17 Ji Sz K:=by kernel_rfl
noncomputable def iL (x:VE) (m:Nat) (t7 t8 t9 t26 t27:V) (Sz:Hp) (K:KV):Prop:=eT PP bH wC x [.r,.r,.r,.r,.l,.r,.d] m [] [t7,t8,t9,t26,t27] Sz K
noncomputable def VX (x:VE) (a0 a1 a2:V) (Sz:Hp) (K:KV):Prop:=
 jO 25 a0 Sz fun v0 Sz=>
 bI 6 v0 fun v1=>
 aS v1 Sz fun v2 Sz=>
 aG PP .add 3 v2 (.int .i64 (.ofNat 1)) fun v3=>
 aG PP .mul 3 v3 v3 fun v4=>
 aG PP .sub 3 v4 (.int .i64 (.ofNat 1)) fun v5=>
 bI 1 v0 fun v6=>
 aS v6 Sz fun v7 Sz=>
 x.call mC [a1,v5,v7,a2] Sz fun v8 Sz=>
 Gy 32 24 [(.slice none 0 0)] v3 v3 Sz fun v9 Sz=>
 aV v9 fun v10=>
 iL x x.most v3 v8 v9 v10 (.int .i64 (.ofNat 0)) Sz K
theorem Lq (x:VE) (a0 a1 a2:V) (Sz:Hp) (K:KV):lG PP bH wC x [a0,a1,a2] Sz K=VX x a0 a1 a2 Sz K:=by kernel_rfl
noncomputable def rJ (x:VE) (m0:Nat) (t7 t8 t9 t26 t27:V) (Sz:Hp) (K:KV):Prop:=
 cT Sz fun Sz=>
 aG PP .lss 3 t27 t26 fun v0=>
 iG v0 (aG PP .mul 3 t27 t7 fun v1=>
 aG PP .add 3 t27 (.int .i64 (.ofNat 1)) fun v2=>
 aG PP .mul 3 v2 t7 fun v3=>
 aG PP .add 3 t27 (.int .i64 (.ofNat 1)) fun v4=>
 aG PP .mul 3 v4 t7 fun v5=>
 HM 22 1 t8 (some v1) (some v3) (some v5) Sz fun v6=>
 bY 1 t9 t27 fun v7=>
 rH 1 v7 v6 Sz fun Sz=>
 aG PP .add 3 t27 (.int .i64 (.ofNat 1)) fun v8=>
 iL x m0 t7 t8 t9 t26 v8 Sz K) (bC t9 Sz K)
theorem xX (x:VE) (m0:Nat) (t7 t8 t9 t26 t27:V) (Sz:Hp) (K:KV):iL x (m0+1) t7 t8 t9 t26 t27 Sz K=rJ x m0 t7 t8 t9 t26 t27 Sz K:=by kernel_rfl
noncomputable def kU (x:VE) (m:Nat) (t0 t1 t5 t11 t12:V) (Sz:Hp) (K:KV):Prop:=eT PP bH jZ x [.r,.r,.l,.r,.d] m [] [t0,t1,t5,t11,t12] Sz K
noncomputable def NZ (x:VE) (a0 a1:V) (Sz:Hp) (K:KV):Prop:=
 aV a0 fun v0=>
 Gy 73 16 [(.int .u64 (.ofNat 0)),(.int .u64 (.ofNat 0))] v0 v0 Sz fun v1 Sz=>
 aV v1 fun v2=>
 kU x x.most a0 a1 v1 v2 (.int .i64 (.ofNat 0)) Sz K
theorem Dl (x:VE) (a0 a1:V) (Sz:Hp) (K:KV):lG PP bH jZ x [a0,a1] Sz K=NZ x a0 a1 Sz K:=by kernel_rfl
noncomputable def rM (x:VE) (m0:Nat) (t0 t1 t5 t11 t12:V) (Sz:Hp) (K:KV):Prop:=
 cT Sz fun Sz=>
 aG PP .lss 3 t12 t11 fun v0=>
 iG v0 (bY 1 t0 t12 fun v1=>
 aS v1 Sz fun v2 Sz=>
 bY 1 t1 t12 fun v3=>
 aS v3 Sz fun v4 Sz=>
 gQ [(.int .u64 (.ofNat 0)),(.int .u64 (.ofNat 0))] [(0,1,v2),(1,1,v4)] fun v5=>
 bY 2 t5 t12 fun v6=>
 rH 2 v6 v5 Sz fun Sz=>
 aG PP .add 3 t12 (.int .i64 (.ofNat 1)) fun v7=>
 kU x m0 t0 t1 t5 t11 v7 Sz K) (bC t5 Sz K)
theorem xZ (x:VE) (m0:Nat) (t0 t1 t5 t11 t12:V) (Sz:Hp) (K:KV):kU x (m0+1) t0 t1 t5 t11 t12 Sz K=rM x m0 t0 t1 t5 t11 t12 Sz K:=by kernel_rfl
noncomputable def BG (x:VE) (a0 a1 a2:V) (Sz:Hp) (K:KV):Prop:=
 jO 25 a0 Sz fun v0 Sz=>
 eU [(.slice none 0 0)] 57 Sz fun v1 Sz=>
 x.call eG [a1,a2] Sz fun v2 Sz=>
 zT x v2 [3,7] [v0,v1] 23 (tL PP aU [.r,.r,.l,.r,.d]) (tO PP aU [.r,.r,.l,.r,.d]) (qD PP aU [.r,.r,.l,.r,.d]) Sz fun pe Sz=>
 HV pe (aS v1 Sz fun v4 Sz=>
 bC v4 Sz K) (bC .nil Sz K) (fun v3=>OC v3 0 (aS v1 Sz fun v5 Sz=>
 bC v5 Sz K) (False))
theorem NT (x:VE) (a0 a1 a2:V) (Sz:Hp) (K:KV):lG PP bH aU x [a0,a1,a2] Sz K=BG x a0 a1 a2 Sz K:=by kernel_rfl
noncomputable def sA (x:VE) (l:Nat) (t3 t7 a0 a1:V) (Sz:Hp) (K:KV):Prop:=
 KG l Sz fun Sz=>
 aS t7 Sz fun v0 Sz=>
 bF 12 t3 Sz fun v1 Sz=>
 x.call aK [v1,a0,a1] Sz fun v2 Sz=>
 aS t7 Sz fun v3 _=>
 aL v3 v0 (aS t7 Sz fun v4 _=>
 aL v4 v0 ((aP 31 1 [(.slice none 0 0)] [(0,1,v2)] Sz fun v5 Sz=>
 True)/\(aP 31 1 [(.slice none 0 0)] [(0,1,v2)] Sz fun v6 Sz=>
 kI 31 1 24 v0 v6 Sz fun v7 Sz=>
 rH 1 t7 v7 Sz fun Sz=>
 yB l .ready none true Sz K)))
theorem CY (x:VE) (l:Nat) (t3 t7 a0 a1:V) (Sz:Hp) (K:KV):HW PP bH x 23 (tL PP aU [.r,.r,.l,.r,.d]) (tO PP aU [.r,.r,.l,.r,.d]) (qD PP aU [.r,.r,.l,.r,.d]) l [t3,t7] [a0,a1] Sz K=sA x l t3 t7 a0 a1 Sz K:=by kernel_rfl
theorem CX:[3,7]=JP bH 23 (qD PP aU [.r,.r,.l,.r,.d]):=by kernel_rfl
noncomputable def kZ (x:VE) (a0 a1:V) (Sz:Hp) (K:KV):Prop:=
 jO 57 a0 Sz fun v0 Sz=>
 jO 57 a1 Sz fun v1 Sz=>
 bC (.func bV [] [v0,v1]) Sz K
theorem tR (x:VE) (a0 a1:V) (Sz:Hp) (K:KV):lG PP bH eG x [a0,a1] Sz K=kZ x a0 a1 Sz K:=by kernel_rfl
noncomputable def cW (x:VE) (m:Nat) (t0 t1 t2 t9 t10:V) (Sz:Hp) (K:KV):Prop:=eT PP bH bV x [.r,.d] m [] [t0,t1,t2,t9,t10] Sz K
noncomputable def kE (x:VE) (a0 a1 a2:V) (Sz:Hp) (K:KV):Prop:=
 aS a1 Sz fun v0 Sz=>
 aV v0 fun v1=>
 aS a2 Sz fun v2 Sz=>
 aV v2 fun v3=>
 Dg true v1 v3 fun v4=>
 cW x x.most a0 a1 a2 v4 (.int .i64 (.ofNat 0)) Sz K
theorem rZ (x:VE) (a0 a1 a2:V) (Sz:Hp) (K:KV):lG PP bH bV x [a0,a1,a2] Sz K=kE x a0 a1 a2 Sz K:=by kernel_rfl
noncomputable def eV (x:VE) (m0:Nat) (t0 t1 t2 t9 t10:V) (Sz:Hp) (K:KV):Prop:=
 cT Sz fun Sz=>
 aG PP .lss 3 t10 t9 fun v0=>
 iG v0 (aS t1 Sz fun v1 Sz=>
 aS t2 Sz fun v2 Sz=>
 x.call dE [v1,t10] Sz fun v3 Sz=>
 aS t2 Sz fun v4 _=>
 aL v4 v2 (x.call dE [v2,t10] Sz fun v5 Sz=>
 rL x t0 [v3,v5] Sz fun v6 Sz=>
 IP .not v6 fun v7=>
 iG v7 (bC (.tuple []) Sz K) (aG PP .add 3 t10 (.int .i64 (.ofNat 1)) fun v8=>
 cW x m0 t0 t1 t2 t9 v8 Sz K))) (bC (.tuple []) Sz K)
theorem iP (x:VE) (m0:Nat) (t0 t1 t2 t9 t10:V) (Sz:Hp) (K:KV):cW x (m0+1) t0 t1 t2 t9 t10 Sz K=eV x m0 t0 t1 t2 t9 t10 Sz K:=by kernel_rfl
noncomputable def nJ (x:VE) (a0 a1:V) (Sz:Hp) (K:KV):Prop:=
 aV a0 fun v0=>
 aG PP .geq 3 a1 v0 fun v1=>
 iG v1 (bC .nil Sz K) (bY 1 a0 a1 fun v2=>
 aS v2 Sz fun v3 Sz=>
 bC v3 Sz K)
theorem wE (x:VE) (a0 a1:V) (Sz:Hp) (K:KV):lG PP bH dE x [a0,a1] Sz K=nJ x a0 a1 Sz K:=by kernel_rfl
noncomputable def RG (x:VE) (a0 a1 a2:V) (Sz:Hp) (K:KV):Prop:=
 jO 22 a1 Sz fun v0 Sz=>
 jO 22 a2 Sz fun v1 Sz=>
 x.call qX [a0] Sz fun v2 Sz=>
 Gy 22 8 [(.int .u64 (.ofNat 0))] v2 v2 Sz fun v3 Sz=>
 eU [(.slice none 0 0)] 32 Sz fun v4 Sz=>
 rH 1 v4 v3 Sz fun Sz=>
 x.call sF [a0] Sz fun v5 Sz=>
 zT x v5 [4,5,7] [v0,v1,v4] 25 (tL PP bJ [.r,.r,.l,.r,.d]) (tO PP bJ [.r,.r,.l,.r,.d]) (qD PP bJ [.r,.r,.l,.r,.d]) Sz fun pe Sz=>
 HV pe (aS v4 Sz fun v7 Sz=>
 bC v7 Sz K) (bC .nil Sz K) (fun v6=>OC v6 0 (aS v4 Sz fun v8 Sz=>
 bC v8 Sz K) (False))
theorem Ic (x:VE) (a0 a1 a2:V) (Sz:Hp) (K:KV):lG PP bH bJ x [a0,a1,a2] Sz K=RG x a0 a1 a2 Sz K:=by kernel_rfl
noncomputable def AC (x:VE) (l:Nat) (t4 t5 t7 a0 a1:V) (Sz:Hp) (K:KV):Prop:=
 KG l Sz fun Sz=>
 aS t7 Sz fun v0 Sz=>
 aS t4 Sz fun v1 Sz=>
 aS t5 Sz fun v2 Sz=>
 x.call lT [a1,v1,v2] Sz fun v3 Sz=>
 aS t7 Sz fun v4 _=>
 aL v4 v0 (bY 1 v0 a0 fun v5=>
 rH 1 v5 v3 Sz fun Sz=>
 yB l .ready none true Sz K)
theorem NY (x:VE) (l:Nat) (t4 t5 t7 a0 a1:V) (Sz:Hp) (K:KV):HW PP bH x 25 (tL PP bJ [.r,.r,.l,.r,.d]) (tO PP bJ [.r,.r,.l,.r,.d]) (qD PP bJ [.r,.r,.l,.r,.d]) l [t4,t5,t7] [a0,a1] Sz K=AC x l t4 t5 t7 a0 a1 Sz K:=by kernel_rfl
theorem NX:[4,5,7]=JP bH 25 (qD PP bJ [.r,.r,.l,.r,.d]):=by kernel_rfl
noncomputable def lU (x:VE) (m:Nat) (t1 t2 t7 t13 t14 t15:V) (Sz:Hp) (K:KV):Prop:=eT PP bH gY x [.r,.r,.l,.r,.d] m [] [t1,t2,t7,t13,t14,t15] Sz K
noncomputable def RH (x:VE) (a0 a1 a2:V) (Sz:Hp) (K:KV):Prop:=
 aV a0 fun v0=>
 Gy 22 8 [(.int .u64 (.ofNat 0))] v0 v0 Sz fun v1 Sz=>
 aV a0 fun v2=>
 lU x x.most a1 a2 v1 a0 v2 (.int .i64 (.ofNat 0)) Sz K
theorem Ie (x:VE) (a0 a1 a2:V) (Sz:Hp) (K:KV):lG PP bH gY x [a0,a1,a2] Sz K=RH x a0 a1 a2 Sz K:=by kernel_rfl
noncomputable def sS (x:VE) (m0:Nat) (t1 t2 t7 t13 t14 t15:V) (Sz:Hp) (K:KV):Prop:=
 cT Sz fun Sz=>
 aG PP .lss 3 t15 t14 fun v0=>
 iG v0 (bY 1 t13 t15 fun v1=>
 aS v1 Sz fun v2 Sz=>
 x.call lT [v2,t1,t2] Sz fun v3 Sz=>
 bY 1 t7 t15 fun v4=>
 rH 1 v4 v3 Sz fun Sz=>
 aG PP .add 3 t15 (.int .i64 (.ofNat 1)) fun v5=>
 lU x m0 t1 t2 t7 t13 t14 v5 Sz K) (bC t7 Sz K)
theorem AD (x:VE) (m0:Nat) (t1 t2 t7 t13 t14 t15:V) (Sz:Hp) (K:KV):lU x (m0+1) t1 t2 t7 t13 t14 t15 Sz K=sS x m0 t1 t2 t7 t13 t14 t15 Sz K:=by kernel_rfl
noncomputable def oJ (x:VE) (m:Nat) (t3 t6 t7 t8:V) (Sz:Hp) (K:KV):Prop:=eT PP bH qX x [.r,.r,.l,.r,.d] m [] [t3,t6,t7,t8] Sz K
noncomputable def NU (x:VE) (a0:V) (Sz:Hp) (K:KV):Prop:=
 aV a0 fun v0=>
 oJ x x.most (.int .i64 (.ofNat 0)) a0 v0 (.int .i64 (.ofNat 0)) Sz K
theorem Dk (x:VE) (a0:V) (Sz:Hp) (K:KV):lG PP bH qX x [a0] Sz K=NU x a0 Sz K:=by kernel_rfl
noncomputable def rK (x:VE) (m0:Nat) (t3 t6 t7 t8:V) (Sz:Hp) (K:KV):Prop:=
 cT Sz fun Sz=>
 aG PP .lss 3 t8 t7 fun v0=>
 iG v0 (bY 1 t6 t8 fun v1=>
 aS v1 Sz fun v2 Sz=>
 aV v2 fun v3=>
 Dg true t3 v3 fun v4=>
 aG PP .add 3 t8 (.int .i64 (.ofNat 1)) fun v5=>
 oJ x m0 v4 t6 t7 v5 Sz K) (bC t3 Sz K)
theorem xY (x:VE) (m0:Nat) (t3 t6 t7 t8:V) (Sz:Hp) (K:KV):oJ x (m0+1) t3 t6 t7 t8 Sz K=rK x m0 t3 t6 t7 t8 Sz K:=by kernel_rfl
noncomputable def FH (x:VE) (a0:V) (Sz:Hp) (K:KV):Prop:=
 jO 31 a0 Sz fun v0 Sz=>
 aS v0 Sz fun v1 Sz=>
 x.call BR [v1] Sz fun v2 Sz=>
 eU [.nilFunc] 164 Sz fun v3 Sz=>
 rH 1 v3 v2 Sz fun Sz=>
 bC (.func fQ [] [v0,v3]) Sz K
theorem SE (x:VE) (a0:V) (Sz:Hp) (K:KV):lG PP bH sF x [a0] Sz K=FH x a0 Sz K:=by kernel_rfl
noncomputable def iY (x:VE) (m:Nat) (t0 t1 t2 t8 t9:V) (Sz:Hp) (K:KV):Prop:=eT PP bH fQ x [.r,.d] m [] [t0,t1,t2,t8,t9] Sz K
noncomputable def fI (x:VE) (m:Nat) (m0:Nat) (t0 t1 t2 t4 t5 t8 t9 t13 t14:V) (Sz:Hp) (K:KV):Prop:=eT PP bH fQ x [.r,.d,.d,.r,.r,.l,.d,.r,.r,.l,.r,.d] m [m0] [t0,t1,t2,t4,t5,t8,t9,t13,t14] Sz K
noncomputable def BH (x:VE) (a0 a1 a2:V) (Sz:Hp) (K:KV):Prop:=
 aS a1 Sz fun v0 Sz=>
 x.call qX [v0] Sz fun v1 Sz=>
 iY x x.most a0 a1 a2 v1 (.int .i64 (.ofNat 0)) Sz K
theorem NW (x:VE) (a0 a1 a2:V) (Sz:Hp) (K:KV):lG PP bH fQ x [a0,a1,a2] Sz K=BH x a0 a1 a2 Sz K:=by kernel_rfl
noncomputable def pE (x:VE) (m0:Nat) (t0 t1 t2 t8 t9:V) (Sz:Hp) (K:KV):Prop:=
 cT Sz fun Sz=>
 aG PP .lss 3 t9 t8 fun v0=>
 iG v0 (aS t1 Sz fun v1 Sz=>
 aV v1 fun v2=>
 fI x x.most m0 t0 t1 t2 t9 .nil t8 t9 v2 (.int .i64 (.ofNat 0)) Sz K) (bC (.tuple []) Sz K)
theorem vK (x:VE) (m0:Nat) (t0 t1 t2 t8 t9:V) (Sz:Hp) (K:KV):iY x (m0+1) t0 t1 t2 t8 t9 Sz K=pE x m0 t0 t1 t2 t8 t9 Sz K:=by kernel_rfl
noncomputable def iB (x:VE) (m1:Nat) (m0:Nat) (t0 t1 t2 t4 t5 t8 t9 t13 t14:V) (Sz:Hp) (K:KV):Prop:=
 cT Sz fun Sz=>
 aG PP .lss 3 t14 t13 fun v0=>
 iG v0 (aS t2 Sz fun v1 Sz=>
 rL x v1 [t14,t4] Sz fun v2 Sz=>
 aP 22 1 [(.int .u64 (.ofNat 0))] [(0,1,v2)] Sz fun v3 Sz=>
 kI 22 1 8 t5 v3 Sz fun v4 Sz=>
 aG PP .add 3 t14 (.int .i64 (.ofNat 1)) fun v5=>
 fI x m1 m0 t0 t1 t2 t4 v4 t8 t9 t13 v5 Sz K) (rL x t0 [t4,t5] Sz fun v6 Sz=>
 IP .not v6 fun v7=>
 iG v7 (bC (.tuple []) Sz K) (aG PP .add 3 t9 (.int .i64 (.ofNat 1)) fun v8=>
 iY x m0 t0 t1 t2 t8 v8 Sz K))
theorem mH (x:VE) (m1:Nat) (m0:Nat) (t0 t1 t2 t4 t5 t8 t9 t13 t14:V) (Sz:Hp) (K:KV):fI x (m1+1) m0 t0 t1 t2 t4 t5 t8 t9 t13 t14 Sz K=iB x m1 m0 t0 t1 t2 t4 t5 t8 t9 t13 t14 Sz K:=by kernel_rfl
noncomputable def KE (x:VE) (a0:V) (Sz:Hp) (K:KV):Prop:=
 jO 31 a0 Sz fun v0 Sz=>
 bC (.func fC [] [v0]) Sz K
theorem XV (x:VE) (a0:V) (Sz:Hp) (K:KV):lG PP bH BR x [a0] Sz K=KE x a0 Sz K:=by kernel_rfl
noncomputable def FG (x:VE) (a0 a1 a2:V) (Sz:Hp) (K:KV):Prop:=
 aS a2 Sz fun v0 Sz=>
 bY 1 v0 a0 fun v1=>
 aS v1 Sz fun v2 Sz=>
 aV v2 fun v3=>
 aG PP .geq 3 a1 v3 fun v4=>
 iG v4 (bC (.int .u64 (.ofNat 0)) Sz K) (aS a2 Sz fun v5 Sz=>
 bY 1 v5 a0 fun v6=>
 aS v6 Sz fun v7 Sz=>
 bY 1 v7 a1 fun v8=>
 aS v8 Sz fun v9 Sz=>
 bC v9 Sz K)
theorem SD (x:VE) (a0 a1 a2:V) (Sz:Hp) (K:KV):lG PP bH fC x [a0,a1,a2] Sz K=FG x a0 a1 a2 Sz K:=by kernel_rfl
noncomputable def kB (x:VE) (m:Nat) (t0 t1 t5:V) (Sz:Hp) (K:KV):Prop:=eT PP bH nL x [.r,.r,.l,.r,.d] m [] [t0,t1,t5] Sz K
noncomputable def CZ (x:VE) (a0 a1:V) (Sz:Hp) (K:KV):Prop:=
 aV a0 fun v0=>
 aV a1 fun v1=>
 aG PP .neq 3 v0 v1 fun v2=>
 iG v2 (bC (.bool false) Sz K) (kB x x.most a0 a1 (.int .i64 (.ofNat 0)) Sz K)
theorem PR (x:VE) (a0 a1:V) (Sz:Hp) (K:KV):lG PP bH nL x [a0,a1] Sz K=CZ x a0 a1 Sz K:=by kernel_rfl
noncomputable def nM (x:VE) (m0:Nat) (t0 t1 t5:V) (Sz:Hp) (K:KV):Prop:=
 cT Sz fun Sz=>
 aV t0 fun v0=>
 aG PP .lss 3 t5 v0 fun v1=>
 iG v1 (bY 1 t0 t5 fun v2=>
 aS v2 Sz fun v3 Sz=>
 bY 1 t1 t5 fun v4=>
 aS v4 Sz fun v5 Sz=>
 x.call rW [v3,v5] Sz fun v6 Sz=>
 IP .not v6 fun v7=>
 iG v7 (bC (.bool false) Sz K) (aG PP .add 3 t5 (.int .i64 (.ofNat 1)) fun v8=>
 kB x m0 t0 t1 v8 Sz K)) (bC (.bool true) Sz K)
theorem tH (x:VE) (m0:Nat) (t0 t1 t5:V) (Sz:Hp) (K:KV):kB x (m0+1) t0 t1 t5 Sz K=nM x m0 t0 t1 t5 Sz K:=by kernel_rfl
end Go.Am
set_option maxRecDepth 4000
namespace Go.Am
open Go.Proofs.JQ
def iO (n:Nat) (l:List Nat):List (List Nat):=(List.range n).map fun i=>(l.drop (i*n)).take n
theorem PQ (n:Nat) (l:List Nat):(iO n l).length=n:=by unfold iO;simp
theorem Ze (l:List Nat) (k:Nat):(tV l).drop k=tV (l.drop k):=by unfold tV;rw [List.map_drop]
theorem Zf (l:List Nat) (k:Nat):(tV l).take k=tV (l.take k):=by unfold tV;rw [List.map_take]
theorem Ah.dF{S0 Sz:Hp}{w:V}{l:List Nat} (h:Ah S0 w l) (hs:∀j vs m,S0 j=some (.dF vs 22 m)->Sz j=some (.dF vs 22 m)):Ah Sz w l:=by
 cases h with
 | nil=>exact .nil
 | emp=>exact .emp
 | HE=>exact .HE
 | acc h h0=>exact .acc (hs _ _ _ h) h0
 | tW h h0 hv=>exact .tW (hs _ _ _ h) h0 hv
section
variable{M n:Nat}{x:VE}{Sz:Hp}{K:KV}{two:Bool}{t d:Nat}{s:BitVec 64}{ah:List Nat}
theorem aGv:gM wC=none:=rfl
def tQ (two:Bool):Nat:=(tT two+1)*(tT two+1)-1
theorem aDg (hM:100000<M) (hx:Deep PP bH gM M (n+5) x){X:Nat} (hX:b64 X) (hd:d+1000<1000000) (h:Tape Sz t s ah d)
 (hK:∀S' s' Eh,LD Sz S' t->Tape S' t s' Eh (d+tQ two)->(∀k,drawn (tQ two+k) ah s=drawn (tQ two) ah s++drawn k Eh s')->∀O,K (.list O (pM (iO (tT two+1) (X%23::drawn (tQ two) ah s))) (tT two+1)) S'):
 x.call wC [.agg (pv two),nu X,.func bN [.ptr t 0] []] Sz K:=by
 have hT:tT two<=2:=by cases two<;>decide
 have hT1:1<=tT two:=by cases two<;>decide
 have hQ:tQ two<9:=by cases two<;>decide
 refine hx.call aGv fun y hy=>?_;rw [Lq];unfold VX;obtain⟨w0,hw0,_⟩:=id h;refine cO jL fun p hp=>?_;have hpt:p≠t:=ne_of hp hw0;have le1:bE Sz (upd Sz p (.row (pv two) 25)):= .aH hp;have rp:upd Sz p (.row (pv two) 25) p=some (.row (pv two) 25):=upd_same;have Hz:∀j,j≠p->upd Sz p (.row (pv two) 25) j=Sz j:=fun j hj=>aB hj;have h1:Tape (upd Sz p (.row (pv two) 25)) t s ah d:=h.keep fun j o e _=>le1 _ _ e;generalize upd Sz p (.row (pv two) 25)=S1 at le1 rp Hz h1;have e6:(pv two)[6]? =some (ni (tT two)):=rfl;have e1:(pv two)[1]? =some (nu 23):=rfl;have hmul:(tT two+1)*(tT two+1)<=9:=by cases two<;>decide
 have Ia:1<=(tT two+1)*(tT two+1):=by cases two<;>decide
 rw [aN,cG rp e6,aX (by omega),pB (by omega),nD Ia (by omega),aN,cG rp e1];refine UY (n:=n) hM hy hX (show tQ two<1000 by omega) (by omega) h1 fun S2 s2 Jl Dj Uc dr2 O=>?_;generalize hl:X%23::drawn ((tT two+1)*(tT two+1)-1) ah s=l;have hl':X%23::drawn (tQ two) ah s=l:=hl;have hll:l.length=(tT two+1)*(tT two+1):=by rw [<-hl,List.length_cons,mZ];omega
 have hl2:(X%23::drawn (tQ two) ah s).length=l.length:=by rw [hl']
 show Gy 32 24 [(.slice none 0 0)] (ni (tT two+1)) (ni (tT two+1)) S2 _;refine⟨Nat.le_refl _,by omega,by omega,fun r hr=>?_⟩;have hz:(List.replicate (tT two+1) [V.nil]).flatten=List.replicate (tT two+1) V.nil:=by cases two<;>rfl
 show aV (.own r 0 (tT two+1) (tT two+1)) fun v10=>iL y y.most (ni (tT two+1)) _ (.own r 0 (tT two+1) (tT two+1)) v10 (ni 0) (upd S2 r (.row (List.replicate (tT two+1) [V.nil]).flatten 32)) K;rw [hz,hy.most];show iL y M (ni (tT two+1)) (.list O (tV l) l.length) (.own r 0 (tT two+1) (tT two+1)) (ni (tT two+1)) (ni 0) (upd S2 r (.row (List.replicate (tT two+1) V.nil) 32)) K;have gP:bE S2 (upd S2 r (.row (List.replicate (tT two+1) V.nil) 32)):= .aH hr
 have go:∀(k i m:Nat) (S3:Hp) (vs:List V),i+k=tT two+1->k<m->bE S2 S3->S3 r=some (.row vs 32)->vs.length=tT two+1->(∀j,j<i->∃t,vs[j]? =some (.list t (tV ((l.drop (j*(tT two+1))).take (tT two+1))) (tT two+1)))->
  iL y m (ni (tT two+1)) (.list O (tV l) l.length) (.own r 0 (tT two+1) (tT two+1)) (ni (tT two+1)) (ni i) S3 K:=by
  intro k;induction k with
  | zero=>
   intro i m S3 vs hi hm kP r3 hvs hv;obtain⟨m,rfl⟩:=Nat.exists_eq_succ_of_ne_zero (show m≠0 by omega);rw [xX];unfold rJ;refine aE ?_;rw [aR,decide_eq_false (by omega),aZ];obtain⟨w2,q3,q4⟩:=Uc
   have hrS:Sz r=none:=by
    cases e:Sz r with
    | none=>rfl
    | some o=>
     have hrt:r≠t:=ne_of hr q3;have:=Dj r hrt;rw [hr,le1 _ _ e]at this;cases this
   have leT:bE (turned Sz S3 t) S3:=fun i o e=>by
    unfold turned at e;by_cases hi:i=t
    ·subst hi;rw [if_pos rfl]at e;exact e
    ·rw [if_neg hi]at e
     exact kP _ _ (by rw [Dj i hi];exact le1 _ _ e)
   have ht3:S3 t=some (.row [vb s2,w2,ni (d+((tT two+1)*(tT two+1)-1))] 83):=kP _ _ q3
   refine AA leT (cs:=pM (iO (tT two+1) l)) (.own r3 (by rw [AB (ne_of hr q3)];exact hrS) (Nat.le_refl _) (by rw [hvs];unfold pM;rw [List.length_map,PQ];omega) fun j v dd x1 x2=>?_) (by
    have hk:=hK (turned Sz S3 t) s2 Jl (fun i hi=>AB hi) ⟨w2,by rw [VV];exact ht3,q4.dF fun j vs m e=>?_⟩ dr2
    ·rw [hl']at hk;exact hk
    ·have hjt:j≠t:=fun c=>by rw [c,q3]at e;cases e
     rw [AB hjt];rw [Dj j hjt,Hz j (fun c=>by rw [c,rp]at e;cases e)]at e;exact e)
   rw [Nat.zero_add]at x1;have hj:j<tT two+1:=by have:=(List.getElem?_eq_some_iff.1 x1).1;omega
   obtain⟨t3,e3⟩:=hv j (by omega);rw [x1]at e3;injection e3 with e3;subst e3
   have hd2:(pM (iO (tT two+1) l))[j]? =some (.list (tV ((l.drop (j*(tT two+1))).take (tT two+1))) (tT two+1)):=by
    unfold pM iO;rw [List.getElem?_map,List.getElem?_map,List.getElem?_range hj]
    have hlen:((l.drop (j*(tT two+1))).take (tT two+1)).length=tT two+1:=by
     rw [List.length_take,List.length_drop,hll];have:(j+1)*(tT two+1)<=(tT two+1)*(tT two+1):=Nat.mul_le_mul_right _ hj;rw [Nat.succ_mul]at this;omega
    simp only [Option.map_some,hlen]
   rw [hd2]at x2;injection x2 with x2;subst x2;exact .list
  | succ k ih=>
   intro i m S3 vs hi hm kP r3 hvs hv;obtain⟨m,rfl⟩:=Nat.exists_eq_succ_of_ne_zero (show m≠0 by omega);rw [xX];unfold rJ;refine aE ?_;have hin:i<tT two+1:=by omega
   have hb1:(i+1)*(tT two+1)<=(tT two+1)*(tT two+1):=Nat.mul_le_mul_right _ hin;have hb2:i*(tT two+1)<(i+1)*(tT two+1):=by rw [Nat.succ_mul];omega
   have hb3:(i+1)*(tT two+1)-i*(tT two+1)=tT two+1:=by rw [Nat.succ_mul];omega
   rw [aR,decide_eq_true hin,cU,pB (by omega),aX (by omega),pB (by omega),aX (by omega),pB (by omega)];refine⟨Nat.le_of_lt hb2,Nat.le_refl _,by rw [hll];exact hb1,hb2,by rw [Nat.mul_one,EA,hll];exact hb1,?_⟩;rw [hb3,Nat.mul_one,Nat.mul_one,Ze,Zf];refine⟨hin,?_⟩;refine BD r3 rfl (by omega) ?_;rw [aX (by omega),qE (by omega)];refine ih (i+1) m _ _ (by omega) (by omega) (fun j o e=>by rw [aB (fun c=>by rw [c,hr]at e;cases e)];exact kP _ _ e) upd_same (by rw [List.length_set];exact hvs) fun j hj=>?_;rw [show 0+i*1=i by omega];by_cases hji:j=i
   ·subst hji
    exact⟨_,by rw [List.getElem?_set_self (by omega)]⟩
   ·obtain⟨t3,e3⟩:=hv j (by omega)
    exact⟨t3,by rw [List.getElem?_set_ne (Ne.symm hji)];exact e3⟩
 exact go (tT two+1) 0 M _ _ (by omega) (by omega) gP upd_same (by rw [List.length_replicate]) (fun j hj=>by omega)
end
end Go.Am
set_option maxRecDepth 4000
namespace Go.Am
def mD (l:List (List (List Nat))):List Dt:=l.map fun m=> .list (pM m) m.length
theorem HR (l:List (List (List Nat))):(mD l).length=l.length:=List.length_map _
theorem ZR{l:List (List (List Nat))}{i:Nat}{m:List (List Nat)} (h:l[i]? =some m):(mD l)[i]? =some (.list (pM m) m.length):=by unfold mD;rw [List.getElem?_map,h];rfl
theorem Lr (l m:List (List (List Nat))):mD (l++m)=mD l++mD m:=List.map_append
def pD (fs bs:List (List (List Nat))):List (List (List Nat)):=List.zipWith dW fs bs
theorem Td{f r:List (List (List Nat))}{i:Nat} (h1:i<f.length) (h2:i<r.length):(pD f r).take (i+1)=(pD f r).take i++[dW f[i] r[i]]:=by
 have hl:i<(List.zipWith dW f r).length:=by rw [List.length_zipWith];omega
 show(List.zipWith dW f r).take (i+1)=(List.zipWith dW f r).take i++[dW f[i] r[i]];rw [List.take_add_one,List.getElem?_eq_getElem hl,List.getElem_zipWith];rfl
section
variable{M n:Nat}{x:VE}{Sz S0:Hp}{K:KV}{two:Bool}
theorem aGw:gM dE=none:=rfl
theorem aHH:gM eG=none:=rfl
theorem aGx:gM bV=none:=rfl
theorem Zg:gM aU=none:=rfl
theorem aDh (hx:Deep PP bH gM M (n+1) x){v:V}{ls:List (List (List Nat))} (h:GL 31 S0 Sz v (mD ls)){i:Nat} (hi:i<ls.length) (hK:∀t,K (.list t (pM ls[i]) ls[i].length) Sz):x.call dE [v,ni i] Sz K:=by
 refine hx.call aGw fun y hy=>?_;rw [wE];unfold nJ;obtain⟨p,t,hp,hld⟩:=h.at (ZR (List.getElem?_eq_getElem hi));rw [h.len,HR,HL,decide_eq_false (by omega),aZ,hp,hld Sz (.refl Sz)];exact aJ (hK t)
theorem Zh (hx:Deep PP bH gM M (n+1) x){v w:V} (h1:jK v=true) (h2:jK w=true) (hK:∀b1 b2 S',Sz b1=none->Sz b2=none->b1≠b2->bE Sz S'->S' b1=some (.row [v] 57)->S' b2=some (.row [w] 57)->K (.func bV [] [.ptr b1 0,.ptr b2 0]) S'):x.call eG [v,w] Sz K:=by
 refine hx.call aHH fun y hy=>?_;rw [tR];unfold kZ;refine box1 h1 fun b1 hb1=>box1 h2 fun b2 hb2=>aJ ?_;have le1:bE Sz (upd Sz b1 (.row [v] 57)):= .aH hb1;have hne:b1≠b2:=fun e=>by rw [<-e,upd_same]at hb2;cases hb2
 exact hK b1 b2 _ hb1 (le1.none hb2) hne (le1.trans (.aH hb2)) (by rw [aB hne];exact upd_same) upd_same
theorem Zi (hM:1000000<M) (hx:Deep PP bH gM M (n+3) x){l b1 b2:Nat}{va vb:V}{a b:List (List (List Nat))} (hlen:b.length=a.length) (hl:a.length<1000000){Inv:Nat->Hp->Prop}{Oa:Hp} (hI:∀i Sz,Inv i Sz->Sz b1=some (.row [va] 57)/\Sz b2=some (.row [vb] 57)/\GL 31 Oa Sz va (mD a)/\GL 31 Oa Sz vb (mD b))
 (step:∀(y:VE),Deep PP bH gM M (n+2) y->∀(i:Nat) (Sz:Hp) (h1:i<a.length) (h2:i<b.length) (t1 t2:Tag) (K:KV),Inv i Sz->(∀S',Inv (i+1) S'->K (.bool true) S')->y.R l [.list t1 (pM a[i]) a[i].length,.list t2 (pM b[i]) b[i].length] Sz K) (h0:Inv 0 Sz) (hK:∀Sz,Inv a.length Sz->K (.tuple []) Sz):x.call bV [.yield l,.ptr b1 0,.ptr b2 0] Sz K:=by
 refine hx.call aGx fun y hy=>?_;rw [rZ];unfold kE;obtain⟨q1,q2,q3,q4⟩:=hI 0 Sz h0;rw [cG q1 rfl,q3.len,cG q2 rfl,q4.len,HR,HR,hlen,Ln,hy.most]
 have:∀(r i m:Nat) (Sz:Hp),i+r=a.length->r<m->Inv i Sz->cW y m (.yield l) (.ptr b1 0) (.ptr b2 0) (ni a.length) (ni i) Sz K:=by
  intro r;induction r with
  | zero=>
   intro i m Sz hi hm h;obtain⟨m,rfl⟩:=Nat.exists_eq_succ_of_ne_zero (show m≠0 by omega);rw [iP];unfold eV;refine aE ?_;rw [aR,lY (by omega),aZ];have e:i=a.length:=by omega
   subst e;exact aJ (hK Sz h)
  | succ r ih=>
   intro i m Sz hi hm h;obtain⟨m,rfl⟩:=Nat.exists_eq_succ_of_ne_zero (show m≠0 by omega);rw [iP];unfold eV;refine aE ?_;obtain⟨q1,q2,q3,q4⟩:=hI i Sz h;rw [aR,AZ (by omega),cU,cG q1 rfl,cG q2 rfl];refine aDh hy q3 (show i<a.length by omega) fun t1=>?_;rw [cG q2 rfl,bQ q4.same];refine aDh hy q4 (show i<b.length by omega) fun t2=>?_;refine step y hy i Sz (by omega) (by omega) t1 t2 _ h fun S' h'=>?_;rw [jV,Bool.not_true,aZ,aX (by omega)];exact ih (i+1) m S' (by omega) (by omega) h'
 exact this a.length 0 M Sz (by omega) (by omega) h0
noncomputable def Pr (a b:Nat) (st:LoopState):Ob:= .loop [3,7] [.ptr a 0,.ptr b 0] 23 (tL PP aU [.r,.r,.l,.r,.d]) (tO PP aU [.r,.r,.l,.r,.d]) (qD PP aU [.r,.r,.l,.r,.d]) st none
structure aCi (SA:Hp) (bp bo b1 b2 l:Nat) (two:Bool) (vf vr:V) (fs rs:List (List (List Nat))) (i:Nat) (Sz:Hp):Prop where
 le:bE SA Sz
 n1:SA bo=none
 n2:SA l=none
 rp:Sz bp=some (.row (pv two) 25)
 u:∃u,Sz bo=some (.row [u] 57)/\GL 31 SA Sz u (mD ((pD fs rs).take i))
 lo:Sz l=some (Pr bp bo .ready)
 r1:Sz b1=some (.row [vf] 57)
 r2:Sz b2=some (.row [vr] 57)
 d1:bo≠l
 d2:bo≠b1
 d3:bo≠b2
 d4:l≠b1
 d5:l≠b2
 d6:bo≠bp
 d7:l≠bp
def Sq (f r:List (List Nat)):Prop:=(∀q∈f,qB q)/\(∀q∈r,qB q)/\(∀q∈f,q.length<100000)/\f.length<100000/\r.length=f.length/\∀i (h1:i<f.length) (h2:i<r.length),r[i].length=f[i].length
theorem Ib (hM:1000000<M) (hx:Deep PP bH gM M (n+16) x){SA:Hp}{bp bo b1 b2 l:Nat}{vf vr:V}{fs rs:List (List (List Nat))} (hsl:fs.length<100000){i:Nat}{Sz:Hp} (h1:i<fs.length) (h2:i<rs.length) (hsq:Sq fs[i] rs[i]){t1 t2:Tag}{K:KV}
 (h:aCi SA bp bo b1 b2 l two vf vr fs rs i Sz) (hK:∀S',aCi SA bp bo b1 b2 l two vf vr fs rs (i+1) S'->K (.bool true) S'):x.R l [.list t1 (pM fs[i]) fs[i].length,.list t2 (pM rs[i]) rs[i].length] Sz K:=by
 obtain⟨s1,s2,s3,s4,s5,s6⟩:=hsq;refine hx.round fun y hy=>?_;refine CO (st:= .ready) (pe:=none) h.lo CX ?_;rw [CY];unfold sA;refine HH h.lo ?_;obtain⟨v,hv,mv⟩:=h.u;have hbz:upd Sz l (.loop [3,7] [.ptr bp 0,.ptr bo 0] 23 (tL PP aU [.r,.r,.l,.r,.d]) (tO PP aU [.r,.r,.l,.r,.d]) (qD PP aU [.r,.r,.l,.r,.d]) .busy none)=upd Sz l (Pr bp bo .busy):=rfl;rw [hbz];have k1:bE SA (upd Sz l (Pr bp bo .busy)):=pL h.le h.n2;have kl:upd Sz l (Pr bp bo .busy) l=some (Pr bp bo .busy):=upd_same;have ko:upd Sz l (Pr bp bo .busy) bo=some (.row [v] 57):=by rw [aB h.d1];exact hv
 have kp:upd Sz l (Pr bp bo .busy) bp=some (.row (pv two) 25):=by rw [aB (Ne.symm h.d7)];exact h.rp
 have k3:upd Sz l (Pr bp bo .busy) b1=some (.row [vf] 57):=by rw [aB (Ne.symm h.d4)];exact h.r1
 have k4:upd Sz l (Pr bp bo .busy) b2=some (.row [vr] 57):=by rw [aB (Ne.symm h.d5)];exact h.r2
 have km:GL 31 SA (upd Sz l (Pr bp bo .busy)) v (mD ((pD fs rs).take i)):=mv.set h.lo (fun vs m e=>by cases e);generalize upd Sz l (Pr bp bo .busy)=S1 at k1 kl ko kp k3 k4 km
 have lp:bF 12 (.ptr bp 0) S1=fun K=>K (.agg (pv two)) S1:=by
  funext K
  rw [iU kp,cF (by rw [hH];omega),List.drop_zero,List.take_of_length_le (by rw [hH];omega)]
 rw [cG ko rfl,lp];refine aCf (n:=n) (O:=S1) hM hy s1 s2 s3 s4 s5 s6 .val .val fun t3=>?_;have sv:∀{q:Prop},aL v v q=q:=fun {q}=>bQ km.same;rw [cG ko rfl,sv,cG ko rfl,sv];have hT:∀{K:KV},(∀j,S1 j=none->K (.own j 0 1 1) (upd S1 j (.row [.list t3 (pM (dW fs[i] rs[i])) (dW fs[i] rs[i]).length] 31)))->aP 31 1 [(.slice none 0 0)] [(0,1,.list t3 (pM (dW fs[i] rs[i])) (dW fs[i] rs[i]).length)] S1 K:=fun {K} hk=>⟨rfl,by simp,hk⟩;refine⟨hT fun _ _=>trivial,?_⟩;refine km.app (t:=t3) (d:= .list (pM (dW fs[i] rs[i])) (dW fs[i] rs[i]).length) (z:= .slice none 0 0) (zv:= .nil) k1 (by rw [HR,List.length_take];omega) rfl (by decide) fun u6 S6 VH p6 w6 m6=>?_;have e6:mD ((pD fs rs).take i)++[.list (pM (dW fs[i] rs[i])) (dW fs[i] rs[i]).length]=mD ((pD fs rs).take (i+1)):=by rw [Td h1 h2,Lr];rfl
 rw [e6]at m6
 have q:∀{j:Nat} {o:Ob},S1 j=some o->(∀vs m,o≠ .dF vs 31 m)->S6 j=some o:=fun {j o} e hno=>p6 _ _ e fun m c=>by
  obtain⟨vs,n,e2⟩:=km.there c;rw [e]at e2;injection e2 with e2;exact hno _ _ e2
 have o6':=q ko (fun vs m e=>by cases e);have l6:=q kl (fun vs m e=>by cases e);rw [EB o6' (by simp) m6.one];have l7:upd S6 bo (.row ([v].set 0 u6) 57) l=some (Pr bp bo .busy):=by rw [aB (Ne.symm h.d1)];exact l6
 refine HI l7 (hK _ ⟨pL (pL VH h.n1) h.n2,h.n1,h.n2,?_,⟨u6,by rw [aB h.d1];exact upd_same,?_⟩,upd_same,?_,?_,h.d1,h.d2,h.d3,h.d4,h.d5,h.d6,h.d7⟩)
 ·rw [aB (Ne.symm h.d7),aB (Ne.symm h.d6)];exact q kp (fun vs m e=>by cases e)
 ·exact(m6.set o6' (fun vs m e=>by cases e)).set l7 (fun vs m e=>by cases e)
 ·rw [aB (Ne.symm h.d4),aB (Ne.symm h.d2)];exact q k3 (fun vs m e=>by cases e)
 ·rw [aB (Ne.symm h.d5),aB (Ne.symm h.d3)];exact q k4 (fun vs m e=>by cases e)
theorem Zj (hM:1000000<M) (hx:Deep PP bH gM M (n+20) x){SA O:Hp}{vf vr:V}{fs rs:List (List (List Nat))} (hsl:fs.length<100000) (hlen:rs.length=fs.length) (hsq:∀i (h1:i<fs.length) (h2:i<rs.length),Sq fs[i] rs[i])
 (mf:GL 31 O SA vf (mD fs)) (mr:GL 31 O SA vr (mD rs)) (hK:∀t,K (.list t (mD (pD fs rs)) (pD fs rs).length) SA):x.call aU [.agg (pv two),vf,vr] SA K:=by
 refine hx.call Zg fun y hy=>?_;rw [NT];unfold BG;refine cO jL fun bp hbp=>?_;have le1:bE SA (upd SA bp (.row (pv two) 25)):= .aH hbp;have rp:upd SA bp (.row (pv two) 25) bp=some (.row (pv two) 25):=upd_same;generalize upd SA bp (.row (pv two) 25)=S1 at le1 rp;refine eI rfl fun bo YL=>?_;have gP:bE S1 (upd S1 bo (.row [.nil] 57)):= .aH YL;have ro:upd S1 bo (.row [.nil] 57) bo=some (.row [.nil] 57):=upd_same;generalize upd S1 bo (.row [.nil] 57)=S2 at gP ro;refine Zh hy mf.one mr.one fun b1 b2 S3 n1 n2 d12 kP r1 r2=>?_;refine CP fun l hl=>?_;have hlo:upd S3 l (.loop [3,7] [.ptr bp 0,.ptr bo 0] 23 (tL PP aU [.r,.r,.l,.r,.d]) (tO PP aU [.r,.r,.l,.r,.d]) (qD PP aU [.r,.r,.l,.r,.d]) .ready none)=upd S3 l (Pr bp bo .ready):=rfl;rw [hlo];have Xl:=kP _ _ ro;have zP:=kP _ _ (gP _ _ rp);have OL:=(le1.trans gP).trans kP
 have q0:aCi SA bp bo b1 b2 l two vf vr fs rs 0 (upd S3 l (Pr bp bo .ready)):=
  ⟨OL.trans (.aH hl),le1.none YL,OL.none hl,by rw [aB (Ne.symm (ne_of hl zP))];exact zP,⟨.nil,by rw [aB (Ne.symm (ne_of hl Xl))];exact Xl,.nil⟩,upd_same,by rw [aB (Ne.symm (ne_of hl r1))];exact r1,by rw [aB (Ne.symm (ne_of hl r2))];exact r2,
   Ne.symm (ne_of hl Xl),Ne.symm (ne_of n1 ro),Ne.symm (ne_of n2 ro),ne_of hl r1,ne_of hl r2,ne_of YL rp,ne_of hl zP⟩
 refine Zi (n:=n+16) hM hy hlen (by omega) (Inv:=aCi SA bp bo b1 b2 l two vf vr fs rs) (Oa:=O) (fun j Sz q=>⟨q.r1,q.r2,mf.up q.le,mr.up q.le⟩) (fun z hz j Sz a b t1 t2 K q hk=>Ib (n:=n+2) hM hz hsl a b (hsq j a b) q hk) q0 fun S4 q4=>?_;obtain⟨u4,ru4,m4⟩:=q4.u;have aGr:(pD fs rs).length=fs.length:=by unfold pD;rw [List.length_zipWith];omega
 rw [List.take_of_length_le (by omega)]at m4;refine HJ q4.lo (by simp) ?_;rw [NE];obtain⟨ob,hex⟩:∃ob,upd S4 l (.loop [3,7] [.ptr bp 0,.ptr bo 0] 23 (tL PP aU [.r,.r,.l,.r,.d]) (tO PP aU [.r,.r,.l,.r,.d]) (qD PP aU [.r,.r,.l,.r,.d]) .exhausted none)=upd S4 l ob:=⟨_,rfl⟩;rw [hex];have wY:bE SA (upd S4 l ob):=pL q4.le q4.n2;have ru5:upd S4 l ob bo=some (.row [u4] 57):=by rw [aB q4.d1];exact ru4
 have m5:GL 31 SA (upd S4 l ob) u4 (mD (pD fs rs)):=m4.set q4.lo (fun vs m e=>by cases e);rw [cG ru5 rfl];have fz:=m5.Ox;rw [HR]at fz;exact AA wY fz hK
end
end Go.Am
set_option maxRecDepth 4000
namespace Go.Am
open Go.Proofs.JQ
def VY (m:List (List Nat)):Nat:=m.foldl (fun n l=>max n l.length) 0
theorem aCj{k:Nat}:∀(m:List (List Nat)) (n:Nat),(∀q∈m,q.length=k)->n<=k->0<m.length->m.foldl (fun n l=>max n l.length) n=k:=by
 intro m;induction m with
 | nil=>intro n _ _ h;cases h
 | cons a m ih=>
  intro n h hn _;have ha:a.length=k:=h a List.mem_cons_self;rw [List.foldl_cons,ha,Nat.max_eq_right hn];cases m with
  | nil=>rfl
  | cons b m=>exact ih k (fun q hq=>h q (List.mem_cons_of_mem _ hq)) (Nat.le_refl _) (by simp)
theorem aGy{a b:Nat}{K:V->Prop}:Dg true (ni a) (ni b) K=K (ni (max a b)):=by
 show K (.int .i64 (max (Int.ofNat a) (Int.ofNat b)))=_
 congr 2
 simp only [Int.ofNat_eq_natCast];omega
theorem aEL{m:List (List Nat)}{i:Nat}{l:List Nat} (h:m[i]? =some l):(pM m)[i]? =some (.list (tV l) l.length):=by unfold pM;rw [List.getElem?_map,h];rfl
section
variable{M n:Nat}{x:VE}{Sz S0:Hp}{K:KV}{two:Bool}
theorem Ps{O:Tag}{m:List (List Nat)}{i:Nat} (h:i<m.length){K:KV}:aS (.nP O (pM m) i) Sz K=K (.list (.sub O i) (tV m[i]) m[i].length) Sz:=by
 rw [uN,bR (aEL (List.getElem?_eq_getElem h))];rfl
theorem lidx{O:Tag}{cs:List Dt}{c i:Nat} (h:i<c){k:V->Prop}:bY 1 (.list O cs c) (ni i) k=k (.nP O cs i):=by rw [sN h,Nat.mul_one]
theorem aEM:gM qX=none:=rfl
theorem aEN:gM sF=none:=rfl
theorem aCk:gM fQ=none:=rfl
theorem aCl:gM BR=none:=rfl
theorem Zk:gM fC=none:=rfl
theorem aEO:gM bJ=none:=rfl
theorem aEP:gM gY=none:=rfl
theorem Zl:gM jZ=none:=rfl
theorem Zm (hM:1000000<M) (hx:Deep PP bH gM M (n+1) x){O:Tag}{m:List (List Nat)} (hl:m.length<100000) (hK:K (ni (VY m)) Sz):x.call qX [.list O (pM m) m.length] Sz K:=by
 refine hx.call aEM fun y hy=>?_;rw [Dk];unfold NU;rw [gF,hy.most]
 have go:∀(k i q a:Nat),i+k=m.length->k<q->(m.drop i).foldl (fun n l=>max n l.length) a=VY m->oJ y q (ni a) (.list O (pM m) m.length) (ni m.length) (ni i) Sz K:=by
  intro k;induction k with
  | zero=>
   intro i q a hi hq he;obtain⟨q,rfl⟩:=Nat.exists_eq_succ_of_ne_zero (show q≠0 by omega);rw [xY];unfold rK;refine aE ?_;rw [aR,decide_eq_false (by omega),aZ];rw [List.drop_eq_nil_of_le (by omega)]at he;have he:a=VY m:=he;rw [he];exact aJ hK
  | succ k ih=>
   intro i q a hi hq he;obtain⟨q,rfl⟩:=Nat.exists_eq_succ_of_ne_zero (show q≠0 by omega);rw [xY];unfold rK;refine aE ?_;have hi1:i<m.length:=by omega
   rw [aR,decide_eq_true hi1,cU,lidx hi1,Ps hi1,gF,aGy,aX (by omega)];refine ih (i+1) q _ (by omega) (by omega) ?_;rw [List.drop_eq_getElem_cons hi1]at he;exact he
 exact go m.length 0 M 0 (by omega) (by omega) rfl
def tS (m:List (List Nat)) (j:Nat):List Nat:=m.map fun l=>l.getD j 0
theorem Zn (hx:Deep PP bH gM M (n+1) x){O:Tag}{m:List (List Nat)}{br:Nat} (hb:Sz br=some (.row [.list O (pM m) m.length] 31)){i j:Nat} (hi:i<m.length) (hj:j<m[i].length) (hK:K (nu m[i][j]) Sz):x.call fC [ni i,ni j,.ptr br 0] Sz K:=by
 refine hx.call Zk fun y hy=>?_;rw [SD];unfold FG;rw [cG hb rfl,lidx hi,Ps hi,gF,HL,decide_eq_false (by omega),aZ,cG hb rfl,lidx hi,Ps hi,lidx hj,uN,bR (UW (List.getElem?_eq_getElem hj))];exact aJ hK
theorem aEQ (hx:Deep PP bH gM M (n+2) x){O:Tag}{m:List (List Nat)} (hK:∀S' b0 b3 br,bE Sz S'->Sz b0=none->Sz b3=none->Sz br=none->S' b0=some (.row [.list O (pM m) m.length] 31)->S' b3=some (.row [.func fC [] [.ptr br 0]] 164)->S' br=some (.row [.list O (pM m) m.length] 31)->K (.func fQ [] [.ptr b0 0,.ptr b3 0]) S'):x.call sF [.list O (pM m) m.length] Sz K:=by
 refine hx.call aEN fun y hy=>?_;rw [SE];unfold FH;refine box1 rfl fun b0 hb0=>?_;have le1:bE Sz (upd Sz b0 (.row [.list O (pM m) m.length] 31)):= .aH hb0;have r0:upd Sz b0 (.row [.list O (pM m) m.length] 31) b0=some (.row [.list O (pM m) m.length] 31):=upd_same;generalize upd Sz b0 (.row [.list O (pM m) m.length] 31)=S1 at le1 r0;rw [cG r0 rfl];refine hy.call aCl fun z hz=>?_;rw [XV];unfold KE;refine box1 rfl fun br hbr=>aJ ?_;have gP:bE S1 (upd S1 br (.row [.list O (pM m) m.length] 31)):= .aH hbr;have rr:upd S1 br (.row [.list O (pM m) m.length] 31) br=some (.row [.list O (pM m) m.length] 31):=upd_same;generalize upd S1 br (.row [.list O (pM m) m.length] 31)=S2 at gP rr;refine eI (l:=[.VZ]) rfl fun b3 hb3=>?_;refine BD (i:=b3) upd_same rfl (by decide) ?_;rw [fP];have kP:bE S2 (upd S2 b3 (.row [.func fC [] [.ptr br 0]] 164)):= .aH hb3;exact aJ (hK _ b0 b3 br ((le1.trans gP).trans kP) hb0 ((le1.trans gP).none hb3) (le1.none hbr) (kP _ _ (gP _ _ r0)) upd_same (kP _ _ rr))
theorem aCm (hM:1000000<M) (hx:Deep PP bH gM M (n+3) x){O:Tag}{m:List (List Nat)}{l b0 b3 br k:Nat} (hl:m.length<100000) (hk:VY m=k) (hkk:k<100000) (hw:∀i (h:i<m.length),k<=m[i].length){Inv:Nat->Hp->Prop} (hup:∀i Sz S',Inv i Sz->bE Sz S'->Inv i S')
 (hI:∀i Sz,Inv i Sz->Sz b0=some (.row [.list O (pM m) m.length] 31)/\Sz b3=some (.row [.func fC [] [.ptr br 0]] 164)/\Sz br=some (.row [.list O (pM m) m.length] 31))
 (step:∀(y:VE),Deep PP bH gM M (n+2) y->∀(j:Nat) (S0 Sz:Hp) (hj:j<k) (c:V) (K:KV),Inv j Sz->MN S0 Sz c (tS m j)->(∀S',Inv (j+1) S'->K (.bool true) S')->y.R l [ni j,c] Sz K) (h0:Inv 0 Sz) (hK:∀Sz,Inv k Sz->K (.tuple []) Sz):x.call fQ [.yield l,.ptr b0 0,.ptr b3 0] Sz K:=by
 refine hx.call aCk fun y hy=>?_;rw [NW];unfold BH;obtain⟨q1,q2,q3⟩:=hI 0 Sz h0;rw [cG q1 rfl];refine Zm (n:=n+1) hM hy hl ?_;rw [hk,hy.most]
 have inner:∀(r i q m0 j:Nat) (S0 Sz:Hp) (c:V),j<k->i+r=m.length->r<q->Inv j S0->bE S0 Sz->MN S0 Sz c ((tS m j).take i)->(∀S' c,Inv j S'->MN S0 S' c (tS m j)->rL y (.yield l) [ni j,c] S' fun v6 Sz=>IP .not v6 fun v7=>iG v7 (bC (.tuple []) Sz K) (aG PP .add 3 (ni j) (.int .i64 (.ofNat 1)) fun v8=>iY y m0 (.yield l) (.ptr b0 0) (.ptr b3 0) (ni k) v8 Sz K))->
  fI y q m0 (.yield l) (.ptr b0 0) (.ptr b3 0) (ni j) c (ni k) (ni j) (ni m.length) (ni i) Sz K:=by
  intro r;induction r with
  | zero=>
   intro i q m0 j S0 Sz c hj hi hq h hle mc hnext;obtain⟨q,rfl⟩:=Nat.exists_eq_succ_of_ne_zero (show q≠0 by omega);rw [mH];unfold iB;refine aE ?_;rw [aR,lY (by omega),aZ];rw [List.take_of_length_le (by unfold tS;rw [List.length_map];omega)]at mc;exact hnext Sz c (hup _ _ _ h hle) mc
  | succ r ih=>
   intro i q m0 j S0 Sz c hj hi hq h hle mc hnext;obtain⟨q,rfl⟩:=Nat.exists_eq_succ_of_ne_zero (show q≠0 by omega);rw [mH];unfold iB;refine aE ?_;have hi1:i<m.length:=by omega
   obtain⟨p1,p2,p3⟩:=hI j Sz (hup _ _ _ h hle);have hij:j<m[i].length:=Nat.lt_of_lt_of_le hj (hw i hi1);rw [aR,AZ hi1,cU,cG p2 rfl];show y.call fC [ni i,ni j,.ptr br 0] Sz _;refine Zn hy p3 hi1 hij ?_;refine mc.app hle (by rw [List.length_take];omega) fun w S' le' k' mw=>?_;rw [aX (by omega)]
   have e:(tS m j).take i++[m[i][j]]=(tS m j).take (i+1):=by
    rw [List.take_add_one]
    congr 1
    unfold tS;rw [List.getElem?_map,List.getElem?_eq_getElem hi1];simp [List.getD,List.getElem?_eq_getElem hij]
   rw [e]at mw;exact ih (i+1) q m0 j S0 S' w hj (by omega) (by omega) h le' mw hnext
 have outer:∀(r j q:Nat) (Sz:Hp),j+r=k->r<q->Inv j Sz->iY y q (.yield l) (.ptr b0 0) (.ptr b3 0) (ni k) (ni j) Sz K:=by
  intro r;induction r with
  | zero=>
   intro j q Sz hj hq h;obtain⟨q,rfl⟩:=Nat.exists_eq_succ_of_ne_zero (show q≠0 by omega);rw [vK];unfold pE;refine aE ?_;rw [aR,lY (by omega),aZ];have e:j=k:=by omega
   subst e;exact aJ (hK Sz h)
  | succ r ih=>
   intro j q Sz hj hq h;obtain⟨q,rfl⟩:=Nat.exists_eq_succ_of_ne_zero (show q≠0 by omega);rw [vK];unfold pE;refine aE ?_;have hjk:j<k:=by omega
   obtain⟨p1,p2,p3⟩:=hI j Sz h;rw [aR,AZ hjk,cU,cG p1 rfl,gF,hy.most];refine inner m.length 0 M q j Sz Sz .nil hjk (by omega) (by omega) h (.refl _) .nil fun S' c h' mc=>?_;show y.R l [ni j,c] S' _;refine step y hy j Sz S' hjk c _ h' mc fun S'' h''=>?_;rw [jV,Bool.not_true,aZ,aX (by omega)];exact ih (j+1) q S'' (by omega) (by omega) h''
 exact outer k 0 M Sz (by omega) (by omega) h0
end
set_option maxRecDepth 4000
def rowB (m:List (List Nat)) (X:Nat):List Nat:=(List.range (VY m)).map fun j=>ev 23 (tS m j) X
def BS (m:List (List Nat)) (Y:Nat):List Nat:=m.map fun l=>ev 23 l Y
section
variable{M n:Nat}{x:VE}{Sz S0:Hp}{K:KV}{two:Bool}
noncomputable def Ei (a b c:Nat) (st:LoopState):Ob:= .loop [4,5,7] [.ptr a 0,.ptr b 0,.ptr c 0] 25 (tL PP bJ [.r,.r,.l,.r,.d]) (tO PP bJ [.r,.r,.l,.r,.d]) (qD PP bJ [.r,.r,.l,.r,.d]) st none
structure Ls (SA:Hp) (bx bq bo l r k b0 b3 br:Nat) (O:Tag) (m:List (List Nat)) (X i:Nat) (Sz:Hp):Prop where
 le:bE SA Sz
 nr:SA r=none
 nl:SA l=none
 rx:Sz bx=some (.row [nu X] 22)
 rq:Sz bq=some (.row [nu 23] 22)
 ro:Sz bo=some (.row [.own r 0 k k] 32)
 rr:∃us,us.length=k/\(∀j,j<i->us[j]? =some (ev 23 (tS m j) X))/\Sz r=some (.row (gA us) 22)
 lo:Sz l=some (Ei bx bq bo .ready)
 r0:Sz b0=some (.row [.list O (pM m) m.length] 31)
 r3:Sz b3=some (.row [.func fC [] [.ptr br 0]] 164)
 r4:Sz br=some (.row [.list O (pM m) m.length] 31)
 d:r≠l/\r≠bx/\r≠bq/\r≠bo/\r≠b0/\r≠b3/\r≠br/\l≠bx/\l≠bq/\l≠bo/\l≠b0/\l≠b3/\l≠br
theorem Ls.up{SA:Hp}{bx bq bo l r k b0 b3 br:Nat}{O:Tag}{m:List (List Nat)}{X i:Nat}{Sz S':Hp} (h:Ls SA bx bq bo l r k b0 b3 br O m X i Sz) (hle:bE Sz S'):Ls SA bx bq bo l r k b0 b3 br O m X i S':=by
 obtain⟨us,u1,u2,u3⟩:=h.rr;exact⟨h.le.trans hle,h.nr,h.nl,hle _ _ h.rx,hle _ _ h.rq,hle _ _ h.ro,⟨us,u1,u2,hle _ _ u3⟩,hle _ _ h.lo,hle _ _ h.r0,hle _ _ h.r3,hle _ _ h.r4,h.d⟩
theorem row_step (hM:1000000<M) (hx:Deep PP bH gM M (n+3) x){SA:Hp}{bx bq bo l r k b0 b3 br:Nat}{O:Tag}{m:List (List Nat)}{X j:Nat} (hX:b64 X) (hm:∀q∈m,qB q) (hml:m.length<100000) (hj:j<k){Sc Sz:Hp}{c:V}{K:KV} (h:Ls SA bx bq bo l r k b0 b3 br O m X j Sz) (mc:MN Sc Sz c (tS m j))
 (hK:∀S',Ls SA bx bq bo l r k b0 b3 br O m X (j+1) S'->K (.bool true) S'):x.R l [ni j,c] Sz K:=by
 obtain⟨d1,d2,d3,d4,d5,d6,d7,d8,d9,d10,d11,d12,d13⟩:=h.d;refine hx.round fun y hy=>?_;refine CO (st:= .ready) (pe:=none) h.lo NX ?_;rw [NY];unfold AC;refine HH h.lo ?_;obtain⟨us,u1,u2,u3⟩:=h.rr;have hbz:upd Sz l (.loop [4,5,7] [.ptr bx 0,.ptr bq 0,.ptr bo 0] 25 (tL PP bJ [.r,.r,.l,.r,.d]) (tO PP bJ [.r,.r,.l,.r,.d]) (qD PP bJ [.r,.r,.l,.r,.d]) .busy none)=upd Sz l (Ei bx bq bo .busy):=rfl;rw [hbz];have k1:bE SA (upd Sz l (Ei bx bq bo .busy)):=pL h.le h.nl;have kl:upd Sz l (Ei bx bq bo .busy) l=some (Ei bx bq bo .busy):=upd_same;have kx:upd Sz l (Ei bx bq bo .busy) bx=some (.row [nu X] 22):=by rw [aB (Ne.symm d8)];exact h.rx
 have kq:upd Sz l (Ei bx bq bo .busy) bq=some (.row [nu 23] 22):=by rw [aB (Ne.symm d9)];exact h.rq
 have ko:upd Sz l (Ei bx bq bo .busy) bo=some (.row [.own r 0 k k] 32):=by rw [aB (Ne.symm d10)];exact h.ro
 have kr:upd Sz l (Ei bx bq bo .busy) r=some (.row (gA us) 22):=by rw [aB d1];exact u3
 have k0:upd Sz l (Ei bx bq bo .busy) b0=some (.row [.list O (pM m) m.length] 31):=by rw [aB (Ne.symm d11)];exact h.r0
 have k3:upd Sz l (Ei bx bq bo .busy) b3=some (.row [.func fC [] [.ptr br 0]] 164):=by rw [aB (Ne.symm d12)];exact h.r3
 have k4:upd Sz l (Ei bx bq bo .busy) br=some (.row [.list O (pM m) m.length] 31):=by rw [aB (Ne.symm d13)];exact h.r4
 have km:MN Sc (upd Sz l (Ei bx bq bo .busy)) c (tS m j):=mc.set h.lo (fun vs m e=>by cases e) (fun vs e=>by cases e);generalize upd Sz l (Ei bx bq bo .busy)=S1 at k1 kl kx kq ko kr k0 k3 k4 km;rw [cG ko rfl,cG kx rfl,cG kq rfl]
 have c64:qB (tS m j):=fun z hz=>by
  unfold tS at hz;obtain⟨l,hl,rfl⟩:=List.mem_map.1 hz;by_cases hjl:j<l.length
  ·rw [List.getD_eq_getElem?_getD,List.getElem?_eq_getElem hjl];exact hm l hl _ (List.getElem_mem _)
  ·rw [List.getD_eq_getElem?_getD,List.getElem?_eq_none (by omega)];show 0<18446744073709551616;decide
 refine UZ (n:=n) hM hy km.nv (by unfold tS;rw [List.length_map];omega) c64 hX q23 ?_;rw [cG ko rfl,bQ (by rfl)];refine⟨hj,?_⟩;rw [Nat.zero_add,Nat.mul_one];refine BD kr rfl (by rw [cY];omega) ?_;have es:splice j [nu (ev 23 (tS m j) X)] (gA us)=gA (us.set j (ev 23 (tS m j) X)):=by rw [qE (by rw [cY];omega),II]
 rw [es];have l7:upd S1 r (.row (gA (us.set j (ev 23 (tS m j) X))) 22) l=some (Ei bx bq bo .busy):=by rw [aB (Ne.symm d1)];exact kl
 have Hz:∀{i:Nat} {ob:Ob} {o2:Ob},i≠r->i≠l->S1 i=some ob->upd (upd S1 r (.row (gA (us.set j (ev 23 (tS m j) X))) 22)) l o2 i=some ob:=fun {i ob o2} h1 h2 e=>by rw [aB h2,aB h1];exact e
 refine HI l7 (hK _ ⟨pL (pL k1 h.nr) h.nl,h.nr,h.nl,Hz (Ne.symm d2) (Ne.symm d8) kx,Hz (Ne.symm d3) (Ne.symm d9) kq,Hz (Ne.symm d4) (Ne.symm d10) ko,⟨us.set j (ev 23 (tS m j) X),by rw [List.length_set];exact u1,fun i hi=>?_,by rw [aB d1];exact upd_same⟩,upd_same,Hz (Ne.symm d5) (Ne.symm d11) k0,Hz (Ne.symm d6) (Ne.symm d12) k3,Hz (Ne.symm d7) (Ne.symm d13) k4,h.d⟩);by_cases hij:i=j
 ·subst hij;rw [List.getElem?_set_self (by omega)]
 ·rw [List.getElem?_set_ne (Ne.symm hij)];exact u2 i (by omega)
theorem aER (hM:1000000<M) (hx:Deep PP bH gM M (n+8) x){O:Tag}{m:List (List Nat)}{X k:Nat} (hX:b64 X) (hm:∀q∈m,qB q) (hml:m.length<100000) (hk:VY m=k) (hk0:0<k) (hkk:k<1000) (hw:∀i (h:i<m.length),k<=m[i].length)
 (hK:∀t,K (.list t (tV (rowB m X)) k) Sz):x.call bJ [.list O (pM m) m.length,nu X,nu 23] Sz K:=by
 refine hx.call aEO fun y hy=>?_;rw [Ic];unfold RG;refine box1 rfl fun bx hbx=>?_;have le1:bE Sz (upd Sz bx (.row [nu X] 22)):= .aH hbx;have rx:upd Sz bx (.row [nu X] 22) bx=some (.row [nu X] 22):=upd_same;generalize upd Sz bx (.row [nu X] 22)=S1 at le1 rx;refine box1 rfl fun bq hbq=>?_;have gP:bE S1 (upd S1 bq (.row [nu 23] 22)):= .aH hbq;have rq:upd S1 bq (.row [nu 23] 22) bq=some (.row [nu 23] 22):=upd_same;generalize upd S1 bq (.row [nu 23] 22)=S2 at gP rq;refine Zm (n:=n+6) hM hy hml ?_;rw [hk];refine⟨Nat.le_refl _,by omega,by omega,fun r hr=>?_⟩
 have hz:(List.replicate k [nu 0]).flatten=gA (List.replicate k 0):=by
  unfold gA;rw [List.map_replicate];clear hk hk0 hkk hw hK;induction k with
  | zero=>rfl
  | succ k ih=>rw [List.replicate_succ,List.flatten_cons,ih,List.replicate_succ];rfl
 have kP:bE S2 (upd S2 r (.row (gA (List.replicate k 0)) 22)):= .aH hr;have rr:upd S2 r (.row (gA (List.replicate k 0)) 22) r=some (.row (gA (List.replicate k 0)) 22):=upd_same;show eU [(.slice none 0 0)] 32 (upd S2 r (.row (List.replicate k [nu 0]).flatten 22)) _;rw [hz];generalize upd S2 r (.row (gA (List.replicate k 0)) 22)=S3 at kP rr;refine eI (l:=[.nil]) rfl fun bo YL=>?_;refine BD (i:=bo) upd_same rfl (by decide) ?_;rw [fP];have le4:bE S3 (upd S3 bo (.row (splice 0 [.own r 0 k k] [.nil]) 32)):= .aH YL;have ro:upd S3 bo (.row (splice 0 [.own r 0 k k] [.nil]) 32) bo=some (.row [.own r 0 k k] 32):=upd_same;generalize upd S3 bo (.row (splice 0 [.own r 0 k k] [.nil]) 32)=S4 at le4 ro;refine aEQ (n:=n+5) hy fun S5 b0 b3 br wY n0 n3 n4 r0 r3 r4=>?_;refine CP fun l hl=>?_;have hlo:upd S5 l (.loop [4,5,7] [.ptr bx 0,.ptr bq 0,.ptr bo 0] 25 (tL PP bJ [.r,.r,.l,.r,.d]) (tO PP bJ [.r,.r,.l,.r,.d]) (qD PP bJ [.r,.r,.l,.r,.d]) .ready none)=upd S5 l (Ei bx bq bo .ready):=rfl;rw [hlo];have x4:=le4 _ _ (kP _ _ (gP _ _ rx));have q4:=le4 _ _ (kP _ _ rq);have rr4:=le4 _ _ rr;have x5:=wY _ _ x4;have q5:=wY _ _ q4;have o5:=wY _ _ ro;have rr5:=wY _ _ rr4;have AM:=le1.trans gP;have OL:=(AM.trans kP).trans (le4.trans wY);have up:∀{i:Nat} {ob:Ob},S5 i=some ob->upd S5 l (Ei bx bq bo .ready) i=some ob:=fun {i ob} e=>by rw [aB (Ne.symm (ne_of hl e))];exact e
 have inv0:Ls Sz bx bq bo l r k b0 b3 br O m X 0 (upd S5 l (Ei bx bq bo .ready)):=
  ⟨OL.trans (.aH hl),AM.none hr,OL.none hl,up x5,up q5,up o5,⟨List.replicate k 0,by rw [List.length_replicate],fun j hj=>by omega,up rr5⟩,upd_same,up r0,up r3,up r4,
   Ne.symm (ne_of hl rr5),(ne_of hr (gP _ _ rx)),(ne_of hr rq),Ne.symm (ne_of YL rr),Ne.symm (ne_of n0 rr4),Ne.symm (ne_of n3 rr4),Ne.symm (ne_of n4 rr4),ne_of hl x5,ne_of hl q5,ne_of hl o5,ne_of hl r0,ne_of hl r3,ne_of hl r4⟩
 show y.call fQ [.yield l,.ptr b0 0,.ptr b3 0] _ _;refine aCm (n:=n+4) hM hy hml hk (by omega) hw (Inv:=Ls Sz bx bq bo l r k b0 b3 br O m X) (fun i Sz S' h hle=>h.up hle) (fun i Sz h=>⟨h.r0,h.r3,h.r4⟩) (fun z hz j S0 S' hj c K h mc hk'=>row_step (n:=n+3) hM hz hX hm hml hj h mc hk') inv0 fun S6 h6=>?_;obtain⟨us,u1,u2,u3⟩:=h6.rr;obtain⟨d1,d2,d3,d4,d5,d6,d7,d8,d9,d10,d11,d12,d13⟩:=h6.d;refine HJ h6.lo (by simp) ?_;rw [NE];obtain⟨ob,hex⟩:∃ob,upd S6 l (.loop [4,5,7] [.ptr bx 0,.ptr bq 0,.ptr bo 0] 25 (tL PP bJ [.r,.r,.l,.r,.d]) (tO PP bJ [.r,.r,.l,.r,.d]) (qD PP bJ [.r,.r,.l,.r,.d]) .exhausted none)=upd S6 l ob:=⟨_,rfl⟩;rw [hex];have Pi:bE Sz (upd S6 l ob):=pL h6.le h6.nl;have ro7:upd S6 l ob bo=some (.row [.own r 0 k k] 32):=by rw [aB (Ne.symm d10)];exact h6.ro
 have rr7:upd S6 l ob r=some (.row (gA us) 22):=by rw [aB d1];exact u3
 have eus:us=rowB m X:=by
  refine List.ext_getElem? fun j=>?_;unfold rowB;rw [List.getElem?_map,hk];by_cases hj:j<k
  ·rw [u2 j hj,List.getElem?_range hj];rfl
  ·rw [List.getElem?_eq_none (by omega),List.getElem?_eq_none (by simp;omega)];rfl
 rw [cG ro7 rfl];refine AA Pi (cs:=tV (rowB m X)) (n:=k) (.own rr7 h6.nr (Nat.le_refl _) (by rw [EA,<-eus,cY,u1];omega) fun j v d x1 x2=>?_) hK;rw [eus,Nat.zero_add]at x1;unfold gA at x1;unfold tV at x2;rw [List.getElem?_map]at x1 x2;cases e:(rowB m X)[j]? with
 | none=>rw [e]at x1;cases x1
 | some c=>rw [e]at x1 x2;injection x1 with x1;injection x2 with x2;subst x1 x2;exact .int
end
set_option maxRecDepth 4000
theorem zeros{k:Nat}:(List.replicate k [nu 0]).flatten=gA (List.replicate k 0):=by
 unfold gA;rw [List.map_replicate];induction k with
 | zero=>rfl
 | succ k ih=>rw [List.replicate_succ,List.flatten_cons,ih,List.replicate_succ];rfl
section
variable{M n:Nat}{x:VE}{Sz S0:Hp}{K:KV}{two:Bool}
theorem Id{S':Hp}{r:Nat}{l:List Nat} (le:bE S' Sz) (hn:S' r=none) (hr:Sz r=some (.row (gA l) 22)) (hK:∀t,K (.list t (tV l) l.length) S'):bC (.own r 0 l.length l.length) Sz K:=by
 refine AA le (cs:=tV l) (n:=l.length) (.own hr hn (Nat.le_refl _) (by rw [EA,cY];omega) fun j v d x1 x2=>?_) hK;rw [Nat.zero_add]at x1;unfold gA at x1;unfold tV at x2;rw [List.getElem?_map]at x1 x2;cases e:l[j]? with
 | none=>rw [e]at x1;cases x1
 | some c=>rw [e]at x1 x2;injection x1 with x1;injection x2 with x2;subst x1 x2;exact .int
theorem Zo (hM:1000000<M) (hx:Deep PP bH gM M (n+4) x){O:Tag}{m:List (List Nat)}{Y:Nat} (hY:b64 Y) (hm:∀q∈m,qB q) (hml:m.length<1000) (hmq:∀q∈m,q.length<100000)
 (hK:∀t,K (.list t (tV (BS m Y)) m.length) Sz):x.call gY [.list O (pM m) m.length,nu Y,nu 23] Sz K:=by
 refine hx.call aEP fun y hy=>?_;rw [Ie];unfold RH;rw [gF,hy.most];refine⟨Nat.le_refl _,by omega,by omega,fun r hr=>?_⟩;show lU y M (nu Y) (nu 23) (.own r 0 m.length m.length) (.list O (pM m) m.length) (ni m.length) (ni 0) (upd Sz r (.row (List.replicate m.length [nu 0]).flatten 22)) K;rw [zeros];have hcl:(BS m Y).length=m.length:=by unfold BS;rw [List.length_map]
 have go:∀(k i q:Nat) (S1:Hp) (us:List Nat),i+k=m.length->k<q->bE Sz S1->S1 r=some (.row (gA us) 22)->us.length=m.length->us.take i=(BS m Y).take i->lU y q (nu Y) (nu 23) (.own r 0 m.length m.length) (.list O (pM m) m.length) (ni m.length) (ni i) S1 K:=by
  intro k;induction k with
  | zero=>
   intro i q S1 us hi hq le rr hus he;obtain⟨q,rfl⟩:=Nat.exists_eq_succ_of_ne_zero (show q≠0 by omega);rw [AD];unfold sS;refine aE ?_;rw [aR,lY (by omega),aZ];rw [List.take_of_length_le (by omega),List.take_of_length_le (by omega)]at he;subst he;have:=Id (K:=K) le hr rr (fun t=>by rw [hcl];exact hK t);rw [hcl]at this;exact this
  | succ k ih=>
   intro i q S1 us hi hq le rr hus he;obtain⟨q,rfl⟩:=Nat.exists_eq_succ_of_ne_zero (show q≠0 by omega);rw [AD];unfold sS;refine aE ?_;have hi1:i<m.length:=by omega
   rw [aR,AZ hi1,cU,lidx hi1,Ps hi1];refine UZ (n:=n+1) hM hy .list (by have:=hmq _ (List.getElem_mem hi1);omega) (hm _ (List.getElem_mem hi1)) hY q23 ?_;refine⟨hi1,?_⟩;rw [Nat.zero_add,Nat.mul_one];refine BD rr rfl (by rw [cY];omega) ?_;rw [qE (by rw [cY];omega),II,aX (by omega)];refine ih (i+1) q _ (us.set i (ev 23 m[i] Y)) (by omega) (by omega) (fun j o e=>by rw [aB (fun c=>by rw [c,hr]at e;cases e)];exact le _ _ e) upd_same (by rw [List.length_set];exact hus) ?_
   have e1:(us.set i (ev 23 m[i] Y)).take (i+1)=us.take i++[ev 23 m[i] Y]:=by
    rw [List.take_add_one,List.take_set_of_le (Nat.le_refl i),List.getElem?_set_self (by omega)];rfl
   have e2:(BS m Y).take (i+1)=(BS m Y).take i++[ev 23 m[i] Y]:=by
    rw [List.take_add_one];unfold BS;rw [List.getElem?_map,List.getElem?_eq_getElem hi1];rfl
   rw [e1,e2,he]
 exact go m.length 0 M _ (List.replicate m.length 0) (by omega) (by omega) (.aH hr) upd_same (by rw [List.length_replicate]) rfl
theorem aCn{l:List (Nat×Nat)}:∀{i a b:Nat},i<l.length->splice (i*2) [nu a,nu b] (XH l)=XH (l.set i (a,b)):=by
 induction l with
 | nil=>intro i a b h;cases h
 | cons p l ih=>
  intro i a b h;cases i with
  | zero=>rfl
  | succ i=>
   have:=ih (i:=i) (a:=a) (b:=b) (by simpa using h);rw [List.set_cons_succ];show splice ((i+1)*2) [nu a,nu b] (nu p.1::nu p.2::XH l)=nu p.1::nu p.2::XH (l.set i (a,b));rw [<-this];unfold splice;rw [show(i+1)*2=i*2+1+1 by omega,List.take_succ_cons,List.take_succ_cons,show i*2+1+1+[nu a,nu b].length=i*2+[nu a,nu b].length+1+1 by omega,List.drop_succ_cons,List.drop_succ_cons];rfl
theorem Zp (hx:Deep PP bH gM M (n+1) x) (hM:1000000<M){O1 O2:Tag}{a b:List Nat} (hlen:b.length=a.length) (hl:a.length<1000) (hK:∀t,K (.list t (PF (List.zip a b)) a.length) Sz):x.call jZ [.list O1 (tV a) a.length,.list O2 (tV b) a.length] Sz K:=by
 refine hx.call Zl fun y hy=>?_;rw [Dl];unfold NZ;rw [gF];refine⟨Nat.le_refl _,by omega,by omega,fun r hr=>?_⟩
 have hz:(List.replicate a.length [nu 0,nu 0]).flatten=XH (List.replicate a.length (0,0)):=by
  generalize a.length=k;induction k with
  | zero=>rfl
  | succ k ih=>rw [List.replicate_succ,List.flatten_cons,ih,List.replicate_succ];rfl
 show kU y y.most (.list O1 (tV a) a.length) (.list O2 (tV b) a.length) (.own r 0 a.length a.length) (ni a.length) (ni 0) (upd Sz r (.row (List.replicate a.length [nu 0,nu 0]).flatten 73)) K;rw [hz,hy.most];have hzl:(List.zip a b).length=a.length:=by rw [List.length_zip];omega
 have go:∀(k i q:Nat) (S1:Hp) (us:List (Nat×Nat)),i+k=a.length->k<q->bE Sz S1->S1 r=some (.row (XH us) 73)->us.length=a.length->us.take i=(List.zip a b).take i->kU y q (.list O1 (tV a) a.length) (.list O2 (tV b) a.length) (.own r 0 a.length a.length) (ni a.length) (ni i) S1 K:=by
  intro k;induction k with
  | zero=>
   intro i q S1 us hi hq le rr hus he;obtain⟨q,rfl⟩:=Nat.exists_eq_succ_of_ne_zero (show q≠0 by omega);rw [xZ];unfold rM;refine aE ?_;rw [aR,lY (by omega),aZ];rw [List.take_of_length_le (by omega),List.take_of_length_le (by omega)]at he;subst he;exact AA le (cs:=PF (List.zip a b)) (n:=a.length) (.own rr hr (Nat.le_refl _) (by rw [ST,Pa];omega) fun j v d x1 x2=>aFN _ j v d (by rw [Nat.zero_add]at x1;exact x1) x2) hK
  | succ k ih=>
   intro i q S1 us hi hq le rr hus he;obtain⟨q,rfl⟩:=Nat.exists_eq_succ_of_ne_zero (show q≠0 by omega);rw [xZ];unfold rM;refine aE ?_;have hi1:i<a.length:=by omega
   have hi2:i<b.length:=by omega
   rw [aR,AZ hi1,cU,lidx hi1,uN,bR (UW (List.getElem?_eq_getElem hi1)),lidx hi1,uN,bR (UW (List.getElem?_eq_getElem hi2))];show gQ [(.int .u64 (.ofNat 0)),(.int .u64 (.ofNat 0))] [(0,1,nu a[i]),(1,1,nu b[i])] _;rw [Wz];refine⟨hi1,?_⟩
   have hst:∀{k:Hp->Prop},k (upd S1 r (.row (splice (i*2) [nu a[i],nu b[i]] (XH us)) 73))->rH 2 (.ptr r (i*2)) (.agg [nu a[i],nu b[i]]) S1 k:=fun {k} hk=>by
    unfold rH;simp only [rr];refine⟨rfl,rfl,by rw [ST];show i*2+2<=_;omega,hk⟩
   rw [Nat.zero_add];refine hst ?_;rw [aCn (by omega),aX (by omega)];refine ih (i+1) q _ (us.set i (a[i],b[i])) (by omega) (by omega) (fun j o e=>by rw [aB (fun c=>by rw [c,hr]at e;cases e)];exact le _ _ e) upd_same (by rw [List.length_set];exact hus) ?_;have hi3:i<(List.zip a b).length:=by omega
   have e1:(us.set i (a[i],b[i])).take (i+1)=us.take i++[(a[i],b[i])]:=by
    rw [List.take_add_one,List.take_set_of_le (Nat.le_refl i),List.getElem?_set_self (by omega)];rfl
   have e2:(List.zip a b).take (i+1)=(List.zip a b).take i++[(a[i],b[i])]:=by
    rw [List.take_add_one,List.getElem?_eq_getElem hi3,List.getElem_zip];rfl
   rw [e1,e2,he]
 exact go a.length 0 M _ (List.replicate a.length (0,0)) (by omega) (by omega) (.aH hr) upd_same (by rw [List.length_replicate]) rfl
end
end Go.Am
set_option maxRecDepth 100000
namespace Go.Am
end Go.Am
set_option maxRecDepth 4000
namespace Go.Am
open Go.Proofs.JQ
section
variable{M n:Nat}{x:VE}{Sz:Hp}{K:KV}{two:Bool}
theorem RF{p:Nat} (rp:Sz p=some (.row (pv two) 25)){K:KV}:bF 12 (.ptr p 0) Sz K=K (.agg (pv two)) Sz:=by
 rw [iU rp,cF (by rw [hH];omega),List.drop_zero,List.take_of_length_le (by rw [hH];omega)]
end
end Go.Am
set_option maxRecDepth 100000
namespace Go.Am
noncomputable def aA3 (P:Program) (tb:FuncId->mE) (f:FuncId) (E:VE) (p:List Dir) (m:Nat) (ms:List Nat) (vs:List V) (Sz:Hp) (K:KV):Prop:=
 match P.funcs[f]? with
 | some fn=>match fn.body with
  | some c=>nN P (tb f) none E p vI c ms (aAu P fn K) fun D c K=>match D,c with
   | D+1,.loop a=>Qe (β:=List V->Nat->Hp->Prop) (fun _ _ _=>False) (fun _ ih vs n Sz=>cT Sz fun Sz=>EI (rF (tb f) a) vs n P.globals.size fun A=>(mI P (tb f) none (JD P (tb f) none D) a).f E A Sz (Dx (tb f) a ih (Tq P (tb f) a K))) m vs fn.ntmps Sz
   | _,_=>False
  | none=>False
 | none=>False
noncomputable def oK (x:VE) (m:Nat) (t2 t3 t4 t8 t10 t11 t38 t39 t40:V) (Sz:Hp) (K:KV):Prop:=eT PP bH kF x [.r,.r,.r,.l,.r,.d] m [] [t2,t3,t4,t8,t10,t11,t38,t39,t40] Sz K
noncomputable def dO (x:VE) (m:Nat) (t2 t4 t8 t10 t11 t14 t15:V) (Sz:Hp) (K:KV):Prop:=eT PP bH kF x [.r,.r,.r,.r,.r,.l,.r,.d] m [] [t2,t4,t8,t10,t11,t14,t15] Sz K
noncomputable def bK (x:VE) (m:Nat) (m0:Nat) (t2 t4 t8 t10 t11 t14 t15 t16 t17 t75 t76:V) (Sz:Hp) (K:KV):Prop:=eT PP bH kF x [.r,.r,.r,.r,.r,.l,.r,.d,.d,.r,.l,.d,.r,.l,.r,.d] m [m0] [t2,t4,t8,t10,t11,t14,t15,t16,t17,t75,t76] Sz K
noncomputable def RI (x:VE) (a0 a1 a2 a3:V) (Sz:Hp) (K:KV):Prop:=
 jO 25 a0 Sz fun v0 Sz=>
 eU [(.slice none 0 0),(.slice none 0 0),(.slice none 0 0)] 60 Sz fun v1 Sz=>
 bF 12 v0 Sz fun v2 Sz=>
 x.call nU [v2] Sz fun v3 Sz=>
 IP .not v3 fun v4=>
 aD x.most (aC false v4 (fun k=>k a1 Sz) Sz fun v5 Sz=>
 aD x.most (aC false v4 (fun k=>aV v5 fun v6=>
 k v6 Sz) Sz fun v7 Sz=>
 aD x.most (aC false v4 (fun k=>bF 12 v0 Sz fun v8 Sz=>
 k v8 Sz) Sz fun v9 Sz=>
 aD x.most (aC false v4 (fun k=>x.call qN [v9] Sz fun v10 Sz=>
 k v10 Sz) Sz fun v11 Sz=>
 aD x.most (aC false v4 (fun k=>aG PP .neq 3 v7 v11 fun v12=>
 k v12 Sz) Sz fun v13 Sz=>
 aD x.most (dA v4 (.bool true) v13 fun v14=>
 aD x.most (aC false v14 (fun k=>k a2 Sz) Sz fun v15 Sz=>
 aD x.most (aC false v14 (fun k=>aG PP .lss 3 v15 (.int .i64 (.ofNat 1)) fun v16=>
 k v16 Sz) Sz fun v17 Sz=>
 aD x.most (dA v14 (.bool true) v17 fun v18=>
 aD x.most (aC false v18 (fun k=>k a2 Sz) Sz fun v19 Sz=>
 aD x.most (aC false v18 (fun k=>aG PP .gtr 3 v19 (.int .i64 (.ofNat 7)) fun v20=>
 k v20 Sz) Sz fun v21 Sz=>
 aD x.most (dA v18 (.bool true) v21 fun v22=>
 iG v22 (gQ [(.slice none 0 0),(.slice none 0 0),(.slice none 0 0)] [] fun v23=>
 rH 3 v1 v23 Sz fun Sz=>
 bF 3 v1 Sz fun v24 _=>
 bC (.tuple [v24,(.int .i64 (.ofNat 1))]) Sz K) (aV a1 fun v25=>
 oK x x.most a2 a3 v0 v1 .nil .nil a1 v25 (.int .i64 (.ofNat 0)) Sz K)))))))))))))
theorem Ih (x:VE) (a0 a1 a2 a3:V) (Sz:Hp) (K:KV):lG PP bH kF x [a0,a1,a2,a3] Sz K=RI x a0 a1 a2 a3 Sz K:=by kernel_rfl
noncomputable def rN (x:VE) (m0:Nat) (t2 t3 t4 t8 t10 t11 t38 t39 t40:V) (Sz:Hp) (K:KV):Prop:=
 cT Sz fun Sz=>
 aG PP .lss 3 t40 t39 fun v0=>
 iG v0 (bY 2 t38 t40 fun v1=>
 bF 2 v1 Sz fun v2 Sz=>
 eU [(.int .u64 (.ofNat 0)),(.int .u64 (.ofNat 0))] 73 Sz fun v3 Sz=>
 rH 2 v3 v2 Sz fun Sz=>
 bF 12 t4 Sz fun v4 Sz=>
 bI 0 v3 fun v5=>
 aS v5 Sz fun v6 Sz=>
 x.call wC [v4,v6,(.func bN [t3] [])] Sz fun v7 Sz=>
 aP 31 1 [(.slice none 0 0)] [(0,1,v7)] Sz fun v8 Sz=>
 kI 31 1 24 t10 v8 Sz fun v9 Sz=>
 bF 12 t4 Sz fun v10 Sz=>
 bI 1 v3 fun v11=>
 aS v11 Sz fun v12 Sz=>
 x.call wC [v10,v12,(.func bN [t3] [])] Sz fun v13 Sz=>
 aP 31 1 [(.slice none 0 0)] [(0,1,v13)] Sz fun v14 Sz=>
 kI 31 1 24 t11 v14 Sz fun v15 Sz=>
 aG PP .add 3 t40 (.int .i64 (.ofNat 1)) fun v16=>
 oK x m0 t2 t3 t4 t8 v9 v15 t38 t39 v16 Sz K) (bF 12 t4 Sz fun v17 Sz=>
 x.call aU [v17,t10,t11] Sz fun v18 Sz=>
 gQ [(.slice none 0 0),(.slice none 0 0),(.slice none 0 0)] [(0,1,v18)] fun v19=>
 eU [(.slice none 0 0),(.slice none 0 0),(.slice none 0 0)] 60 Sz fun v20 Sz=>
 rH 3 v20 v19 Sz fun Sz=>
 dO x x.most t2 t4 t8 t10 t11 v20 (.int .u64 (.ofNat 1)) Sz K)
theorem yA (x:VE) (m0:Nat) (t2 t3 t4 t8 t10 t11 t38 t39 t40:V) (Sz:Hp) (K:KV):oK x (m0+1) t2 t3 t4 t8 t10 t11 t38 t39 t40 Sz K=rN x m0 t2 t3 t4 t8 t10 t11 t38 t39 t40 Sz K:=by kernel_rfl
noncomputable def pI (x:VE) (m:Nat) (t2 t4 t8 t10 t11 t14 t15:V) (Sz:Hp) (K:KV):Prop:=aA3 PP bH kF x [.r,.r,.r,.r,.r,.l,.r,.d] m [] [t2,t4,t8,t10,t11,t14,t15] Sz K
theorem EP (x:VE) (m:Nat) (t2 t4 t8 t10 t11 t14 t15:V) (Sz:Hp) (K:KV):dO x m t2 t4 t8 t10 t11 t14 t15 Sz K=pI x m t2 t4 t8 t10 t11 t14 t15 Sz K:=by kernel_rfl
noncomputable def dP (x:VE) (m:Nat) (m0:Nat) (t2 t4 t8 t10 t11 t14 t15 t16 t17 t75 t76:V) (Sz:Hp) (K:KV):Prop:=aA3 PP bH kF x [.r,.r,.r,.r,.r,.l,.r,.d,.d,.r,.l,.d,.r,.l,.r,.d] m [m0] [t2,t4,t8,t10,t11,t14,t15,t16,t17,t75,t76] Sz K
theorem nO (x:VE) (m:Nat) (m0:Nat) (t2 t4 t8 t10 t11 t14 t15 t16 t17 t75 t76:V) (Sz:Hp) (K:KV):bK x m m0 t2 t4 t8 t10 t11 t14 t15 t16 t17 t75 t76 Sz K=dP x m m0 t2 t4 t8 t10 t11 t14 t15 t16 t17 t75 t76 Sz K:=by kernel_rfl
noncomputable def pF (x:VE) (m0:Nat) (t2 t4 t8 t10 t11 t14 t15:V) (Sz:Hp) (K:KV):Prop:=
 cT Sz fun Sz=>
 AL .u64 t2 fun v0=>
 aG PP .leq 22 t15 v0 fun v1=>
 iG v1 (aV t10 fun v2=>
 bK x x.most m0 t2 t4 t8 t10 t11 t14 t15 .nil .nil v2 (.int .i64 (.ofNat 0)) Sz K) (bF 3 t14 Sz fun v3 Sz=>
 rH 3 t8 v3 Sz fun Sz=>
 bF 3 t8 Sz fun v4 _=>
 bC (.tuple [v4,(.int .i64 (.ofNat 0))]) Sz K)
noncomputable def EQ (lp:VE->Nat->Nat->V->V->V->V->V->V->V->V->V->V->V->Hp->KV->Prop) (x:VE) (m0:Nat) (t2 t4 t8 t10 t11 t14 t15:V) (Sz:Hp) (K:KV):Prop:=
 cT Sz fun Sz=>
 AL .u64 t2 fun v0=>
 aG PP .leq 22 t15 v0 fun v1=>
 iG v1 (aV t10 fun v2=>
 lp x x.most m0 t2 t4 t8 t10 t11 t14 t15 .nil .nil v2 (.int .i64 (.ofNat 0)) Sz K) (bF 3 t14 Sz fun v3 Sz=>
 rH 3 t8 v3 Sz fun Sz=>
 bF 3 t8 Sz fun v4 _=>
 bC (.tuple [v4,(.int .i64 (.ofNat 0))]) Sz K)
theorem vL (x:VE) (m0:Nat) (t2 t4 t8 t10 t11 t14 t15:V) (Sz:Hp) (K:KV):dO x (m0+1) t2 t4 t8 t10 t11 t14 t15 Sz K=pF x m0 t2 t4 t8 t10 t11 t14 t15 Sz K:=by
 have h1:dO x (m0+1) t2 t4 t8 t10 t11 t14 t15 Sz K=EQ dP x m0 t2 t4 t8 t10 t11 t14 t15 Sz K:=by kernel_rfl
 have h2:bK=dP:=by funext x m m0 t2 t4 t8 t10 t11 t14 t15 t16 t17 t75 t76 Sz K;exact nO ..
 rw [h1,<-h2];rfl
noncomputable def iZ (x:VE) (m1:Nat) (m0:Nat) (t2 t4 t8 t10 t11 t14 t15 t16 t17 t75 t76:V) (Sz:Hp) (K:KV):Prop:=
 cT Sz fun Sz=>
 aG PP .lss 3 t76 t75 fun v0=>
 iG v0 (bY 1 t10 t76 fun v1=>
 aS v1 Sz fun v2 Sz=>
 bI 1 t4 fun v3=>
 aS v3 Sz fun v4 Sz=>
 bY 1 t11 t76 fun v5=>
 aS v5 Sz fun v6 Sz=>
 bI 1 t4 fun v7=>
 aS v7 Sz fun v8 Sz=>
 x.call bJ [v2,t15,v4] Sz fun v9 Sz=>
 aS v7 Sz fun v10 _=>
 aL v10 v8 (aS v5 Sz fun v11 _=>
 aL v11 v6 (x.call bJ [v6,t15,v8] Sz fun v12 Sz=>
 x.call jZ [v9,v12] Sz fun v13 Sz=>
 (aP 44 1 [(.slice none 0 0)] [(0,1,v13)] Sz fun v14 Sz=>
 True)/\(aP 44 1 [(.slice none 0 0)] [(0,1,v13)] Sz fun v15 Sz=>
 kI 44 1 24 t16 v15 Sz fun v16 Sz=>
 bY 1 t10 t76 fun v17=>
 aS v17 Sz fun v18 Sz=>
 bI 1 t4 fun v19=>
 aS v19 Sz fun v20 Sz=>
 bY 1 t11 t76 fun v21=>
 aS v21 Sz fun v22 Sz=>
 bI 1 t4 fun v23=>
 aS v23 Sz fun v24 Sz=>
 x.call gY [v18,t15,v20] Sz fun v25 Sz=>
 aS v23 Sz fun v26 _=>
 aL v26 v24 (aS v21 Sz fun v27 _=>
 aL v27 v22 (x.call gY [v22,t15,v24] Sz fun v28 Sz=>
 x.call jZ [v25,v28] Sz fun v29 Sz=>
 (aP 44 1 [(.slice none 0 0)] [(0,1,v29)] Sz fun v30 Sz=>
 True)/\(aP 44 1 [(.slice none 0 0)] [(0,1,v29)] Sz fun v31 Sz=>
 kI 44 1 24 t17 v31 Sz fun v32 Sz=>
 aG PP .add 3 t76 (.int .i64 (.ofNat 1)) fun v33=>
 bK x m1 m0 t2 t4 t8 t10 t11 t14 t15 v16 v32 t75 v33 Sz K))))))) (bI 1 t14 fun v34=>
 aS v34 Sz fun v35 Sz=>
 bI 2 t14 fun v36=>
 aS v36 Sz fun v37 Sz=>
 aS v36 Sz fun v38 _=>
 aL v38 v37 (aS v34 Sz fun v39 _=>
 aL v39 v35 ((aP 30 1 [(.slice none 0 0)] [(0,1,t16)] Sz fun v40 Sz=>
 True)/\((aP 30 1 [(.slice none 0 0)] [(0,1,t17)] Sz fun v41 Sz=>
 True)/\(aP 30 1 [(.slice none 0 0)] [(0,1,t16)] Sz fun v42 Sz=>
 kI 30 1 24 v35 v42 Sz fun v43 Sz=>
 aS v36 Sz fun v44 _=>
 aL v44 v37 (bI 1 t14 fun v49=>
 aS v36 Sz fun v45 _=>
 aL v45 v37 ((aP 30 1 [(.slice none 0 0)] [(0,1,t17)] Sz fun v46 Sz=>
 True)/\(aP 30 1 [(.slice none 0 0)] [(0,1,t17)] Sz fun v47 Sz=>
 kI 30 1 24 v37 v47 Sz fun v48 Sz=>
 rH 1 v49 v43 Sz fun Sz=>
 bI 2 t14 fun v50=>
 rH 1 v50 v48 Sz fun Sz=>
 aG PP .add 22 t15 (.int .u64 (.ofNat 1)) fun v51=>
 dO x m0 t2 t4 t8 t10 t11 t14 v51 Sz K))))))))
noncomputable def wH (lo:VE->Nat->V->V->V->V->V->V->V->Hp->KV->Prop) (li:VE->Nat->Nat->V->V->V->V->V->V->V->V->V->V->V->Hp->KV->Prop) (x:VE) (m1:Nat) (m0:Nat) (t2 t4 t8 t10 t11 t14 t15 t16 t17 t75 t76:V) (Sz:Hp) (K:KV):Prop:=
 cT Sz fun Sz=>
 aG PP .lss 3 t76 t75 fun v0=>
 iG v0 (bY 1 t10 t76 fun v1=>
 aS v1 Sz fun v2 Sz=>
 bI 1 t4 fun v3=>
 aS v3 Sz fun v4 Sz=>
 bY 1 t11 t76 fun v5=>
 aS v5 Sz fun v6 Sz=>
 bI 1 t4 fun v7=>
 aS v7 Sz fun v8 Sz=>
 x.call bJ [v2,t15,v4] Sz fun v9 Sz=>
 aS v7 Sz fun v10 _=>
 aL v10 v8 (aS v5 Sz fun v11 _=>
 aL v11 v6 (x.call bJ [v6,t15,v8] Sz fun v12 Sz=>
 x.call jZ [v9,v12] Sz fun v13 Sz=>
 (aP 44 1 [(.slice none 0 0)] [(0,1,v13)] Sz fun v14 Sz=>
 True)/\(aP 44 1 [(.slice none 0 0)] [(0,1,v13)] Sz fun v15 Sz=>
 kI 44 1 24 t16 v15 Sz fun v16 Sz=>
 bY 1 t10 t76 fun v17=>
 aS v17 Sz fun v18 Sz=>
 bI 1 t4 fun v19=>
 aS v19 Sz fun v20 Sz=>
 bY 1 t11 t76 fun v21=>
 aS v21 Sz fun v22 Sz=>
 bI 1 t4 fun v23=>
 aS v23 Sz fun v24 Sz=>
 x.call gY [v18,t15,v20] Sz fun v25 Sz=>
 aS v23 Sz fun v26 _=>
 aL v26 v24 (aS v21 Sz fun v27 _=>
 aL v27 v22 (x.call gY [v22,t15,v24] Sz fun v28 Sz=>
 x.call jZ [v25,v28] Sz fun v29 Sz=>
 (aP 44 1 [(.slice none 0 0)] [(0,1,v29)] Sz fun v30 Sz=>
 True)/\(aP 44 1 [(.slice none 0 0)] [(0,1,v29)] Sz fun v31 Sz=>
 kI 44 1 24 t17 v31 Sz fun v32 Sz=>
 aG PP .add 3 t76 (.int .i64 (.ofNat 1)) fun v33=>
 li x m1 m0 t2 t4 t8 t10 t11 t14 t15 v16 v32 t75 v33 Sz K))))))) (bI 1 t14 fun v34=>
 aS v34 Sz fun v35 Sz=>
 bI 2 t14 fun v36=>
 aS v36 Sz fun v37 Sz=>
 aS v36 Sz fun v38 _=>
 aL v38 v37 (aS v34 Sz fun v39 _=>
 aL v39 v35 ((aP 30 1 [(.slice none 0 0)] [(0,1,t16)] Sz fun v40 Sz=>
 True)/\((aP 30 1 [(.slice none 0 0)] [(0,1,t17)] Sz fun v41 Sz=>
 True)/\(aP 30 1 [(.slice none 0 0)] [(0,1,t16)] Sz fun v42 Sz=>
 kI 30 1 24 v35 v42 Sz fun v43 Sz=>
 aS v36 Sz fun v44 _=>
 aL v44 v37 (bI 1 t14 fun v49=>
 aS v36 Sz fun v45 _=>
 aL v45 v37 ((aP 30 1 [(.slice none 0 0)] [(0,1,t17)] Sz fun v46 Sz=>
 True)/\(aP 30 1 [(.slice none 0 0)] [(0,1,t17)] Sz fun v47 Sz=>
 kI 30 1 24 v37 v47 Sz fun v48 Sz=>
 rH 1 v49 v43 Sz fun Sz=>
 bI 2 t14 fun v50=>
 rH 1 v50 v48 Sz fun Sz=>
 aG PP .add 22 t15 (.int .u64 (.ofNat 1)) fun v51=>
 lo x m0 t2 t4 t8 t10 t11 t14 v51 Sz K))))))))
theorem nX (x:VE) (m1:Nat) (m0:Nat) (t2 t4 t8 t10 t11 t14 t15 t16 t17 t75 t76:V) (Sz:Hp) (K:KV):bK x (m1+1) m0 t2 t4 t8 t10 t11 t14 t15 t16 t17 t75 t76 Sz K=iZ x m1 m0 t2 t4 t8 t10 t11 t14 t15 t16 t17 t75 t76 Sz K:=by
 have h1:bK x (m1+1) m0 t2 t4 t8 t10 t11 t14 t15 t16 t17 t75 t76 Sz K=wH pI dP x m1 m0 t2 t4 t8 t10 t11 t14 t15 t16 t17 t75 t76 Sz K:=by kernel_rfl
 have h2:bK=dP:=by funext x m m0 t2 t4 t8 t10 t11 t14 t15 t16 t17 t75 t76 Sz K;exact nO ..
 have h3:dO=pI:=by funext x m t2 t4 t8 t10 t11 t14 t15 Sz K;exact EP ..
 rw [h1,<-h2,<-h3];rfl
end Go.Am
set_option maxRecDepth 4000
namespace Go.Am
open Go.Proofs.JQ
theorem Tape.Pt{Sz S':Hp}{t d:Nat}{s:BitVec 64}{ah:List Nat}{el:TypeId} (he:el≠22) (h:Tape Sz t s ah d) (hs:∀j o,Sz j=some o->(∀vs m,o≠ .dF vs el m)->S' j=some o):Tape S' t s ah d:=by
 obtain⟨w,h1,h2⟩:=h;refine⟨w,hs _ _ h1 (fun vs m e=>by cases e),h2.dF fun j vs m e=>hs _ _ e fun vs m c=>?_⟩;injection c with c1 c2 c3;exact he c2.symm
def fM (n Q:Nat):List (Nat×Nat)->List Nat->List (List (List Nat))
 | [],_=>[]
 | p::l,D=>iO n (p.1%23::D.take Q)::fM n Q l (D.drop (Q+Q))
def bM (n Q:Nat):List (Nat×Nat)->List Nat->List (List (List Nat))
 | [],_=>[]
 | p::l,D=>iO n (p.2%23::(D.drop Q).take Q)::bM n Q l (D.drop (Q+Q))
theorem SY{n Q:Nat}{p:Nat×Nat}{l:List (Nat×Nat)}{D:List Nat}:fM n Q (p::l) D=iO n (p.1%23::D.take Q)::fM n Q l (D.drop (Q+Q)):=rfl
theorem SZ{n Q:Nat}{p:Nat×Nat}{l:List (Nat×Nat)}{D:List Nat}:bM n Q (p::l) D=iO n (p.2%23::(D.drop Q).take Q)::bM n Q l (D.drop (Q+Q)):=rfl
theorem Lt (n Q:Nat):∀(l:List (Nat×Nat)) (D:List Nat),(fM n Q l D).length=l.length:=by
 intro l;induction l with
 | nil=>intro D;rfl
 | cons p l ih=>intro D;show(fM n Q l _).length+1=_;rw [ih];rfl
theorem Lu (n Q:Nat):∀(l:List (Nat×Nat)) (D:List Nat),(bM n Q l D).length=l.length:=by
 intro l;induction l with
 | nil=>intro D;rfl
 | cons p l ih=>intro D;show(bM n Q l _).length+1=_;rw [ih];rfl
section
variable{M n:Nat}{x:VE}{Sz S0:Hp}{K:KV}{two:Bool}{t d:Nat}{s:BitVec 64}{ah:List Nat}
theorem aES:gM kF=none:=rfl
theorem Zq (hM:1000000<M) (hx:Deep PP bH gM M (n+21) x){bp bd N:Nat}{SB:Hp}{O:Tag}{L:List (Nat×Nat)} (hL:L.length<1000) (aET:∀p∈L,b64 p.1/\b64 p.2){AH:List Nat}{S:BitVec 64}
 (hK:∀Sz v w,bE SB Sz->Sz bp=some (.row (pv two) 25)->Sz bd=some (.row [.nil,.nil,.nil] 60)->GL 31 SB Sz v (mD (fM (tT two+1) (tQ two) L (drawn ((tQ two+tQ two)*L.length) AH S)))->GL 31 SB Sz w (mD (bM (tT two+1) (tQ two) L (drawn ((tQ two+tQ two)*L.length) AH S)))->
  (bF 12 (.ptr bp 0) Sz fun v17 Sz=>x.call aU [v17,v,w] Sz fun v18 Sz=>gQ [(.slice none 0 0),(.slice none 0 0),(.slice none 0 0)] [(0,1,v18)] fun v19=>eU [(.slice none 0 0),(.slice none 0 0),(.slice none 0 0)] 60 Sz fun v20 Sz=>rH 3 v20 v19 Sz fun Sz=>dO x x.most (ni N) (.ptr bp 0) (.ptr bd 0) v w v20 (.int .u64 (.ofNat 1)) Sz K)):
 ∀(r i m:Nat) (Sz:Hp) (v w:V) (s:BitVec 64) (ah:List Nat) (F B:List (List (List Nat))),i+r=L.length->r<m->bE SB Sz->Sz bp=some (.row (pv two) 25)->Sz bd=some (.row [.nil,.nil,.nil] 60)->SB t=none->d+100*L.length<500000->Tape Sz t s ah (d+(tQ two+tQ two)*i)->GL 31 SB Sz v (mD F)->GL 31 SB Sz w (mD B)->(∀j m m',v= .acc j m->w≠ .acc j m')->F.length=i->B.length=i->
  F++fM (tT two+1) (tQ two) (L.drop i) (drawn ((tQ two+tQ two)*r) ah s)=fM (tT two+1) (tQ two) L (drawn ((tQ two+tQ two)*L.length) AH S)->B++bM (tT two+1) (tQ two) (L.drop i) (drawn ((tQ two+tQ two)*r) ah s)=bM (tT two+1) (tQ two) L (drawn ((tQ two+tQ two)*L.length) AH S)->
  oK x m (ni N) (.ptr t 0) (.ptr bp 0) (.ptr bd 0) v w (.list O (PF L) L.length) (ni L.length) (ni i) Sz K:=by
 have hQ:tQ two<9:=by cases two<;>decide
 intro r;induction r with
 | zero=>
  intro i m Sz v w s ah F B hi hm le rp rd nt hd tp gv gw ap hF hB eF eB;obtain⟨m,rfl⟩:=Nat.exists_eq_succ_of_ne_zero (show m≠0 by omega);rw [yA];unfold rN;refine aE ?_;rw [aR,lY (by omega),aZ];rw [List.drop_eq_nil_of_le (by omega)]at eF eB;have eF:F++[]=_:=eF;have eB:B++[]=_:=eB;rw [List.append_nil]at eF eB;rw [eF]at gv;rw [eB]at gw;exact hK Sz v w le rp rd gv gw
 | succ r ih=>
  intro i m Sz v w s ah F B hi hm le rp rd nt hd tp gv gw ap hF hB eF eB;obtain⟨m,rfl⟩:=Nat.exists_eq_succ_of_ne_zero (show m≠0 by omega);rw [yA];unfold rN;refine aE ?_;have hi1:i<L.length:=by omega
  obtain⟨g1,g2⟩:=Xs (l:=L) (i:=i) (a:=L[i].1) (b:=L[i].2) (List.getElem?_eq_getElem hi1);obtain⟨t1,t2⟩:=Lg g1 g2;obtain⟨aHI,aHJ⟩:=aET _ (List.getElem_mem hi1);rw [aR,AZ hi1,cU,sN hi1,Xt,cF t1,t2];show eU [(.int .u64 (.ofNat 0)),(.int .u64 (.ofNat 0))] 73 Sz fun v3 Sz=>rH 2 v3 (.agg [nu L[i].1,nu L[i].2]) Sz _;refine eI (l:=[nu 0,nu 0]) rfl fun k hk=>?_;refine qT (n:=2) (i:=k) upd_same rfl rfl rfl ?_;rw [fP];have rk:upd Sz k (.row [nu L[i].1,nu L[i].2] 73) k=some (.row [nu L[i].1,nu L[i].2] 73):=upd_same;have le1:bE Sz (upd Sz k (.row [nu L[i].1,nu L[i].2] 73)):= .aH hk;generalize upd Sz k (.row [nu L[i].1,nu L[i].2] 73)=S1 at rk le1;have tp1:Tape S1 t s ah (d+(tQ two+tQ two)*i):=tp.Pt (el:=31) (by decide) fun j o e _=>le1 _ _ e;obtain⟨w0,hw0,_⟩:=id tp1;have hkt:k≠t:=fun c=>by rw [c,hw0]at rk;injection rk with rk;injection rk with _ rk;cases rk
  have hpt:bp≠t:=fun c=>by have:=le1 _ _ rp;rw [c,hw0]at this;injection this with this;injection this with _ this;cases this
  have hdt:bd≠t:=fun c=>by have:=le1 _ _ rd;rw [c,hw0]at this;injection this with this;injection this with _ this;cases this
  have aIi:(tQ two+tQ two)*i<=20*L.length:=by
   have:(tQ two+tQ two)*i<=20*i:=Nat.mul_le_mul_right _ (by omega);omega
  rw [RF (le1 _ _ rp),aN,cG rk rfl];refine aDg (n:=n+16) (by omega) hx aHI (by omega) tp1 fun S2 s2 Jl Dj Uc dr2 Oa=>?_;have lB1:bE SB S1:=le.trans le1
  have aGz:∀{v:V} {ds:List Dt},GL 31 SB Sz v ds->GL 31 SB S2 v ds:=fun {v ds} g=>(g.up le1).but fun j vs m e=>by
   rw [Dj j (fun c=>by rw [c,hw0]at e;injection e with e;cases e)];exact e
  have lB2:bE SB S2:=fun j o e=>by rw [Dj j (fun c=>by rw [c,nt]at e;cases e)];exact lB1 _ _ e
  have gv2:=aGz gv;have gw2:=aGz gw;have Cr:S2 bp=some (.row (pv two) 25):=by rw [Dj _ hpt];exact le1 _ _ rp
  have rd2:S2 bd=some (.row [.nil,.nil,.nil] 60):=by rw [Dj _ hdt];exact le1 _ _ rd
  have rk2:S2 k=some (.row [nu L[i].1,nu L[i].2] 73):=by rw [Dj _ hkt];exact rk
  have hmF:(mD F).length<=1000000:=by rw [HR];omega
  have hmB:(mD B).length<=1000000:=by rw [HR];omega
  refine gv2.app (t:=Oa) (d:= .list (pM (iO (tT two+1) (L[i].1%23::drawn (tQ two) ah s))) (tT two+1)) (z:= .slice none 0 0) (zv:= .nil) lB2 hmF rfl (by decide) fun v3 S3 kP p3 o3 gv3=>?_
  have q3:∀{j:Nat} {o:Ob},S2 j=some o->(∀vs m,o≠ .dF vs 31 m)->S3 j=some o:=fun {j o} e hno=>p3 _ _ e fun m c=>by
   obtain⟨vs,n,e2⟩:=gv2.there c;rw [e]at e2;injection e2 with e2;exact hno _ _ e2
  have zP:=q3 Cr (fun vs m e=>by cases e);have rd3:=q3 rd2 (fun vs m e=>by cases e);have rk3:=q3 rk2 (fun vs m e=>by cases e);have tp3:=Uc.Pt (el:=31) (by decide) (S':=S3) fun j o e hno=>q3 e hno;have gw3:GL 31 SB S3 w (mD B):=gw2.keep p3 fun j m m' e c=>ap j m' m c e
  have ap3:∀j m m',v3= .acc j m->w≠ .acc j m':=fun j m m' e c=>by
   rcases o3 j m e with ⟨m2,e2⟩ | e2
   ·exact ap j m2 m' e2 c
   ·obtain⟨vs,n,e4⟩:=gw2.there c
    rw [e2]at e4;cases e4
  rw [RF zP,aN,cG rk3 rfl];obtain⟨w1,hw1,_⟩:=id tp3;refine aDg (n:=n+16) (by omega) hx aHJ (by omega) tp3 fun S4 s4 Ud aCo tp4 dr4 Obz=>?_
  have aGA:∀{v:V} {ds:List Dt},GL 31 SB S3 v ds->GL 31 SB S4 v ds:=fun {v ds} g=>g.but fun j vs m e=>by
   rw [aCo j (fun c=>by rw [c,hw1]at e;injection e with e;cases e)];exact e
  have lB4:bE SB S4:=fun j o e=>by rw [aCo j (fun c=>by rw [c,nt]at e;cases e)];exact kP _ _ e
  have gv4:=aGA gv3;have gw4:=aGA gw3;have rp4:S4 bp=some (.row (pv two) 25):=by rw [aCo _ hpt];exact zP
  have rd4:S4 bd=some (.row [.nil,.nil,.nil] 60):=by rw [aCo _ hdt];exact rd3
  refine gw4.app (t:=Obz) (d:= .list (pM (iO (tT two+1) (L[i].2%23::drawn (tQ two) Jl s2))) (tT two+1)) (z:= .slice none 0 0) (zv:= .nil) lB4 hmB rfl (by decide) fun w5 S5 wY p5 o5 gw5=>?_
  have q5:∀{j:Nat} {o:Ob},S4 j=some o->(∀vs m,o≠ .dF vs 31 m)->S5 j=some o:=fun {j o} e hno=>p5 _ _ e fun m c=>by
   obtain⟨vs,n,e2⟩:=gw4.there c;rw [e]at e2;injection e2 with e2;exact hno _ _ e2
  have gv5:=gv4.keep p5 fun j m m' e c=>ap3 j m m' e c
  have ap5:∀j m m',v3= .acc j m->w5≠ .acc j m':=fun j m m' e c=>by
   rcases o5 j m' c with ⟨m2,e2⟩ | e2
   ·exact ap3 j m m2 e e2
   ·obtain⟨vs,n,e4⟩:=gv4.there e
    rw [e2]at e4;cases e4
  rw [aX (by omega)];have hd2:L.drop i=L[i]::L.drop (i+1):=List.drop_eq_getElem_cons hi1
  have edr:drawn ((tQ two+tQ two)*(r+1)) ah s=drawn (tQ two) ah s++(drawn (tQ two) Jl s2++drawn ((tQ two+tQ two)*r) Ud s4):=by
   rw [show(tQ two+tQ two)*(r+1)=tQ two+(tQ two+(tQ two+tQ two)*r)by rw [Nat.mul_succ];omega,dr2,dr4]
  have hl1:(drawn (tQ two) ah s).length=tQ two:=mZ _ _ _;have hl2:(drawn (tQ two) Jl s2).length=tQ two:=mZ _ _ _;rw [edr,hd2]at eF eB
  have c1:(drawn (tQ two) ah s++(drawn (tQ two) Jl s2++drawn ((tQ two+tQ two)*r) Ud s4)).take (tQ two)=drawn (tQ two) ah s:=by
   rw [List.take_append_of_le_length (by omega),List.take_of_length_le (by omega)]
  have c2:(drawn (tQ two) ah s++(drawn (tQ two) Jl s2++drawn ((tQ two+tQ two)*r) Ud s4)).drop (tQ two)=drawn (tQ two) Jl s2++drawn ((tQ two+tQ two)*r) Ud s4:=by
   rw [List.drop_append_of_le_length (by omega),List.drop_of_length_le (by omega),List.nil_append]
  have c3:(drawn (tQ two) Jl s2++drawn ((tQ two+tQ two)*r) Ud s4).take (tQ two)=drawn (tQ two) Jl s2:=by
   rw [List.take_append_of_le_length (by omega),List.take_of_length_le (by omega)]
  have c4:(drawn (tQ two) ah s++(drawn (tQ two) Jl s2++drawn ((tQ two+tQ two)*r) Ud s4)).drop (tQ two+tQ two)=drawn ((tQ two+tQ two)*r) Ud s4:=by
   rw [<-List.drop_drop,c2,List.drop_append_of_le_length (by omega),List.drop_of_length_le (by omega),List.nil_append]
  rw [SY,c1,c4]at eF;rw [SZ,c2,c3,c4]at eB;have rl1:∀l,(iO (tT two+1) l).length=tT two+1:=fun l=>PQ _ _;refine ih (i+1) m S5 v3 w5 s4 Ud (F++[iO (tT two+1) (L[i].1%23::drawn (tQ two) ah s)]) (B++[iO (tT two+1) (L[i].2%23::drawn (tQ two) Jl s2)]) (by omega) (by omega) wY (q5 rp4 fun vs m e=>by cases e) (q5 rd4 fun vs m e=>by cases e) nt hd ?_ ?_ ?_ ap5 (by simp [hF]) (by simp [hB]) ?_ ?_
  ·have:=tp4.Pt (el:=31) (by decide) (S':=S5) fun j o e hno=>q5 e hno
   rw [Nat.add_assoc,Nat.add_assoc]at this;rw [Nat.mul_succ];exact this
  ·have:mD (F++[iO (tT two+1) (L[i].1%23::drawn (tQ two) ah s)])=mD F++[.list (pM (iO (tT two+1) (L[i].1%23::drawn (tQ two) ah s))) (tT two+1)]:=by rw [Lr];show _++[Dt.list _ _]=_;rw [rl1]
   rw [this];exact gv5
  ·have:mD (B++[iO (tT two+1) (L[i].2%23::drawn (tQ two) Jl s2)])=mD B++[.list (pM (iO (tT two+1) (L[i].2%23::drawn (tQ two) Jl s2))) (tT two+1)]:=by rw [Lr];show _++[Dt.list _ _]=_;rw [rl1]
   rw [this];exact gw5
  ·rw [List.append_assoc];exact eF
  ·rw [List.append_assoc];exact eB
end
set_option maxRecDepth 4000
theorem yS{w:V}{el:TypeId}{Sz:Hp}{K:KV} (h1:jK w=true) (hk:∀j,Sz j=none->K (.own j 0 1 1) (upd Sz j (.row [w] el))):aP el 1 [(.slice none 0 0)] [(0,1,w)] Sz K:=by
 have hc:∀{p:List V->Prop},oY w p=p [w]:=fun {p}=>by cases w<;>first | rfl | cases h1
 have hz:AK [(.slice none 0 0)]=some [.nil]:=rfl;unfold aP mY;rw [hz];show jE [(0,1,w)] [.nil] _;unfold jE;rw [hc];refine⟨rfl,by simp,?_⟩;unfold jE;exact hk
inductive GG (S0 Sz:Hp):V->List (List Dt)->Prop
 | nil:GG S0 Sz .nil []
 | acc {i:Nat} {vs:List V} {DX:List (List Dt)} (h0:S0 i=none) (h:Sz i=some (.dF vs 30 DX.length)) (hl:vs.length=DX.length) (hv:∀(j:Nat) (ds:List Dt),DX[j]? =some ds->∃w,vs[j]? =some w/\GL 44 S0 Sz w ds):GG S0 Sz (.acc i DX.length) DX
section
variable{S0 Sz S':Hp}{v:V}{DX:List (List Dt)}
theorem GG.one (h:GG S0 Sz v DX):jK v=true:=by cases h<;>rfl
theorem GG.same (h:GG S0 Sz v DX):uP v=true:=by cases h<;>rfl
theorem GG.up (h:GG S0 Sz v DX) (hle:bE Sz S'):GG S0 S' v DX:=by
 cases h with
 | nil=>exact .nil
 | acc h0 h hl hv=>exact .acc h0 (hle _ _ h) hl fun j ds e=>by obtain⟨w,a,b⟩:=hv j ds e;exact⟨w,a,b.up hle⟩
theorem GG.base{S1:Hp} (h:GG S1 Sz v DX) (hle:bE S0 S1):GG S0 Sz v DX:=by
 cases h with
 | nil=>exact .nil
 | acc h0 h hl hv=>exact .acc (hle.none h0) h hl fun j ds e=>by obtain⟨w,a,b⟩:=hv j ds e;exact⟨w,a,b.base hle⟩
theorem GG.at (h:GG S0 Sz v DX){i:Nat}{ds:List Dt} (hi:DX[i]? =some ds):∃p w,(∀(j:IntKind) (K:V->Prop),bY 1 v (.int j (.ofNat i)) K=K p)/\(∀S',bE Sz S'->∀K:KV,aS p S' K=K w S')/\GL 44 S0 Sz w ds:=by
 have hlt:i<DX.length:=(List.getElem?_eq_some_iff.1 hi).1;cases h with
 | nil=>cases hi
 | @acc b vs _ h0 h hl hv=>
  obtain⟨w,a,q⟩:=hv i ds hi;refine⟨.lX b DX.length (i*1),w,fun j K=>wX hlt,fun S' hle K=>?_,q⟩;rw [Nat.mul_one];unfold aS;simp only [hle _ _ h,bR a,true_and]
theorem GG.there (h:GG S0 Sz v DX){j m:Nat} (e:v= .acc j m):∃vs n,Sz j=some (.dF vs 30 n):=by
 cases h with
 | nil=>cases e
 | acc h0 h hl hv=>injection e with e1 e2;subst e1;exact⟨_,_,h⟩
theorem GG.keep{w:V}{es:List (List Dt)} (h:GG S0 Sz w es) (hp:∀j o,Sz j=some o->(∀m,v≠ .acc j m)->S' j=some o) (hv0:∀j m,v= .acc j m->∃vs n,Sz j=some (.dF vs 30 n)) (ha:∀j m m',w= .acc j m->v≠ .acc j m'):GG S0 S' w es:=by
 cases h with
 | nil=>exact .nil
 | acc h0 h hl hv=>
  refine .acc h0 (hp _ _ h fun m=>ha _ _ m rfl) hl fun j ds e=>?_;obtain⟨u,a,b⟩:=hv j ds e;refine⟨u,a,b.but fun j vs m e=>hp _ _ e fun m' c=>?_⟩;obtain⟨vs',n',e'⟩:=hv0 _ _ c;rw [e]at e';injection e' with e';cases e'
theorem GG.set (h:GG S0 Sz v DX){i:Nat}{o p:Ob} (hi:Sz i=some p) (h1:∀vs e m,p≠ .dF vs e m):GG S0 (upd Sz i o) v DX:=by
 cases h with
 | nil=>exact .nil
 | acc h0 h hl hv=>exact .acc h0 (by rw [aB (fun c=>by rw [c,hi]at h;injection h with h;exact h1 _ _ _ h)];exact h) hl fun j ds e=>by obtain⟨w,a,b⟩:=hv j ds e;exact⟨w,a,b.set hi fun vs m=>h1 vs 44 m⟩
theorem GG.app (h:GG S0 Sz v DX) (hs:bE S0 Sz) (hl:DX.length<=1000000){w:V}{ds:List Dt} (hw:GL 44 S0 Sz w ds){K:KV}
 (hk:∀u S',bE S0 S'->(∀j o,Sz j=some o->(∀m,v≠ .acc j m)->S' j=some o)->(∀j m,u= .acc j m->(∃m',v= .acc j m')\/Sz j=none)->GG S0 S' u (DX++[ds])->K u S'):aP 30 1 [(.slice none 0 0)] [(0,1,w)] Sz fun v2 Sz=>kI 30 1 24 v v2 Sz K:=by
 refine yS hw.one fun j hj=>?_;have hs1:bE Sz (upd Sz j (.row [w] 30)):= .aH hj;refine uO (m:=1) upd_same rfl ?_;refine⟨by simp [hw.one],?_⟩;cases h with
 | nil=>
  refine⟨by decide,fun i hi=>?_⟩;have hs2:bE (upd Sz j (.row [w] 30)) (upd (upd Sz j (.row [w] 30)) i (.dF [w] 30 1)):= .aH hi;refine hk _ _ ((hs.trans hs1).trans hs2) (fun q o e _=>hs2 _ _ (hs1 _ _ e)) (fun q m e=> .inr (by injection e with e;subst e;exact hs1.none hi)) (.acc (DX:=[ds]) ((hs.trans hs1).none hi) upd_same rfl fun q l' e=>?_)
  match q,e with
  | 0,e=>injection e with e;subst e;exact⟨w,rfl,hw.up (hs1.trans hs2)⟩
  | q+1,e=>cases e
 | @acc i vs _ h0 h hl2 hv=>
  have hne:j≠i:=fun e=>by rw [e,h]at hj;cases hj
  have h':upd Sz j (.row [w] 30) i=some (.dF vs 30 DX.length):=by rw [aB (Ne.symm hne)];exact h
  simp only [h'];refine⟨trivial,trivial,by omega,by omega,?_⟩;have el':DX.length+(0+1)=(DX++[ds]).length:=by simp
  rw [el'];have hs2:∀q o,q≠i->Sz q=some o->upd (upd Sz j (.row [w] 30)) i (.dF (vs++[w]) 30 (DX++[ds]).length) q=some o:=fun q o hq e=>by rw [aB hq];exact hs1 _ _ e
  have kp:∀{u:V} {es:List Dt},GL 44 S0 Sz u es->GL 44 S0 (upd (upd Sz j (.row [w] 30)) i (.dF (vs++[w]) 30 (DX++[ds]).length)) u es:=fun {u es} g=>g.but fun q ws m e=>hs2 _ _ (fun c=>by rw [c,h]at e;injection e with e;cases e) e;refine hk _ _ (fun q o e=>hs2 q o (fun c=>by rw [c,h0]at e;cases e) (hs _ _ e)) (fun q o e hno=>hs2 q o (fun c=>hno DX.length (by rw [c])) e) (fun q m e=> .inl (by injection e with e;subst e;exact⟨_,rfl⟩)) (.acc h0 upd_same (by simp [hl2]) fun q l' e=>?_);rcases Nat.lt_or_ge q DX.length with hq | hq
  ·rw [List.getElem?_append_left hq]at e
   obtain⟨u,a,b⟩:=hv q l' e;exact⟨u,by rw [List.getElem?_append_left (by omega)];exact a,kp b⟩
  ·have hq':q=DX.length:=by
    have:=(List.getElem?_eq_some_iff.1 e).1;simp at this;omega
   subst hq';simp at e;subst e;exact⟨w,by rw [List.getElem?_append_right (by omega),hl2];simp,kp hw⟩
end
def OM (k:Nat) (m:List (List Nat)):Prop:=m.length=k/\∀q∈m,q.length=k/\∀c∈q,c<23
theorem OM.wide{k:Nat}{m:List (List Nat)} (h:OM k m) (hk:0<k):VY m=k:=aCj m 0 (fun q hq=>(h.2 q hq).1) (Nat.zero_le _) (by rw [h.1];exact hk)
theorem OM.l64{k:Nat}{m:List (List Nat)} (h:OM k m):∀q∈m,qB q:=fun q hq c hc=>Nat.lt_trans ((h.2 q hq).2 c hc) (by decide)
def aCp (k X:Nat) (f b:List (List Nat)):Dt:= .list (PF (List.zip (rowB f X) (rowB b X))) k
def aCq (k X:Nat) (f b:List (List Nat)):Dt:= .list (PF (List.zip (BS f X) (BS b X))) k
def vC (k X:Nat) (fs bs:List (List (List Nat))):List Dt:=List.zipWith (aCp k X) fs bs
def vE (k X:Nat) (fs bs:List (List (List Nat))):List Dt:=List.zipWith (aCq k X) fs bs
theorem If{α β γ:Type}{f:α->β->γ}{a:List α}{b:List β}{i:Nat} (h1:i<a.length) (h2:i<b.length):(List.zipWith f a b).take (i+1)=(List.zipWith f a b).take i++[f a[i] b[i]]:=by
 have hl:i<(List.zipWith f a b).length:=by rw [List.length_zipWith];omega
 rw [List.take_add_one,List.getElem?_eq_getElem hl,List.getElem_zipWith];rfl
theorem aGB{a b:Nat}{t:TypeId}{k:V->Prop} (h:a+b<18446744073709551616):aG PP .add t (nu a) (nu b) k=k (nu (a+b)):=by
 rw [IL];have:(Int.ofNat a+Int.ofNat b)=Int.ofNat (a+b):=by simp
 rw [this,wrap64,Nat.mod_eq_of_lt h]
section
variable{M n:Nat}{x:VE}{Sz S0:Hp}{K:KV}{two:Bool}
theorem Ig (hx:Deep PP bH gM M (n+1) x) (hM:1000000<M){O1 O2:Tag}{a b:List Nat}{k:Nat} (ha:a.length=k) (hb:b.length=k) (hl:k<1000) (hK:∀t,K (.list t (PF (List.zip a b)) k) Sz):x.call jZ [.list O1 (tV a) k,.list O2 (tV b) k] Sz K:=by
 subst ha;exact Zp hx hM hb hl hK
theorem Zr (hM:1000000<M) (hx:Deep PP bH gM M (n+9) x){bp X k N:Nat}{SF SS:Hp}{v w vD t8:V}{fs bs:List (List (List Nat))} (hX:b64 X) (hk:0<k) (hk2:k<1000) (hlen:bs.length=fs.length) (hfl:fs.length<1000) (hf:∀m∈fs,OM k m) (hb:∀m∈bs,OM k m) (gv:GL 31 SF SS v (mD fs)) (gw:GL 31 SF SS w (mD bs)) (rp:SS bp=some (.row (pv two) 25)){m0:Nat}:
 ∀(r i m:Nat) (Sz:Hp) (u1 u2:V),i+r=fs.length->r<m->bE SS Sz->GL 44 SS Sz u1 ((vC k X fs bs).take i)->GL 44 SS Sz u2 ((vE k X fs bs).take i)->(∀j m m',u1= .acc j m->u2≠ .acc j m')->
  (∀m Sz u1 u2,bE SS Sz->GL 44 SS Sz u1 (vC k X fs bs)->GL 44 SS Sz u2 (vE k X fs bs)->(∀j m m',u1= .acc j m->u2≠ .acc j m')->bK x (m+1) m0 (ni N) (.ptr bp 0) t8 v w vD (nu X) u1 u2 (ni fs.length) (ni fs.length) Sz K)->
  bK x m m0 (ni N) (.ptr bp 0) t8 v w vD (nu X) u1 u2 (ni fs.length) (ni i) Sz K:=by
 have e1:(pv two)[1]? =some (nu 23):=rfl;intro r;induction r with
 | zero=>
  intro i m Sz u1 u2 hi hm le g1 g2 ap hend;obtain⟨m,rfl⟩:=Nat.exists_eq_succ_of_ne_zero (show m≠0 by omega);have hrl:(vC k X fs bs).length=fs.length:=by unfold vC;rw [List.length_zipWith];omega
  have hcl:(vE k X fs bs).length=fs.length:=by unfold vE;rw [List.length_zipWith];omega
  rw [List.take_of_length_le (by omega)]at g1 g2;have ei:i=fs.length:=by omega
  subst ei;exact hend m Sz u1 u2 le g1 g2 ap
 | succ r ih=>
  intro i m Sz u1 u2 hi hm le g1 g2 ap hend;obtain⟨m,rfl⟩:=Nat.exists_eq_succ_of_ne_zero (show m≠0 by omega);rw [nX];unfold iZ;refine aE ?_;have hi1:i<fs.length:=by omega
  have hi2:i<bs.length:=by omega
  have sf:=hf _ (List.getElem_mem hi1);have sb:=hb _ (List.getElem_mem hi2);obtain⟨p1,t1,ix1,lx1⟩:=(gv.up le).at (ZR (List.getElem?_eq_getElem hi1));obtain⟨p2,t2,ix2,lx2⟩:=(gw.up le).at (ZR (List.getElem?_eq_getElem hi2));have rp':=le _ _ rp;have rl:∀{m:List (List Nat)},OM k m->(rowB m X).length=k:=fun {m} h=>by unfold rowB;rw [List.length_map,List.length_range,h.wide hk]
  have cl:∀{m:List (List Nat)},OM k m->(BS m X).length=k:=fun {m} h=>by unfold BS;rw [List.length_map,h.1]
  have br:∀{m:List (List Nat)} {O:Tag} {K:KV},OM k m->(∀t,K (.list t (tV (rowB m X)) k) Sz)->x.call bJ [.list O (pM m) m.length,nu X,nu 23] Sz K:=fun {m O K} h hK=>
   aER (n:=n+1) hM hx hX h.l64 (by rw [h.1];omega) (h.wide hk) hk hk2 (fun i hi=>by rw [(h.2 _ (List.getElem_mem hi)).1];exact Nat.le_refl _) hK
  have bc:∀{m:List (List Nat)} {O:Tag} {K:KV},OM k m->(∀t,K (.list t (tV (BS m X)) k) Sz)->∀{S2:Hp},S2=Sz->x.call gY [.list O (pM m) m.length,nu X,nu 23] S2 K:=fun {m O K} h hK {S2} e=>by
   subst e;exact Zo (n:=n+5) hM hx hX h.l64 (by rw [h.1];omega) (fun q hq=>by rw [(h.2 q hq).1];omega) (by rw [h.1];exact hK)
  have ls:∀{t:Tag} {c:List Dt} {n:Nat} {q:Prop},aL (.list t c n) (.list t c n) q=q:=fun {t c n q}=>bQ rfl;rw [aR,AZ hi1,cU,ix1,lx1 _ (.refl _),aN,cG rp' e1,ix2,lx2 _ (.refl _),aN,cG rp' e1];show x.call bJ [.list t1 (pM fs[i]) fs[i].length,nu X,nu 23] Sz _;refine br sf fun t3=>?_;rw [cG rp' e1,bO,lx2 _ (.refl _)];show aL (.list t2 (pM bs[i]) bs[i].length) (.list t2 (pM bs[i]) bs[i].length) _;rw [ls];show x.call bJ [.list t2 (pM bs[i]) bs[i].length,nu X,nu 23] Sz _;refine br sb fun t4=>?_;refine Ig (n:=n+8) hx hM (rl sf) (rl sb) hk2 fun t5=>?_;refine⟨yS rfl fun _ _=>trivial,?_⟩;have hr1:(vC k X fs bs).length=fs.length:=by unfold vC;rw [List.length_zipWith];omega
  have hc1:(vE k X fs bs).length=fs.length:=by unfold vE;rw [List.length_zipWith];omega
  refine g1.app (t:=t5) (d:=aCp k X fs[i] bs[i]) (z:= .slice none 0 0) (zv:= .nil) le (by rw [List.length_take];omega) rfl (by decide) fun u3 S3 kP p3 o3 g3=>?_;have er:(vC k X fs bs).take i++[aCp k X fs[i] bs[i]]=(vC k X fs bs).take (i+1):=(If hi1 hi2).symm;have ec:(vE k X fs bs).take i++[aCq k X fs[i] bs[i]]=(vE k X fs bs).take (i+1):=(If hi1 hi2).symm;rw [er]at g3;have g2':=g2.keep p3 fun j m m' e c=>ap j m' m c e
  have ap3:∀j m m',u3= .acc j m->u2≠ .acc j m':=fun j m m' e c=>by
   rcases o3 j m e with ⟨m2,e2⟩ | e2
   ·exact ap j m2 m' e2 c
   ·obtain⟨vs,n,e4⟩:=g2.there c
    rw [e2]at e4;cases e4
  clear br bc;obtain⟨p1,t1,ix1,lx1⟩:=(gv.up kP).at (ZR (List.getElem?_eq_getElem hi1));obtain⟨p2,t2,ix2,lx2⟩:=(gw.up kP).at (ZR (List.getElem?_eq_getElem hi2));have zP:=kP _ _ rp
  have bc:∀{m:List (List Nat)} {O:Tag} {K:KV},OM k m->(∀t,K (.list t (tV (BS m X)) k) S3)->x.call gY [.list O (pM m) m.length,nu X,nu 23] S3 K:=fun {m O K} h hK=>
   Zo (n:=n+5) hM hx hX h.l64 (by rw [h.1];omega) (fun q hq=>by rw [(h.2 q hq).1];omega) (by rw [h.1];exact hK)
  rw [ix1,lx1 _ (.refl _),aN,cG zP e1,ix2,lx2 _ (.refl _),aN,cG zP e1];show x.call gY [.list t1 (pM fs[i]) fs[i].length,nu X,nu 23] S3 _;refine bc sf fun t6=>?_;rw [cG zP e1,bO,lx2 _ (.refl _)];show aL (.list t2 (pM bs[i]) bs[i].length) (.list t2 (pM bs[i]) bs[i].length) _;rw [ls];show x.call gY [.list t2 (pM bs[i]) bs[i].length,nu X,nu 23] S3 _;refine bc sb fun t7=>?_;refine Ig (n:=n+8) hx hM (cl sf) (cl sb) hk2 fun t8=>?_;refine⟨yS rfl fun _ _=>trivial,?_⟩;refine g2'.app (t:=t8) (d:=aCq k X fs[i] bs[i]) (z:= .slice none 0 0) (zv:= .nil) kP (by rw [List.length_take];omega) rfl (by decide) fun u4 S4 le4 p4 o4 g4=>?_;rw [ec]at g4;have g3':=g3.keep p4 fun j m m' e c=>ap3 j m m' e c
  have ap4:∀j m m',u3= .acc j m->u4≠ .acc j m':=fun j m m' e c=>by
   rcases o4 j m' c with ⟨m2,e2⟩ | e2
   ·exact ap3 j m m2 e e2
   ·obtain⟨vs,n,e4⟩:=g3.there e
    rw [e2]at e4;cases e4
  rw [aX (by omega)];exact ih (i+1) m S4 u3 u4 (by omega) (by omega) le4 g3' g4 ap4 hend
end
end Go.Am
