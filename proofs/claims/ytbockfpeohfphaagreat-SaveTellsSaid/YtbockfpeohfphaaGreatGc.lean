/- AM: equations of the operations at values that are partly known: for proofs of open statements. -/
import Derived.Test.YtbockfpeohfphaaGreatGb
import GoSem.ClaimJoined

namespace Go.Am
open Go.RowKit Go.MapKept
section
variable{P:Program}
theorem aH (a:Addr) (K:Value->Bool):bI P (.pointer (some a)) K=K (.pointer (some a)):=rfl
theorem dP{t:TypeId}{s:String}{g:FuncId} (h:lT P t s=some g) (w:Value) (K:Value->Bool):bI P (.func (.method s) ⟨[.iface t w]⟩ ⟨[]⟩) K=K (.func (.method s) ⟨[.iface t w]⟩ ⟨[]⟩):=by
 show(match lT P t s with | some _=>_ | none=>false)=_;rw [h]
theorem cX{t:TypeId}{m:String}{g:FuncId} (h:lT P t m=some g) (call:TK) (v:Value) (args:List Value) (Sz:St) (K:VK):vN P call (.iface t v) m args Sz K=call g (v::args) Sz K:=by
 show(match lT P t m with | some g=>call g (v::args) Sz K | none=>false)=_;rw [h]
theorem Yk (call:TK) (round:Nat->List Value->St->VK->Bool) (g:FuncId) (a:List Value) (Sz:St) (K:VK):Fl call round (.func (.func g) ⟨[]⟩ ⟨[]⟩) a Sz K=call g a Sz K:=by
 show(AL [] a fun l=>AL l [] fun l=>call g l Sz K)=_;rw [mV,mV];simp
theorem iX (b:Bool) (x y:Bool):gD (.bool b) x y=if b then x else y:=by cases b<;>rfl
theorem bS (x y:Bool):gD (.bool true) x y=x:=rfl
theorem cA (x y:Bool):gD (.bool false) x y=y:=rfl
theorem bL (a b:Value) (K:Value->Bool):bY (.bool true) a b K=K a:=rfl
theorem bJ (a b:Value) (K:Value->Bool):bY (.bool false) a b K=K b:=rfl
theorem cF (op:VK->Bool) (Sz:St) (k:VK):aA true (.bool true) op Sz k=op k:=rfl
theorem cG (op:VK->Bool) (Sz:St) (k:VK):aA true (.bool false) op Sz k=k undef Sz:=rfl
theorem cH (op:VK->Bool) (Sz:St) (k:VK):aA false (.bool false) op Sz k=op k:=rfl
theorem cS (op:VK->Bool) (Sz:St) (k:VK):aA false (.bool true) op Sz k=k undef Sz:=rfl
theorem aB (off b o:Nat) (K:Value->Bool):aC off (.pointer (some ⟨b,o,none⟩)) K=K (.pointer (some ⟨b,o+off,none⟩)):=by
 show dW (o+off) (fun o=>K (.pointer (some ⟨b,o,none⟩)))=_;rw [dE]
theorem fV (i:Nat) (vs:List Value) (K:Value->Bool):fB i (.tuple ⟨vs⟩) K=xJ vs i fun v=>K v:=rfl
theorem fH{α:Type} (a:α) (l:List α) (k:α->Bool):xJ (a::l) 0 k=k a:=rfl
theorem jL{α:Type} (a:α) (l:List α) (i:Nat) (k:α->Bool):xJ (a::l) (i+1) k=xJ l i k:=rfl
theorem aDk{α:Type}{l:List α}{i:Nat}{v:α} (h:l[i]? =some v) (k:α->Bool):xJ l i k=k v:=by
 induction l generalizing i with
 | nil=>cases h
 | cons a l ih=>
  cases i with
  | zero=>simp at h;subst h;rfl
  | succ i=>exact ih (by simpa using h)
theorem zU (b:Option Addr) (n c:Nat) (K:Value->Bool):bO (.slice b n c) K=K (.int .i64 (.ofNat n)):=rfl
theorem zV (l:List UInt8) (K:Value->Bool):nI (.string ⟨⟨l⟩⟩) K=K (.int .i64 (.ofNat l.length)):=cV _ _
theorem oP (k j:IntKind) (n:Int) (K:Value->Bool):AW k (.int j n) K=K (.int k (xL k n)):=by
 show vZ (xL k n) (fun n=>K (.int k n))=_;rw [iO]
theorem iY{Sz:St}{i:Nat}{vs:List Value}{e:TypeId}{c:CK} (h:Sz.obj i=some (.cells vs e c)) (k:List Value->TypeId->CK->Bool):lD Sz i k=k vs e c:=by
 unfold lD;rw [CB];have h:Sz.h.get i=some (.cells vs e c):=h;rw [h]
theorem cB{Sz:St}{i o:Nat}{vs:List Value}{e:TypeId}{c:CK}{v:Value} (h:Sz.obj i=some (.cells vs e c)) (hv:vs[o]? =some v) (K:VK):aN (.pointer (some ⟨i,o,none⟩)) Sz K=K v Sz:=by
 show lD Sz i (fun vs _ _=>xJ vs o fun v=>K v Sz)=_;rw [iY h,aDk hv]
theorem GA{Sz:St}{i o n:Nat}{vs:List Value}{e:TypeId}{c:CK} (h:Sz.obj i=some (.cells vs e c)) (hn:o+n<=vs.length) (k:List Value->Bool):DO Sz i o n k=k ((vs.drop o).take n):=by
 show lD Sz i (fun vs _ _=>oE o vs fun l=>uJ n l k)=_;rw [iY h,eH,if_pos (by omega),fL,if_pos (by simp;omega)]
theorem fW{Sz:St}{i o n:Nat}{vs:List Value}{e:TypeId}{c:CK} (h:Sz.obj i=some (.cells vs e c)) (hn:o+n<=vs.length) (K:VK):aR n (.pointer (some ⟨i,o,none⟩)) Sz K=K (.agg ⟨(vs.drop o).take n⟩) Sz:=by
 show DO Sz i o n (fun l=>K (.agg ⟨l⟩) Sz)=_;rw [GA h hn]
theorem lW{v:Value} (h:oneCell v=true) (k:List Value->Bool):iB v k=k [v]:=by cases v<;>first | rfl | cases h
theorem fI{Sz:St}{i o:Nat}{vs:List Value}{e:TypeId}{v:Value} (h:Sz.obj i=some (.cells vs e .exact)) (ho:o<vs.length) (h1:oneCell v=true) (k:St->Bool):
 cQ 1 (.pointer (some ⟨i,o,none⟩)) v Sz k=k (Sz.set i (.cells (vs.set o v) e .exact)):=by
 show iB v (fun cs=>mJ cs fun m=>match Nat.beq m 1 with | true=>eX Sz i o cs k | false=>false)=_;rw [lW h1,cV];show eX Sz i o [v] k=_;unfold eX;rw [iY h];show iA o [v] vs (fun vs=>uG Sz i (.cells vs e .exact) k)=_;rw [gS,if_pos (by simp;omega),jX]
 congr 2
 unfold splice;rw [List.set_eq_take_append_cons_drop,if_pos ho];simp
theorem aDl{Sz:St}{i o:Nat}{vs:List Value}{e:TypeId}{j:IntKind}{z:Int} (h:Sz.obj i=some (.cells vs e .rs)) (hv:vs[o]? =some (.int j z)) (k:St->Bool):
 cQ 1 (.pointer (some ⟨i,o,none⟩)) (.int j z) Sz k=k Sz:=by
 show iB (.int j z) (fun cs=>mJ cs fun m=>match Nat.beq m 1 with | true=>eX Sz i o cs k | false=>false)=_;rw [lW rfl,cV];show eX Sz i o [.int j z] k=_;unfold eX;rw [iY h];have ho:o<vs.length:=(List.getElem?_eq_some_iff.1 hv).1;show oE o vs (fun l=>match asIs [.int j z] l with | true=>k Sz | false=>false)=_;rw [eH,if_pos (by omega)]
 have hd:vs.drop o= .int j z::vs.drop (o+1):=by
  rw [List.drop_eq_getElem_cons ho]
  congr 1
  exact(List.getElem?_eq_some_iff.1 hv).2
 rw [hd]
 have:asIs [.int j z] (.int j z::vs.drop (o+1))=true:=by
  show(match oM j j with | true=>(match RK z z with | true=>true | false=>false) | false=>false)=true;have h1:oM j j=true:=by cases j<;>rfl
  have h2:RK z z=true:=by rw [rL];simp
  rw [h1,h2]
 rw [this]
theorem aDm{Sz:St}{i o:Nat}{vs:List Value}{e:TypeId}{olds:List Nat}{j:IntKind}{z:Int} (h:Sz.obj i=some (.cells vs e (.grown olds))) (hv:vs[o]? =some (.int j z)) (k:St->Bool):
 cQ 1 (.pointer (some ⟨i,o,none⟩)) (.int j z) Sz k=k Sz:=by
 show iB (.int j z) (fun cs=>mJ cs fun m=>match Nat.beq m 1 with | true=>eX Sz i o cs k | false=>false)=_;rw [lW rfl,cV];show eX Sz i o [.int j z] k=_;unfold eX;rw [iY h];have ho:o<vs.length:=(List.getElem?_eq_some_iff.1 hv).1;show oE o vs (fun l=>match asIs [.int j z] l with | true=>k Sz | false=>iA o [.int j z] vs fun vs=>Hp olds Sz.h fun h=>MX (.cells vs e (.grown [])) (Nat.succ i) h i fun h=>k ⟨h,Sz.n⟩)=_;rw [eH,if_pos (by omega)]
 have hd:vs.drop o= .int j z::vs.drop (o+1):=by
  rw [List.drop_eq_getElem_cons ho]
  congr 1
  exact(List.getElem?_eq_some_iff.1 hv).2
 rw [hd]
 have:asIs [.int j z] (.int j z::vs.drop (o+1))=true:=by
  show(match oM j j with | true=>(match RK z z with | true=>true | false=>false) | false=>false)=true;have h1:oM j j=true:=by cases j<;>rfl
  have h2:RK z z=true:=by rw [rL];simp
  rw [h1,h2]
 rw [this]
theorem eB (z:List Value) (t:TypeId) (Sz:St) (K:VK):cC z t Sz K=K (.pointer (some ⟨Sz.n,0,none⟩)) (Sz.new (.cells z t .exact)):=by
 unfold cC aA8
 have:∀(z:List Value) (k:List Value->Bool),gZ (β:=(List Value->Bool)->Bool) (fun k=>k []) (fun a _ ih k=>ih fun t=>k (a::t)) z k=k z:=by
  intro z;induction z with
  | nil=>intro k;rfl
  | cons a z ih=>intro k;exact ih _
 rw [this,gE]
theorem eI{cs:List Value} (h:cs.all oneCell=true) (t:TypeId) (Sz:St) (K:VK):iP t (.agg ⟨cs⟩) Sz K=K (.pointer (some ⟨Sz.n,0,none⟩)) (Sz.new (.cells cs t .exact)):=by
 show(match allB oneCell cs with | true=>qZ Sz (.cells cs t .exact) (fun i Sz=>K (.pointer (some ⟨i,0,none⟩)) Sz) | false=>false)=_;rw [jW,h,gE]
theorem Ym{v:Value} (h:oneCell v=true) (t:TypeId) (Sz:St) (K:VK):iP t v Sz K=K (.pointer (some ⟨Sz.n,0,none⟩)) (Sz.new (.cells [v] t .exact)):=by
 unfold iP;rw [lW h,gE]
theorem tG (op:BinOp) (t:TypeId) (k:IntKind) (a b:Int) (K:Value->Bool) (h1:op≠ .shl) (h2:op≠ .shr):aK P op t (.int k a) (.int k b) K=sS op k a b K:=by
 rw [FZ];have hk:oM k k=true:=by cases k<;>rfl
 cases op<;>first | exact absurd rfl h1 | exact absurd rfl h2 | (show(match oM k k with | true=>_ | false=>false)=_;rw [hk])
theorem Yn (t:TypeId) (k:IntKind) (a b:Int) (K:Value->Bool):aK P .lss t (.int k a) (.int k b) K=K (.bool (decide (a<b))):=by
 rw [tG _ _ _ _ _ _ (by simp) (by simp)];simp only [sS,lE,ND]
theorem Yo (t:TypeId) (k:IntKind) (a b:Int) (K:Value->Bool):aK P .gtr t (.int k a) (.int k b) K=K (.bool (decide (b<a))):=by
 rw [tG _ _ _ _ _ _ (by simp) (by simp)];simp only [sS,lE,ND]
theorem PC (t:TypeId) (k:IntKind) (a b:Int) (K:Value->Bool):aK P .eql t (.int k a) (.int k b) K=K (.bool (a==b)):=by
 rw [tG _ _ _ _ _ _ (by simp) (by simp)];simp only [sS,lE,rL]
theorem Jh (t:TypeId) (k:IntKind) (a b:Int) (K:Value->Bool):aK P .geq t (.int k a) (.int k b) K=K (.bool (!decide (a<b))):=by
 rw [tG _ _ _ _ _ _ (by simp) (by simp)];simp only [sS,lE,ND]
theorem wL{n:Nat} (h:n<9223372036854775808):xL .i64 (.ofNat n)= .ofNat n:=by
 show(match Nat.blt n 9223372036854775808 with | true=>_ | false=>_)=_;have:Nat.blt n 9223372036854775808=true:=Nat.ble_eq_true_of_le h;rw [this]
theorem aP (t:TypeId) (a b:Nat) (K:Value->Bool) (h:a+b<9223372036854775808):aK P .add t (.int .i64 (.ofNat a)) (.int .i64 (.ofNat b)) K=K (.int .i64 (.ofNat (a+b))):=by
 rw [tG _ _ _ _ _ _ (by simp) (by simp)];show tD .i64 (.ofNat (a+b)) K=_;unfold tD;rw [iO,wL h]
theorem Ji (t:TypeId) (a b:Nat) (K:Value->Bool) (h:a*b<9223372036854775808):aK P .mul t (.int .i64 (.ofNat a)) (.int .i64 (.ofNat b)) K=K (.int .i64 (.ofNat (a*b))):=by
 rw [tG _ _ _ _ _ _ (by simp) (by simp)];show tD .i64 (.ofNat (a*b)) K=_;unfold tD;rw [iO,wL h]
theorem EA (t:TypeId) (a b:Nat) (K:Value->Bool) (hb:0<b) (h:a<9223372036854775808):aK P .quo t (.int .i64 (.ofNat a)) (.int .i64 (.ofNat b)) K=K (.int .i64 (.ofNat (a / b))):=by
 rw [tG _ _ _ _ _ _ (by simp) (by simp)];show(match RK (.ofNat b) 0 with | true=>false | false=>tD .i64 (Int.tdiv (.ofNat a) (.ofNat b)) K)=_
 have h0:RK (.ofNat b) 0=false:=by
  cases b with
  | zero=>omega
  | succ b=>rfl
 rw [h0];show tD .i64 (.ofNat (a / b)) K=_;unfold tD;rw [iO,wL (Nat.lt_of_le_of_lt (Nat.div_le_self a b) h)]
theorem oQ (b:Bool) (K:Value->Bool):Ar .not (.bool b) K=K (.bool (!b)):=by
 show MY (!b) (fun b=>K (.bool b))=_;rw [nH]
theorem aG (t:TypeId) (k:IntKind) (a b:Nat) (K:Value->Bool):aK P .lss t (.int k (.ofNat a)) (.int k (.ofNat b)) K=K (.bool (decide (a<b))):=by
 rw [Yn];congr 3;exact propext (Int.ofNat_lt (n:=a) (m:=b))
theorem nJ (t:TypeId) (k:IntKind) (a b:Nat) (K:Value->Bool):aK P .gtr t (.int k (.ofNat a)) (.int k (.ofNat b)) K=K (.bool (decide (b<a))):=by
 rw [Yo];congr 3;exact propext (Int.ofNat_lt (n:=b) (m:=a))
theorem RX (t:TypeId) (k:IntKind) (a b:Nat) (K:Value->Bool):aK P .geq t (.int k (.ofNat a)) (.int k (.ofNat b)) K=K (.bool (decide (b<=a))):=by
 rw [Jh];congr 2;have:(Int.ofNat a<Int.ofNat b)=(a<b):=propext (Int.ofNat_lt (n:=a) (m:=b));by_cases h:a<b
 ·have h2:¬b<=a:=by omega
  have h1:Int.ofNat a<Int.ofNat b:=by rw [this];exact h
  rw [decide_eq_true h1,decide_eq_false h2];rfl
 ·have h2:b<=a:=by omega
  have h1:¬Int.ofNat a<Int.ofNat b:=by rw [this];exact h
  rw [decide_eq_false h1,decide_eq_true h2];rfl
theorem rB (t:TypeId) (k:IntKind) (a b:Nat) (K:Value->Bool):aK P .eql t (.int k (.ofNat a)) (.int k (.ofNat b)) K=K (.bool (decide (a=b))):=by
 rw [PC];congr 2;by_cases h:a=b
 ·subst h;simp
 ·rw [decide_eq_false h]
  have:¬(Int.ofNat a=Int.ofNat b):=fun e=>h (Int.ofNat.inj e);simpa using this
theorem Fd (size b o i len cap:Nat) (h:i<len) (K:Value->Bool):dC size (.slice (some ⟨b,o,none⟩) len cap) (.int .i64 (.ofNat i)) K=K (.pointer (some ⟨b,o+i*size,none⟩)):=by
 show(match Nat.blt i len with | true=>dW (o+i*size) (fun o=>K (.pointer (some ⟨b,o,none⟩))) | false=>false)=_;have:Nat.blt i len=true:=Nat.ble_eq_true_of_le h;rw [this,dE]
theorem YK (size b o i len cap:Nat) (h:i<len) (K:Value->Bool):dC size (.slice (some ⟨b,o,some 0⟩) len cap) (.int .i64 (.ofNat i)) K=K (.pointer (some ⟨b,o+i*size,none⟩)):=by
 show(match Nat.blt i len with | true=>dW (o+i*size) (fun o=>K (.pointer (some ⟨b,o,none⟩))) | false=>false)=_;have:Nat.blt i len=true:=Nat.ble_eq_true_of_le h;rw [this,dE]
theorem aL{Sz:St}{o:fS}{i:Nat} (h:i≠Sz.n):(Sz.new o).obj i=Sz.obj i:=by rw [FO,if_neg h]
theorem aF{Sz:St}{o:fS}:(Sz.new o).obj Sz.n=some o:=by rw [FO,if_pos rfl]
theorem kM{Sz:St}{o:fS}:(Sz.new o).n=Sz.n+1:=rfl
theorem gG{Sz:St}{i:Nat}{o:fS}:(Sz.set i o).n=Sz.n:=rfl
theorem aX{Sz:St}{i:Nat}{o:fS}:(Sz.set i o).obj i=some o:=by rw [wZ,if_pos rfl]
theorem aJ{Sz:St}{i j:Nat}{o:fS} (h:j≠i):(Sz.set i o).obj j=Sz.obj j:=by rw [wZ,if_neg h]
theorem pQ (j:IntKind) (z:Int):gF (.int j z) (.int j z)=true:=by
 have h1:oM j j=true:=by cases j<;>rfl
 show(oM j j&&RK z z)=true;rw [h1,rL];simp
def bytesV (l:List UInt8):List Value:=l.map fun b=> .int .u8 (.ofNat b.toNat)
structure Src (Sz:St) (size:Nat) (x:Value) (n:Nat) (new:List Value):Prop where
 len:∀k,IG x k=k n
 first:∀k,n≠0->DC Sz size n x k=k new
 one:∀v∈new,oneCell v=true
theorem Src.text (Sz:St) (l:List UInt8):Src Sz 1 (.string ⟨⟨l⟩⟩) l.length (bytesV l):=by
 refine⟨fun k=>cV _ _,fun k h=>?_,fun v hv=>?_⟩
 ·show uJ l.length l (fun l=>Wt l k)=_
  rw [fL,if_pos (Nat.le_refl _),List.take_length,Ef];rfl
 ·obtain⟨b,_,rfl⟩:=List.mem_map.1 hv
  rfl
theorem Src.row{Sz:St}{i o n c size:Nat}{vs:List Value}{e:TypeId}{ck:CK} (h:Sz.obj i=some (.cells vs e ck)) (hn:o+n*size<=vs.length) (h1:∀v∈(vs.drop o).take (n*size),oneCell v=true):Src Sz size (.slice (some ⟨i,o,none⟩) n c) n ((vs.drop o).take (n*size)):=by
 refine⟨fun k=>rfl,fun k hz=>?_,h1⟩;obtain⟨m,rfl⟩:=Nat.exists_eq_succ_of_ne_zero hz;show DO Sz i o ((m+1)*size) k=_;rw [GA h hn]
theorem Cv{elem size bytes:Nat}{Sz:St}{x:Value}{new:List Value}{b:Option Addr}{m:Nat} (hx:Src Sz size x 0 new) (K:VK):kJ P elem size bytes (.slice b m m) x Sz K=K (.slice b m m) Sz:=by
 show IG x _=_;rw [hx.len];show(match Nat.ble m m with | true=>K (.slice b m m) Sz | false=>false)=_;have:Nat.ble m m=true:=Nat.ble_eq_true_of_le (Nat.le_refl m);rw [this]
theorem IW{elem size bytes n:Nat}{Sz:St}{x:Value}{new:List Value} (hx:Src Sz size x n new) (hz:n≠0) (hb:n*(bytes+1)<=1099511627776) (K:VK):
 kJ P elem size bytes (.slice none 0 0) x Sz K=K (.slice (some ⟨Sz.n,0,some 0⟩) n n) (Sz.new (.cells new elem (.grown []))):=by
 obtain⟨m,rfl⟩:=Nat.exists_eq_succ_of_ne_zero hz;show IG x _=_;rw [hx.len];show DC Sz size (m+1) x _=_;rw [hx.first _ hz];simp only [dE,Nat.zero_add];rw [show Nat.ble ((m+1)*(bytes+1)) 1099511627776=true from Nat.ble_eq_true_of_le hb];have:Nat.ble (m+1) 0=false:=rfl;simp only [this];show MC elem [] new (m+1) none Sz K=_;unfold MC;rw [mV];simp only [List.nil_append,gE]
theorem IX{elem size bytes n m j:Nat}{Sz:St}{x:Value}{new vs:List Value}{olds:List Nat} (hx:Src Sz size x n new) (hz:n≠0) (hb:(m+n)*(bytes+1)<=1099511627776)
 (hj:Sz.obj j=some (.cells vs elem (.grown olds))) (hv:vs.length=m*size) (hs:cN P elem=some size) (K:VK):
 kJ P elem size bytes (.slice (some ⟨j,0,some 0⟩) m m) x Sz K=K (.slice (some ⟨Sz.n,0,some 0⟩) (m+n) (m+n)) ((Sz.set j (.cells vs elem .stale)).new (.cells (vs++new) elem (.grown (j::olds)))):=by
 obtain⟨p,rfl⟩:=Nat.exists_eq_succ_of_ne_zero hz;show IG x _=_;rw [hx.len];show DC Sz size (p+1) x _=_;rw [hx.first _ hz];simp only [dE];rw [show Nat.ble ((m+(p+1))*(bytes+1)) 1099511627776=true from Nat.ble_eq_true_of_le hb]
 have:Nat.ble (m+(p+1)) m=false:=by
  cases h:Nat.ble (m+(p+1)) m with
  | false=>rfl
  | true=>have:=Nat.le_of_ble_eq_true h;omega
 simp only [this];show lD Sz j _=_;rw [iY hj];simp only [cV,Nat.zero_add,hv,hs];have hone:allB oneCell new=true:=by rw [jW];exact List.all_eq_true.2 hx.one
 simp only [show Nat.beq (m*size) (m*size)=true from Nat.beq_refl _,show Nat.beq size size=true from Nat.beq_refl _,show Nat.beq elem elem=true from Nat.beq_refl _,hone];rw [GA hj (by omega)];rw [List.drop_zero,<-hv,List.take_length];show MC elem vs new (m+(p+1)) (some (j,vs,elem,olds)) Sz K=_;unfold MC;rw [mV];simp only [jX,gE];rfl
end
structure cM (B:Nat->Prop) (Sz S':St) (B':Nat->Prop):Prop where
 n:Sz.n<=S'.n
 same:∀i,i<Sz.n->¬B i->S'.obj i=Sz.obj i
 sub:∀i,B' i->B i\/Sz.n<=i
theorem cM.trans{B B1 B2:Nat->Prop}{Sz S1z S2z:St} (h:cM B Sz S1z B1) (k:cM B1 S1z S2z B2):cM B Sz S2z B2:=by
 refine⟨Nat.le_trans h.n k.n,fun i hi hb=>?_,fun i hi=>?_⟩
 ·rw [k.same i (Nat.lt_of_lt_of_le hi h.n) (fun hb1=>?_),h.same i hi hb]
  rcases h.sub i hb1 with h1 | h1
  ·exact hb h1
  ·omega
 ·rcases k.sub i hi with h1 | h1
  ·exact h.sub i h1
  ·exact .inr (Nat.le_trans h.n h1)
theorem cM.refl (B:Nat->Prop) (Sz:St):cM B Sz Sz B:=⟨Nat.le_refl _,fun _ _ _=>rfl,fun _ h=> .inl h⟩
theorem cM.new (B:Nat->Prop) (Sz:St) (o:fS):cM B Sz (Sz.new o) B:=⟨Nat.le_succ _,fun _i hi _=>aL (Nat.ne_of_lt hi),fun _ h=> .inl h⟩
inductive It where
 | num
 | kind
 | int
 | is
 | text
 | nums
 | list (its:List It)
inductive D where
 | n (z:Int)
 | b (v:Bool)
 | s (l:List UInt8)
 | l (es:List (List D))
def Wr (c:CK):Prop:=c= .rs\/c= .exact\/∃l,c= .grown l
inductive Rd (Sz:St) (C:Nat->Prop):It->Value->D->Prop where
 | num {z:Nat} (h:z<18446744073709551616):Rd Sz C .num (.int .u64 (.ofNat z)) (.n z)
 | kind {z:Nat} (h:z<256):Rd Sz C .kind (.int .u8 (.ofNat z)) (.n z)
 | int {z:Int} (h1: -9223372036854775808<=z) (h2:z<9223372036854775808):Rd Sz C .int (.int .i64 z) (.n z)
 | is {v:Bool}:Rd Sz C .is (.bool v) (.b v)
 | text {l:List UInt8} (h:l.length<=140737488355328):Rd Sz C .text (.string ⟨⟨l⟩⟩) (.s l)
 | nums {v:Value} {es:List (List D)} (h:Rd Sz C (.list [.num]) v (.l es)):Rd Sz C .nums v (.l es)
 | empty {its:List It}:Rd Sz C (.list its) (.slice none 0 0) (.l [])
 | wK {its:List It} {b o s:Nat}:Rd Sz C (.list its) (.slice (some ⟨b,o,some (s+2)⟩) 0 0) (.l [])
 | row {its:List It} {b o n c:Nat} {sp:Option Nat} {vs:List Value} {e:TypeId} {ck:CK} {es:List (List D)} (hsp:Sl sp=true) (hb:b<Sz.n) (hC:¬C b) (ho:Sz.obj b=some (.cells vs e ck)) (hw:Wr ck)
  (hn:es.length=n) (hl:o+n*its.length<=vs.length) (hd:∀ds∈es,ds.length=its.length) (hN:n<=140737488355328) (hnc:n<=c)
  (hr:∀(k:Nat) (ds:List D) (j:Nat) (it:It) (v:Value) (d:D),es[k]? =some ds->its[j]? =some it->vs[o+k*its.length+j]? =some v->ds[j]? =some d->Rd Sz C it v d):Rd Sz C (.list its) (.slice (some ⟨b,o,sp⟩) n c) (.l es)
theorem Rd.fr{Sz S':St}{C C':Nat->Prop} (f:cM C Sz S' C'){it:It}{v:Value}{d:D} (h:Rd Sz C it v d):Rd S' C' it v d:=by
 induction h with
 | num h=>exact .num h
 | kind h=>exact .kind h
 | int h1 h2=>exact .int h1 h2
 | is=>exact .is
 | text h=>exact .text h
 | nums _ ih=>exact .nums ih
 | empty=>exact .empty
 | wK=>exact .wK
 | row hsp hb hC ho hw hn hl hd hN hnc _ ih=>
  refine .row hsp (Nat.lt_of_lt_of_le hb f.n) (fun h=>?_) (by rw [f.same _ hb hC];exact ho) hw hn hl hd hN hnc ih;rcases f.sub _ h with h | h
  ·exact hC h
  ·omega
structure qO (Sz:St) (C:Nat->Prop) (its:List It) (b o:Nat) (ds:List D):Prop where
 row:∃vs e ck,Sz.obj b=some (.cells vs e ck)/\Wr ck/\o+its.length<=vs.length/\∀(j:Nat) (it:It) (v:Value) (d:D),its[j]? =some it->vs[o+j]? =some v->ds[j]? =some d->Rd Sz C it v d
 lt:b<Sz.n
 nC:¬C b
 len:ds.length=its.length
theorem qO.fr{Sz S':St}{C C':Nat->Prop}{its:List It}{b o:Nat}{ds:List D} (h:qO Sz C its b o ds) (f:cM C Sz S' C'):qO S' C' its b o ds:=by
 obtain⟨vs,e,ck,h1,h2,h3,h4⟩:=h.row;refine⟨⟨vs,e,ck,by rw [f.same b h.lt h.nC];exact h1,h2,h3,fun j it v d a b c=>(h4 j it v d a b c).fr f⟩,Nat.lt_of_lt_of_le h.lt f.n,fun hc=>?_,h.len⟩;rcases f.sub _ hc with hc | hc
 ·exact h.nC hc
 ·have:=h.lt;omega
structure rN (Sz:St) (C:Nat->Prop) (it:It) (b o:Nat) (d:D):Prop where
 row:∃vs e ck v,Sz.obj b=some (.cells vs e ck)/\Wr ck/\vs[o]? =some v/\Rd Sz C it v d
 lt:b<Sz.n
 nC:¬C b
theorem rN.fr{Sz S':St}{C C':Nat->Prop}{it:It}{b o:Nat}{d:D} (h:rN Sz C it b o d) (f:cM C Sz S' C'):rN S' C' it b o d:=by
 obtain⟨vs,e,ck,v,h1,h2,h3,h4⟩:=h.row;refine⟨⟨vs,e,ck,v,by rw [f.same b h.lt h.nC];exact h1,h2,h3,h4.fr f⟩,Nat.lt_of_lt_of_le h.lt f.n,fun hc=>?_⟩;rcases f.sub _ hc with hc | hc
 ·exact h.nC hc
 ·have:=h.lt;omega
theorem qO.cell{Sz:St}{C:Nat->Prop}{its:List It}{b o:Nat}{ds:List D} (h:qO Sz C its b o ds) (j:Nat){it:It} (hj:its[j]? =some it):∃d,ds[j]? =some d/\rN Sz C it b (o+j) d:=by
 obtain⟨vs,e,ck,h1,h2,h3,h4⟩:=h.row;have hlt:=(List.getElem?_eq_some_iff.1 hj).1;have hv:vs[o+j]? =some (vs[o+j]'(by omega)):=List.getElem?_eq_getElem _;have hd:ds[j]? =some (ds[j]'(by rw [h.len];omega)):=List.getElem?_eq_getElem _;exact⟨_,hd,⟨vs,e,ck,_,h1,h2,hv,h4 j it _ _ hj hv hd⟩,h.lt,h.nC⟩
theorem qO.part{Sz:St}{C:Nat->Prop}{its:List It}{b o:Nat}{ds:List D} (h:qO Sz C its b o ds) (k m:Nat) (hk:k+m<=its.length):qO Sz C ((its.drop k).take m) b (o+k) ((ds.drop k).take m):=by
 obtain⟨vs,e,ck,h1,h2,h3,h4⟩:=h.row;refine⟨⟨vs,e,ck,h1,h2,by simp;omega,fun j it v d a b c=>?_⟩,h.lt,h.nC,by simp [h.len]⟩;rw [List.getElem?_take]at a c;split at a
 ·rename_i hj
  rw [if_pos hj,List.getElem?_drop]at c;rw [List.getElem?_drop]at a;exact h4 (k+j) it v d a (by rw [<-Nat.add_assoc];exact b) c
 ·cases a
theorem Rd.elem{Sz:St}{C:Nat->Prop}{its:List It}{v:Value}{es:List (List D)} (h:Rd Sz C (.list its) v (.l es)){k:Nat}{ds:List D} (hk:es[k]? =some ds):
 ∃b o sp c,v= .slice (some ⟨b,o,sp⟩) es.length c/\Sl sp=true/\qO Sz C its b (o+k*its.length) ds:=by
 cases h with
 | empty=>simp at hk
 | wK=>simp at hk
 | @row _ b o n c sp vs e ck _ hsp hb hC ho hw hn hl hd hN hnc hr=>
  subst hn;have hlt:=(List.getElem?_eq_some_iff.1 hk).1
  have hle:k*its.length+its.length<=es.length*its.length:=by
   have:(k+1)*its.length<=es.length*its.length:=Nat.mul_le_mul_right _ hlt
   rwa [Nat.add_mul,Nat.one_mul]at this
  exact⟨b,o,sp,c,rfl,hsp,⟨vs,e,ck,ho,hw,by omega,fun j it v d a b c=>hr k ds j it v d hk a b c⟩,hb,hC,hd ds (List.mem_of_getElem? hk)⟩
theorem Rd.len{Sz:St}{C:Nat->Prop}{its:List It}{v:Value}{es:List (List D)} (h:Rd Sz C (.list its) v (.l es)):(∃b c,v= .slice b es.length c)/\es.length<=140737488355328:=by
 cases h with
 | empty=>exact⟨⟨_,_,rfl⟩,by simp⟩
 | wK=>exact⟨⟨_,_,rfl⟩,by simp⟩
 | row hsp hb hC ho hw hn hl hd hN hnc hr=>subst hn;exact⟨⟨_,_,rfl⟩,hN⟩
theorem Rd.num_inv{Sz:St}{C:Nat->Prop}{v:Value}{d:D} (h:Rd Sz C .num v d):∃z:Nat,v= .int .u64 (.ofNat z)/\d= .n z/\z<18446744073709551616:=by
 cases h with | num h=>exact⟨_,rfl,rfl,h⟩
theorem Rd.DX{Sz:St}{C:Nat->Prop}{v:Value}{d:D} (h:Rd Sz C .kind v d):∃z:Nat,v= .int .u8 (.ofNat z)/\d= .n z/\z<256:=by
 cases h with | kind h=>exact⟨_,rfl,rfl,h⟩
theorem Rd.rA{Sz:St}{C:Nat->Prop}{v:Value}{d:D} (h:Rd Sz C .int v d):∃z:Int,v= .int .i64 z/\d= .n z/\ -9223372036854775808<=z/\z<9223372036854775808:=by
 cases h with | int h1 h2=>exact⟨_,rfl,rfl,h1,h2⟩
theorem Rd.NH{Sz:St}{C:Nat->Prop}{v:Value}{d:D} (h:Rd Sz C .is v d):∃z:Bool,v= .bool z/\d= .b z:=by
 cases h with | is=>exact⟨_,rfl,rfl⟩
theorem Rd.uU{Sz:St}{C:Nat->Prop}{v:Value}{d:D} (h:Rd Sz C .text v d):∃l,v= .string ⟨⟨l⟩⟩/\d= .s l/\l.length<=140737488355328:=by
 cases h with | text h=>exact⟨_,rfl,rfl,h⟩
theorem Rd.iW{Sz:St}{C:Nat->Prop}{its:List It}{v:Value}{d:D} (h:Rd Sz C (.list its) v d):∃es,d= .l es:=by
 cases h with | empty=>exact⟨_,rfl⟩ | wK=>exact⟨_,rfl⟩ | row=>exact⟨_,rfl⟩
theorem Fc (size b o i len cap:Nat) (sp:Option Nat) (hs:Sl sp=true) (h:i<len) (K:Value->Bool):dC size (.slice (some ⟨b,o,sp⟩) len cap) (.int .i64 (.ofNat i)) K=K (.pointer (some ⟨b,o+i*size,none⟩)):=by
 match sp,hs with
 | none,_=>exact Fd size b o i len cap h K
 | some 0,_=>exact YK size b o i len cap h K
structure aZ (Sz S':St):Prop where
 n:Sz.n<=S'.n
 same:∀i,i<Sz.n->S'.obj i=Sz.obj i
theorem aZ.fr{Sz S':St} (h:aZ Sz S') (B:Nat->Prop):cM B Sz S' B:=⟨h.n,fun i hi _=>h.same i hi,fun _ hi=> .inl hi⟩
theorem aZ.refl (Sz:St):aZ Sz Sz:=⟨Nat.le_refl _,fun _ _=>rfl⟩
theorem cM.ext{B B':Nat->Prop}{Sz S' S0:St} (h:cM B Sz S' B') (h0:aZ S0 Sz) (hB:∀i,B i->S0.n<=i):aZ S0 S':=
 ⟨Nat.le_trans h0.n h.n,fun i hi=>by rw [h.same i (Nat.lt_of_lt_of_le hi h0.n) (fun hb=>by have:=hB i hb;omega),h0.same i hi]⟩
structure lL (Sz:St) (C:Nat->Prop) (its:List It) (cs:List Value) (ds:List D):Prop where
 len:cs.length=its.length
 jK:ds.length=its.length
 rd:∀(j:Nat) (it:It) (v:Value) (d:D),its[j]? =some it->cs[j]? =some v->ds[j]? =some d->Rd Sz C it v d
theorem lL.fr{Sz S':St}{C C':Nat->Prop}{its:List It}{cs:List Value}{ds:List D} (h:lL Sz C its cs ds) (f:cM C Sz S' C'):lL S' C' its cs ds:=⟨h.len,h.jK,fun j it v d a b c=>(h.rd j it v d a b c).fr f⟩
theorem Rd.one{Sz:St}{C:Nat->Prop}{it:It}{v:Value}{d:D} (h:Rd Sz C it v d):oneCell v=true:=by
 cases h with
 | nums h=>cases h<;>rfl
 | _=>rfl
theorem lL.one{Sz:St}{C:Nat->Prop}{its:List It}{cs:List Value}{ds:List D} (h:lL Sz C its cs ds):∀v∈cs,oneCell v=true:=by
 intro v hv;obtain⟨j,hj⟩:=List.getElem?_of_mem hv;have hlt:=(List.getElem?_eq_some_iff.1 hj).1;exact(h.rd j _ v _ (List.getElem?_eq_getElem (by rw [<-h.len];exact hlt)) hj (List.getElem?_eq_getElem (by rw [h.jK,<-h.len];exact hlt))).one
theorem lL.Hl{Sz:St}{C:Nat->Prop}{its:List It}{cs:List Value}{ds:List D} (h:lL Sz C its cs ds) (t:TypeId):qO (Sz.new (.cells cs t .exact)) (fun _=>False) its Sz.n 0 ds:=by
 have f:cM C Sz (Sz.new (.cells cs t .exact)) (fun _=>False):=⟨Nat.le_succ _,fun i hi _=>aL (Nat.ne_of_lt hi),fun _ h=>h.elim⟩;refine⟨⟨cs,t,.exact,aF,.inr (.inl rfl),by rw [h.len];omega,fun j it v d a b c=>?_⟩,by rw [kM];omega,fun h=>h,h.jK⟩;rw [Nat.zero_add]at b;exact(h.rd j it v d a b c).fr f
theorem aZ.trans{a b c:St} (h:aZ a b) (k:aZ b c):aZ a c:=⟨Nat.le_trans h.n k.n,fun i hi=>by rw [k.same i (Nat.lt_of_lt_of_le hi h.n),h.same i hi]⟩
theorem aZ.new (Sz:St) (o:fS):aZ Sz (Sz.new o):=⟨Nat.le_succ _,fun _i hi=>aL (Nat.ne_of_lt hi)⟩
theorem cW{Sz:St}{C:Nat->Prop}{its:List It}{v:Value}{d:D} (h:Rd Sz C (.list its) v d):gF v v=true:=by
 cases h with
 | empty=>rfl
 | @wK _ b o s=>show((Nat.beq b b&&Nat.beq o o)&&Nat.beq s s)=true;simp
 | @row _ b o n c sp vs e ck es hsp=>
  match sp,hsp with
  | none,_=>show((Nat.beq b b&&Nat.beq o o)&&(Nat.beq n n&&Nat.beq c c))=true;simp
  | some 0,_=>show((Nat.beq b b&&Nat.beq o o)&&(Nat.beq n n&&Nat.beq c c))=true;simp
theorem mapM_some{α β:Type}{f:α->Option β}:∀{l:List α} {xs:List β},l.mapM f=some xs->xs.length=l.length/\∀(i:Nat) (a:α),l[i]? =some a->∃x,xs[i]? =some x/\f a=some x:=by
 intro l;induction l with
 | nil=>intro xs h;simp at h;subst h;exact⟨rfl,fun i a h=>by simp at h⟩
 | cons b l ih=>
  intro xs h;rw [List.mapM_cons]at h;cases hb:f b with
  | none=>rw [hb]at h;cases h
  | some y=>
   rw [hb]at h;cases hl:l.mapM f with
   | none=>rw [hl]at h;cases h
   | some ys=>
    rw [hl]at h;have h:some (y::ys)=some xs:=h;injection h with h;subst h;obtain⟨i1,i2⟩:=ih hl;refine⟨by simp [i1],fun i a ha=>?_⟩;cases i with
    | zero=>simp at ha;subst ha;exact⟨y,rfl,hb⟩
    | succ i=>simpa using i2 i a (by simpa using ha)
def Mx (P:Program) (g:TypeId->Option (List It)):List Field->Nat->Option (List It)
 | [],_=>some []
 | fd::fs,off=>if fd.offset=off then match g fd.type,cN P fd.type with
  | some its,some m=>if m=its.length then(Mx P g fs (off+m)).map (its++ ·)else none
  | _,_=>none else none
def My (P:Program):Nat->TypeId->Option (List It)
 | 0,_=>none
 | f+1,t=>match P.underlying t with
  | some .bool=>some [.is]
  | some (.int .u64)=>some [.num]
  | some (.int .u8)=>some [.kind]
  | some (.int .i64)=>some [.int]
  | some .string=>some [.text]
  | some (.slice e)=>match My P f e,cN P e,P.bytesOf e with
   | some (i::its),some m,_+1=>if m=its.length+1 then(match i,its with | .num,[]=>some [.nums] | i,its=>some [.list (i::its)])else none
   | _,_,_=>none
  | some (.struct fs)=>match Mx P (My P f) fs.toList 0,cN P t with
   | some its,some m=>if m=its.length then some its else none
   | _,_=>none
  | _=>none
def Lay (P:Program) (w:World) (U:Rn) (Sz:St):Prop:=Rel P w U Sz w/\∀i o,Sz.obj i=some o->o.reads=true
section
variable{P:Program}{w:World}
theorem Lay.add{U:Rn}{Sz:St} (h:Lay P w U Sz) (vs:List Value) (e:TypeId) (L:Loc){cs:Array Value}{t:TypeId}{fz:Nat×Nat} (hb:w.heap[L.b]? =some (.cells cs t fz))
 (hc:∀(j:Nat) (v:Value),vs[j]? =some v->∃v',cs[L.s+j]? =some v'/\VR U v v') (hm:cN P e=some L.m) (hz:∀j,j<vs.length->¬(fz.1<=L.s+j/\L.s+j<fz.2)):
 Lay P w (U.put Sz.n L) (Sz.new (.cells vs e .rs))/\Ext U (U.put Sz.n L):=by
 obtain⟨h,hr⟩:=h;have hnone:=h.dom Sz.n (Nat.le_refl _);have he:Ext U (U.put Sz.n L):=Rn.CC hnone
 have hput:∀j M,U.put Sz.n L j=some M->(j=Sz.n/\M=L)\/(j≠Sz.n/\U j=some M):=fun j M hj=>by
  unfold Rn.put at hj;by_cases e:j=Sz.n
  ·rw [if_pos e]at hj;injection hj with hj;exact .inl ⟨e,hj.symm⟩
  ·rw [if_neg e]at hj;exact .inr ⟨e,hj⟩
 have lK:∀j x,(Sz.new (.cells vs e .rs)).obj j=some x->(j=Sz.n/\x= .cells vs e .rs)\/(j≠Sz.n/\Sz.obj j=some x):=fun j x hx=>by
  rw [FO]at hx;by_cases e:j=Sz.n
  ·rw [if_pos e]at hx;injection hx with hx;exact .inl ⟨e,hx.symm⟩
  ·rw [if_neg e]at hx;exact .inr ⟨e,hx⟩
 have hreads:∀j x,(Sz.new (.cells vs e .rs)).obj j=some x->x.reads=true:=fun j x hx=>by
  rcases lK j x hx with ⟨_,rfl⟩ | ⟨_,hx⟩
  ·rfl
  ·exact hr j x hx
 have hlt:L.b<w.heap.size:=(Array.getElem?_eq_some_iff.1 hb).1;refine⟨⟨⟨fun g hg=>let⟨M,h1,h2⟩:=h.XQ g hg;⟨M,he _ _ h1,h2⟩,fun j x hx=>?_,fun j hj=>?_,fun j x hx=>?_,fun j M hj=>?_,fun i j a b M N hij ha hb' _ _ _ _ _=> .inl ⟨hreads i a ha,hreads j b hb'⟩,fun j us e' olds hj i hi=>?_,h.base⟩,hreads⟩,he⟩
 ·rcases lK j x hx with ⟨rfl,rfl⟩ | ⟨_,hx⟩
  ·exact⟨L,cs,t,fz,Rn.iV _ _ _,hb,fun j v hv=>let⟨v',a,b⟩:=hc j v hv;⟨v',a,b.mono he⟩,hm,hz⟩
  ·exact(h.DU j x hx).frame he fun _ _=>rfl
 ·have hj':Sz.n+1<=j:=hj
  unfold Rn.put;rw [if_neg (by omega)];exact h.dom j (by omega)
 ·rcases lK j x hx with ⟨rfl,_⟩ | ⟨_,hx⟩
  ·exact Nat.lt_succ_self _
  ·exact Nat.lt_succ_of_lt (h.lt j x hx)
 ·rcases hput j M hj with ⟨_,rfl⟩ | ⟨_,hM⟩
  ·exact hlt
  ·exact h.loc j M hM
 ·have:=hreads j _ hj
  simp [fS.reads]at this
def oO (P:Program) (w:World) (cs:List Value) (its:List It):Prop:=
 ∀(U:Rn) (Sz:St),Lay P w U Sz->∃U' S' vs ds,Ext U U'/\Lay P w U' S'/\aZ Sz S'/\gO U' vs cs/\lL S' (fun _=>False) its vs ds
theorem aZ.none{Sz S':St} (h:aZ Sz S'):cM (fun _=>False) Sz S' (fun _=>False):=h.fr _
theorem oO.plain{v:Value}{it:It}{d:D} (hf:cD v=true) (hr:∀Sz,Rd Sz (fun _=>False) it v d):oO P w [v] [it]:=fun U Sz h=>
 ⟨U,Sz,[v],[d],.refl U,h,.refl Sz,.cons (.flat hf) (.nil U),rfl,rfl,fun j it' v' d' a b c=>by
  cases j with
  | zero=>simp at a b c;subst a b c;exact hr Sz
  | succ j=>simp at a⟩
theorem oO.append{a b:List Value}{x y:List It} (h:oO P w a x) (k:oO P w b y):oO P w (a++b) (x++y):=fun U Sz hl=>by
 obtain⟨U1,S1z,v1,d1,e1,l1,x1,r1,s1⟩:=h U Sz hl;obtain⟨U2,S2z,v2,d2,e2,l2,x2,r2,s2⟩:=k U1 S1z l1;refine⟨U2,S2z,v1++v2,d1++d2,e1.trans e2,l2,x1.trans x2,(r1.mono e2).append r2,by simp [s1.len,s2.len],by simp [s1.jK,s2.jK],fun j it v d p q r=>?_⟩;have s1':=s1.fr x2.none;by_cases hj:j<x.length
 ·rw [List.getElem?_append_left hj]at p
  rw [List.getElem?_append_left (by rw [s1.len];exact hj)]at q;rw [List.getElem?_append_left (by rw [s1.jK];exact hj)]at r;exact s1'.rd j it v d p q r
 ·rw [List.getElem?_append_right (by omega)]at p
  rw [List.getElem?_append_right (by rw [s1.len];omega),s1.len]at q;rw [List.getElem?_append_right (by rw [s1.jK];omega),s1.jK]at r;exact s2.rd _ it v d p q r
theorem lay_all{its:List It}:∀{css:List (List Value)},(∀cs∈css,oO P w cs its)->∀(U:Rn) (Sz:St),Lay P w U Sz->∃(U':Rn) (S':St) (Qr:List (List Value)) (dss:List (List D)),Ext U U'/\Lay P w U' S'/\aZ Sz S'/\Qr.length=css.length/\dss.length=css.length/\
 (∀(k:Nat) (vs cs:List Value),Qr[k]? =some vs->css[k]? =some cs->gO U' vs cs)/\∀(k:Nat) (vs:List Value) (ds:List D),Qr[k]? =some vs->dss[k]? =some ds->lL S' (fun _=>False) its vs ds:=by
 intro css;induction css with
 | nil=>intro _ U Sz h;exact⟨U,Sz,[],[],.refl U,h,.refl Sz,rfl,rfl,by simp,by simp⟩
 | cons cs css ih=>
  intro hall U Sz h;obtain⟨U1,S1z,v1,d1,e1,l1,x1,r1,s1⟩:=hall cs (.head _) U Sz h;obtain⟨U2,S2z,Qr,dss,e2,l2,x2,n1,n2,r2,s2⟩:=ih (fun c hc=>hall c (.tail _ hc)) U1 S1z l1;refine⟨U2,S2z,v1::Qr,d1::dss,e1.trans e2,l2,x1.trans x2,by simp [n1],by simp [n2],fun k vs cs' a b=>?_,fun k vs ds a b=>?_⟩
  ·cases k with
   | zero=>simp at a b;subst a b;exact r1.mono e2
   | succ k=>exact r2 k vs cs' (by simpa using a) (by simpa using b)
  ·cases k with
   | zero=>simp at a b;subst a b;exact s1.fr x2.none
   | succ k=>exact s2 k vs ds (by simpa using a) (by simpa using b)
theorem UA{α:Type}{m:Nat}:∀{l:List (List α)},(∀x∈l,x.length=m)->∀(k j:Nat),j<m->l.flatten[k*m+j]? =(l[k]?).bind (·[j]?):=by
 intro l;induction l with
 | nil=>intro _ k j _;simp
 | cons x l ih=>
  intro h k j hj;have hx:=h x (.head _);cases k with
  | zero=>
   rw [List.flatten_cons,List.getElem?_append_left (by omega)];simp
  | succ k=>
   rw [List.flatten_cons,List.getElem?_append_right (by rw [hx,Nat.add_mul];omega),hx];rw [show(k+1)*m+j-m=k*m+j by rw [Nat.add_mul];omega,ih (fun y hy=>h y (.tail _ hy)) k j hj];simp
theorem Jc{α:Type}{m:Nat}:∀{l:List (List α)},(∀x∈l,x.length=m)->l.flatten.length=l.length*m:=by
 intro l;induction l with
 | nil=>intro _;simp
 | cons x l ih=>intro h;rw [List.flatten_cons,List.length_append,h x (.head _),ih fun y hy=>h y (.tail _ hy),List.length_cons,Nat.add_mul];omega
end
section
variable{P:Program}{w:World}
theorem UB{a:Addr}{n:Nat}{cs:List Value} (h:w.cells? 0 a n=some cs) (hn:0<n):∃c t fz,w.heap[a.block]? =some (.cells c t fz)/\a.spot=none:=by
 unfold World.cells? at h;rw [if_pos (Nat.zero_le _)]at h;obtain⟨_,h2⟩:=mapM_some h;obtain⟨x,_,hx⟩:=h2 0 0 (by simp [hn]);have hx:w.cell? a=some x:=by simpa [Addr.add]using hx
 unfold World.cell? at hx;cases hb:w.heap[a.block]? with
 | none=>rw [hb]at hx;cases hx
 | some o=>
  rw [hb]at hx;cases o with
  | cells c t fz=>
   simp only at hx;cases hs:a.spot with
   | none=>exact⟨c,t,fz,rfl,rfl⟩
   | some s=>rw [hs]at hx;simp at hx
  | _=>cases hx
theorem Tq{b off n:Nat}{cs:List Value}{c:Array Value}{t:TypeId}{fz:Nat×Nat} (h:w.cells? 0 ⟨b,off,none⟩ n=some cs) (hb:w.heap[b]? =some (.cells c t fz)):cs.length=n/\∀(j:Nat) (v:Value),cs[j]? =some v->c[off+j]? =some v:=by
 unfold World.cells? at h;rw [if_pos (Nat.zero_le _)]at h;obtain⟨h1,h2⟩:=mapM_some h;have h1:cs.length=n:=by simpa using h1
 refine⟨h1,fun j v hv=>?_⟩;have hj:j<n:=by rw [<-h1];exact(List.getElem?_eq_some_iff.1 hv).1
 obtain⟨x,hx,hc⟩:=h2 j j (by simp [hj]);rw [hv]at hx;injection hx with hx;subst hx;rw [iC]at hc;unfold World.cell? at hc;rw [hb]at hc;simpa using hc
variable{H:Type}{enc:TypeId×Value->H}
theorem Jd{e:TypeId}{x:Nat}:∀{l:List (DataW H)} {d:DataW H},d∈l->x∈d.weights P e->x∈DataW.weightsAll P e l:=by
 intro l;induction l with
 | nil=>intro d h;cases h
 | cons y l ih=>
  intro d h hx;rw [DataW.weightsAll];rcases List.mem_cons.1 h with rfl | h
  ·exact List.mem_append.2 (.inl hx)
  ·exact List.mem_append.2 (.inr (ih h hx))
theorem Ts{g:TypeId->Option (List It)}:∀{fs:List Field} {off:Nat} {its:List It},Mx P g fs off=some its->∀(cs:List Value) (F:TypeId->List Value->Option (DataW H×List MemPlace)) (xs:List (DataW H×List MemPlace)),
 (fs.mapM fun f=>F f.type ((cs.drop f.offset).take (P.cellsOf f.type)))=some xs->cs.length=off+its.length->
 (∀(k:Nat) (f:Field) (x:DataW H×List MemPlace),fs[k]? =some f->xs[k]? =some x->∀(i:List It) (c:List Value),g f.type=some i->F f.type c=some x->oO P w c i)->oO P w (cs.drop off) its:=by
 intro fs;induction fs with
 | nil=>
  intro off its h cs F xs _ hl _;unfold Mx at h;injection h with h;subst h;rw [List.drop_of_length_le (by simp at hl;omega)];exact fun U Sz hl=>⟨U,Sz,[],[],.refl U,hl,.refl Sz,.nil U,rfl,rfl,fun j it v d a=>by simp at a⟩
 | cons f fs ih=>
  intro off its h cs F xs hx hl hall;unfold Mx at h;split at h
  ·rename_i hoff
   split at h
   ·rename_i i m hg hm
    split at h
    ·rename_i hmi
     cases hr:Mx P g fs (off+m)with
     | none=>rw [hr]at h;cases h
     | some rest=>
      rw [hr]at h;have h:some (i++rest)=some its:=h;injection h with h;subst h;obtain⟨x1,x2⟩:=mapM_some hx;obtain⟨x,hx0,hF⟩:=x2 0 f rfl
      have hcm:P.cellsOf f.type=m:=by
       unfold Program.cellsOf;unfold cN at hm;rw [hm];rfl
      rw [hcm,hoff]at hF;have h1:oO P w ((cs.drop off).take m) i:=hall 0 f x rfl hx0 i _ hg hF
      have hxs:∃ys,xs=x::ys:=by
       cases xs with
       | nil=>simp at hx0
       | cons y ys=>simp at hx0;subst hx0;exact⟨ys,rfl⟩
      obtain⟨ys,rfl⟩:=hxs
      have hys:(fs.mapM fun f=>F f.type ((cs.drop f.offset).take (P.cellsOf f.type)))=some ys:=by
       rw [List.mapM_cons]at hx;cases ha:F f.type ((cs.drop f.offset).take (P.cellsOf f.type))with
       | none=>rw [ha]at hx;cases hx
       | some y=>
        rw [ha]at hx;cases hb:(fs.mapM fun f=>F f.type ((cs.drop f.offset).take (P.cellsOf f.type)))with
        | none=>rw [hb]at hx;cases hx
        | some zs=>
         rw [hb]at hx;have hx:some (y::zs)=some (x::ys):=hx;injection hx with hx;injection hx with _ hx;rw [hx]
      have h2:=ih hr cs F ys hys (by rw [hl,List.length_append];omega) fun k f' x' a b=>hall (k+1) f' x' (by simpa using a) (by simpa using b);have:=h1.append h2
      rwa [show(cs.drop off).take m++cs.drop (off+m)=cs.drop off by rw [<-List.drop_drop];exact List.take_append_drop _ _]at this
    ·cases h
   ·cases h
  ·cases h
end
section
variable{P:Program}{w:World}{H:Type}{enc:TypeId×Value->H}
theorem Xw{k:IntKind}{n:Int} (h:(Lit.int k n).wf=true):k.min<=n/\n<=k.max:=by
 unfold Lit.wf at h;simpa using h
theorem Tt{a:Addr}{len cap m:Nat}{e:TypeId}{its:List It}{els:List (DataW H×List MemPlace)}{F:List Value->Option (DataW H×List MemPlace)} (hm:its.length=m) (hpos:0<m) (hsz:cN P e=some m) (aF0:P.cellsOf e=m) (hlc:len<=cap)
 (hel:(List.range len).mapM (fun i=>(w.cells? 0 (a.add (i*m)) m).bind F)=some els) (hN:len<=140737488355328)
 (hsp:cap=0\/∃c t fz,w.heap[a.block]? =some (.cells c t fz)/\a.spot=none)
 (hz:∀i,i<len*m->w.frozen? ⟨a.block,a.off+i,none⟩=false)
 (hall:∀x∈els,∀cs,F cs=some x->oO P w cs its):
 ∀(U:Rn) (Sz:St),Lay P w U Sz->∃U' S' v ds,Ext U U'/\Lay P w U' S'/\aZ Sz S'/\VR U' v (.slice (some a) len cap)/\Rd S' (fun _=>False) (.list its) v (.l ds):=by
 intro U Sz hl;rcases Nat.eq_zero_or_pos cap with hc0 | hc0
 ·have:len=0:=by omega
  subst this hc0;obtain⟨b,o,sp⟩:=a;refine⟨U,Sz,.slice (some ⟨b,o,some ((match sp with | none=>0 | some k=>k+1)+2)⟩) 0 0,[],.refl U,hl,.refl Sz,.uN ?_,.wK⟩;cases sp<;>rfl
 ·rcases hsp with hsp | ⟨c,t,fz,hb,hspot⟩
  ·omega
  ·obtain⟨b,o,sp⟩:=a
   have hspot:sp=none:=hspot;subst hspot;obtain⟨h1,h2⟩:=mapM_some hel;have h1:els.length=len:=by simpa using h1
   let css:List (List Value):=(List.range len).map fun i=>(w.cells? 0 ((⟨b,o,none⟩:Addr).add (i*m)) m).getD []
   have aEM:∀i,i<len->∃cs x,css[i]? =some cs/\w.cells? 0 ⟨b,o+i*m,none⟩ m=some cs/\els[i]? =some x/\F cs=some x:=by
    intro i hi;obtain⟨x,hx,hF⟩:=h2 i i (by simp [hi]);rw [iC]at hF;cases hcs:w.cells? 0 ⟨b,o+i*m,none⟩ m with
    | none=>rw [hcs]at hF;cases hF
    | some cs=>
     rw [hcs]at hF;refine⟨cs,x,?_,rfl,hx,hF⟩;show((List.range len).map fun i=>(w.cells? 0 ((⟨b,o,none⟩:Addr).add (i*m)) m).getD [])[i]? =some cs;rw [List.getElem?_map,List.getElem?_range hi];show some ((w.cells? 0 ((⟨b,o,none⟩:Addr).add (i*m)) m).getD [])=some cs;rw [iC,hcs];rfl
   have hcl:css.length=len:=by show((List.range len).map _).length=len;simp
   have aDe:∀cs∈css,oO P w cs its:=by
    intro cs hcs;obtain⟨i,hi⟩:=List.getElem?_of_mem hcs;have hil:i<len:=by rw [<-hcl];exact(List.getElem?_eq_some_iff.1 hi).1
    obtain⟨cs',x,g1,_,g3,g4⟩:=aEM i hil;rw [hi]at g1;injection g1 with g1;subst g1;exact hall x (List.mem_of_getElem? g3) cs g4
   obtain⟨U1,S1z,Qr,dss,e1,l1,x1,n1,n2,r1,s1⟩:=lay_all aDe U Sz hl
   have hvl:∀vs∈Qr,vs.length=m:=by
    intro vs hvs;obtain⟨i,hi⟩:=List.getElem?_of_mem hvs;have hil:i<dss.length:=by rw [n2,<-n1];exact(List.getElem?_eq_some_iff.1 hi).1
    rw [(s1 i vs _ hi (List.getElem?_eq_getElem hil)).len,hm]
   have hfl:=Jc hvl
   have hA:∀(j:Nat) (v:Value),Qr.flatten[j]? =some v->∃v',c[o+j]? =some v'/\VR U1 v v':=by
    intro j v hj
    have hjl:j<len*m:=by
     have:=(List.getElem?_eq_some_iff.1 hj).1;rw [hfl,n1,hcl]at this;exact this
    have hk:j / m<len:=Nat.div_lt_of_lt_mul (by rw [Nat.mul_comm];exact hjl);have hjm:j%m<m:=Nat.mod_lt _ hpos;have ej:j=(j / m)*m+j%m:=by rw [Nat.mul_comm];exact(Nat.div_add_mod j m).symm
    rw [ej,UA hvl _ _ hjm]at hj;obtain⟨cs,x,g1,g2,g3,g4⟩:=aEM (j / m) hk;cases hvk:Qr[j / m]? with
    | none=>rw [hvk]at hj;cases hj
    | some vs=>
     rw [hvk]at hj;have Xo:=r1 _ vs cs hvk g1;obtain⟨v',hv',hr'⟩:=Xo.get hj;obtain⟨_,q2⟩:=Tq g2 hb;have:=q2 _ _ hv';exact⟨v',by rw [Nat.add_assoc,<-ej]at this;exact this,hr'⟩
   have hB:∀j,j<Qr.flatten.length->¬(fz.1<=o+j/\o+j<fz.2):=by
    intro j hj;have hjl:j<len*m:=by rw [hfl,n1,hcl]at hj;exact hj
    have:=hz j hjl;unfold World.frozen? at this;rw [hb]at this;intro⟨q1,q2⟩;simp at this;have:=this q1;omega
   obtain⟨l2,e2⟩:=l1.add Qr.flatten e ⟨b,o,0,m⟩ hb hA hsz hB;have x2:=aZ.new S1z (.cells Qr.flatten e .rs);refine⟨_,_,.slice (some ⟨S1z.n,0,none⟩) len cap,dss,e1.trans e2,l2,x1.trans x2,?_,?_⟩
   ·have:=VR.slice (U:=U1.put S1z.n ⟨b,o,0,m⟩) (o:=0) (n:=len) (c:=cap) (Rn.iV U1 S1z.n ⟨b,o,0,m⟩)
    exact this
   ·refine .row (e:=e) (ck:= .rs) rfl (Nat.lt_succ_self _) (fun h=>h) aF (.inl rfl) (by rw [n2,hcl]) (by rw [hfl,n1,hcl,hm];omega) (fun ds hds=>?_) hN hlc (fun k ds j it v d a1 a2 a3 a4=>?_)
    ·obtain⟨i,hi⟩:=List.getElem?_of_mem hds
     have hil:i<Qr.length:=by rw [n1,<-n2];exact(List.getElem?_eq_some_iff.1 hi).1
     exact(s1 i _ ds (List.getElem?_eq_getElem hil) hi).jK
    ·have hjm:j<m:=by rw [<-hm];exact(List.getElem?_eq_some_iff.1 a2).1
     rw [hm,Nat.zero_add,UA hvl k j hjm]at a3;cases hk:Qr[k]? with
     | none=>rw [hk]at a3;cases a3
     | some vs=>
      rw [hk]at a3;exact((s1 k vs ds hk a1).fr x2.none).rd j it v d a2 a3 a4
theorem Fe{y:Nat}:∀{fs:List Field} {xs:List (DataW H×List MemPlace)} {j:Nat} {f:Field} {x:DataW H×List MemPlace},fs[j]? =some f->xs[j]? =some x->y∈x.1.weights P f.type->y∈DataW.weightsEach P (fs.map (·.type)) (xs.map (·.1)):=by
 intro fs;induction fs with
 | nil=>intro xs j f x h;simp at h
 | cons g fs ih=>
  intro xs j f x h1 h2 h3;cases xs with
  | nil=>simp at h2
  | cons z xs=>
   rw [List.map_cons,List.map_cons,DataW.weightsEach];cases j with
   | zero=>simp at h1 h2;subst h1 h2;exact List.mem_append.2 (.inl h3)
   | succ j=>exact List.mem_append.2 (.inr (ih (by simpa using h1) (by simpa using h2) h3))
theorem lay (sp:Nat->Bool) (hsp:∀b,sp b=true):∀(F k:Nat) (t:TypeId) (cs:List Value) (d:DataW H) (ps:List MemPlace),DataW.trod enc P w 0 sp true F t cs=some (d,ps)->(∀b off,MemPlace.cell b off∈ps->w.frozen? ⟨b,off,none⟩=false)->
 (∀x∈d.weights P t,x<=reachBytes)->∀its,My P k t=some its->oO P w cs its:=by
 intro F;induction F with
 | zero=>intro k t cs d ps h;cases h
 | succ F ih=>
  intro k t cs d ps h hz hw its hi;cases k with
  | zero=>cases hi
  | succ k=>
   unfold My at hi;unfold DataW.trod at h;cases hu:P.underlying t with
   | none=>rw [hu]at hi;cases hi
   | some td=>
    rw [hu]at hi h;cases td with
    | bool=>
     injection hi with hi;subst hi
     match cs,h with
     | [.bool b],_=>exact oO.plain rfl fun Sz=> .is
    | int kd=>
     match cs,h with
     | [.int k' n],h=>
      simp only at h;split at h
      ·rename_i hk
       obtain⟨rfl,hwf⟩:=hk;obtain⟨r1,r2⟩:=Xw hwf;cases k' with
       | u64=>
        injection hi with hi;subst hi;have r1:(0:Int)<=n:=r1;have r2:n<=18446744073709551615:=r2;obtain⟨m,rfl⟩:=Int.eq_ofNat_of_zero_le r1;exact oO.plain rfl fun Sz=> .num (z:=m) (by omega)
       | u8=>
        injection hi with hi;subst hi;have r1:(0:Int)<=n:=r1;have r2:n<=255:=r2;obtain⟨m,rfl⟩:=Int.eq_ofNat_of_zero_le r1;exact oO.plain rfl fun Sz=> .kind (z:=m) (by omega)
       | i64=>
        injection hi with hi;subst hi;have r1:(-9223372036854775808:Int)<=n:=r1;have r2:n<=9223372036854775807:=r2;exact oO.plain rfl fun Sz=> .int r1 (by omega)
       | _=>cases hi
      ·cases h
    | string=>
     injection hi with hi;subst hi
     match cs,h with
     | [.string s],h=>
      simp only at h;split at h
      ·injection h with h
       injection h with h _;subst h;obtain⟨⟨l⟩⟩:=s;have:=hw l.length (by simp [DataW.weights]);exact oO.plain rfl fun Sz=> .text (l:=l) (by unfold reachBytes at this;omega)
      ·cases h
    | slice e=>
     simp only at hi;split at hi
     ·rename_i i0 aEN m by0 hit hsz hby
      split at hi
      ·rename_i hm
       have hcell:P.cellsOf e=m:=by unfold Program.cellsOf;unfold cN at hsz;rw [hsz];rfl
       have hfin:(∀(U:Rn) (Sz:St),Lay P w U Sz->∃U' S' v ds,Ext U U'/\Lay P w U' S'/\aZ Sz S'/\gO U' [v] cs/\Rd S' (fun _=>False) (.list (i0::aEN)) v (.l ds))->oO P w cs its:=by
        intro hgo U Sz hl;obtain⟨U',S',v,ds,g1,g2,g3,g4,g5⟩:=hgo U Sz hl;refine⟨U',S',[v],[.l ds],g1,g2,g3,g4,?_⟩;split at hi
        ·injection hi with hi;subst hi
         exact⟨rfl,rfl,fun j it v' d' a b c=>by
          cases j with
          | zero=>simp at a b c;subst a b c;exact .nums g5
          | succ j=>simp at a⟩
        ·injection hi with hi;subst hi
         exact⟨rfl,rfl,fun j it v' d' a b c=>by
          cases j with
          | zero=>simp at a b c;subst a b c;exact g5
          | succ j=>simp at a⟩
       match cs,h,hfin with
       | [.slice none 0 0],_,hfin=>exact hfin fun U Sz hl=>⟨U,Sz,_,[],.refl U,hl,.refl Sz,.cons (.flat rfl) (.nil U),.empty⟩
       | [.slice (some a) len cap],h,hfin=>
        simp only at h;split at h
        ·rename_i hcond
         rw [hcell]at h;cases hels:(List.range len).mapM (fun i=>(w.cells? 0 (a.add (i*m)) m).bind (DataW.trod enc P w 0 sp true F e))with
         | none=>rw [hels]at h;cases h
         | some els=>
          rw [hels]at h;simp only [Option.bind_some,hsp,if_true]at h;cases hrest:(List.range (cap-len)).mapM (fun j=>(w.cells? 0 (a.add ((len+j)*m)) m).bind (DataW.trod enc P w 0 sp true F e))with
          | none=>rw [hrest]at h;cases h
          | some rest=>
           rw [hrest]at h;injection h with h;injection h with hd hps;subst hd hps;obtain⟨n1,n2⟩:=mapM_some hels;obtain⟨n3,n4⟩:=mapM_some hrest;have n1:els.length=len:=by simpa using n1
           have n3:rest.length=cap-len:=by simpa using n3
           have hwt:(els.length+rest.length)*P.bytesOf e<=reachBytes:=hw _ (by rw [DataW.weights,hu];simp);rw [hby,n1]at hwt
           have aDf:len<=140737488355328:=by
            unfold reachBytes at hwt;have:len<=(len+rest.length)*by0.succ:=Nat.le_trans (Nat.le_add_right _ _) (Nat.le_mul_of_pos_right _ (Nat.succ_pos _));omega
           refine hfin fun U Sz hl=>?_
           obtain⟨U',S',v,ds,g1,g2,g3,g4,g5⟩:=Tt (F:=DataW.trod enc P w 0 sp true F e) (its:=i0::aEN) (e:=e) (by rw [hm];rfl) (by omega) hsz hcell hcond.2.1 hels aDf (by
            rcases Nat.eq_zero_or_pos cap with h0 | h0
            ·exact .inl h0
            ·right
             rcases Nat.eq_zero_or_pos len with h1 | h1
             ·obtain⟨x,_,hx⟩:=n4 0 0 (List.getElem?_range (by omega))
              cases hcs:w.cells? 0 (a.add ((len+0)*m)) m with
              | none=>rw [hcs]at hx;cases hx
              | some c0=>
               rw [h1]at hcs;simp only [Nat.add_zero,Nat.zero_mul]at hcs;exact UB (by simpa [Addr.add]using hcs) (by omega)
             ·obtain⟨x,_,hx⟩:=n2 0 0 (List.getElem?_range (by omega))
              cases hcs:w.cells? 0 (a.add (0*m)) m with
              | none=>rw [hcs]at hx;cases hx
              | some c0=>
               simp only [Nat.zero_mul]at hcs;exact UB (by simpa [Addr.add]using hcs) (by omega)) (fun i hi=>by
            refine hz a.block (a.off+i) (List.mem_append.2 (.inl ?_));unfold MemPlace.row;refine List.mem_map.2 ⟨i,List.mem_range.2 ?_,rfl⟩;rw [n1];have:len*m<=(len+rest.length)*m:=Nat.mul_le_mul_right _ (Nat.le_add_right _ _);omega) (fun x hx cs' hF=>by
            obtain⟨dx,px⟩:=x;refine ih k e cs' dx px hF (fun b off hb=>hz b off (List.mem_append.2 (.inr (List.mem_flatMap.2 ⟨(dx,px),List.mem_append.2 (.inl hx),hb⟩)))) (fun y hy=>hw y ?_) _ hit;rw [DataW.weights,hu];exact List.mem_cons_of_mem _ (List.mem_append.2 (.inl (Jd (List.mem_map.2 ⟨(dx,px),hx,rfl⟩) hy)))) U Sz hl
           exact⟨U',S',v,ds,g1,g2,g3,.cons g4 (.nil U'),g5⟩
        ·cases h
      ·cases hi
     ·cases hi
    | struct fs=>
     simp only at hi h
     have hi:∃m,Mx P (My P k) fs.toList 0=some its/\cN P t=some m/\m=its.length:=by
      split at hi
      ·rename_i dJ m' h1 h2
       split at hi
       ·rename_i h3
        injection hi with hi;subst hi;exact⟨m',h1,h2,h3⟩
       ·cases hi
      ·cases hi
     obtain⟨mm,hi,hsz,hmm⟩:=hi;have hct:P.cellsOf t=mm:=by unfold Program.cellsOf;unfold cN at hsz;rw [hsz];rfl
     split at h
     ·rename_i hlen
      cases hxs:(fs.toList.mapM fun f=>DataW.trod enc P w 0 sp true F f.type ((cs.drop f.offset).take (P.cellsOf f.type)))with
      | none=>rw [hxs]at h;cases h
      | some xs=>
       rw [hxs]at h;injection h with h;injection h with hd hps;subst hd hps
       have:=Ts (w:=w) hi cs (fun t c=>DataW.trod enc P w 0 sp true F t c) xs hxs (by omega) (fun j f x hf hx i c hg hF=>by
        obtain⟨dx,px⟩:=x;refine ih k f.type c dx px hF (fun b off hb=>hz b off (List.mem_flatMap.2 ⟨(dx,px),List.mem_of_getElem? hx,hb⟩)) (fun y hy=>hw y ?_) i hg;rw [DataW.weights,hu];exact Fe hf hx hy)
       rwa [List.drop_zero]at this
     ·cases h
    | _=>cases hi
end
end Go.Am
