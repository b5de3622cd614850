/- the shelf's contracts of strings.Builder, laid. -/
import Derived.Shelf.Strings.Builder1
import Derived.Shelf.Strings.BuilderF
import Derived.Shelf.Strings.BuilderK
import Derived.Test.YtbockfpeohfphaaGreatChecked
import Derived.Test.YtbockfpeohfphaaGreatGd
import Derived.Below
import Derived.WalkKit
import Derived.BigCall
import Derived.Laws.Bits64
import Derived.Test.YtbockfpeohfphaaGreatGb
import Derived.IntWalk
import Derived.Test.YtbockfpeohfphaaGreatGc

namespace Go.Proofs
open Go.Shelf
def Tryz.lays167_ren:Go.Shelf.Ren:=⟨fun | 167=>139 | 240=>136 | 276=>138 | n=>n,fun | 0=>0 | 4=>4 | 5=>5 | 9=>9 | 20=>20 | 37=>92 | 70=>91 | 72=>94 | 75=>250 | 80=>99 | 164=>255 | n=>n,fun | n=>n⟩
theorem Tryz.lays167:Go.Proofs.Lays.n167 Tryz.prog Tryz.lays167_ren:={
 mixed:=by kernel_rfl
 f167:=Tryz.func139.trans (congrArg some (by kernel_rfl))
 f240:=Tryz.func136.trans (congrArg some (by kernel_rfl))
 f276:=Tryz.func138.trans (congrArg some (by kernel_rfl))
 t0:=Tryz.underlying0
 a0:=Tryz.isAgg0
 z0:=Tryz.sizeOf0
 v0:=Tryz.zeroValue0
 t4:=Tryz.underlying4
 a4:=Tryz.isAgg4
 z4:=Tryz.sizeOf4
 v4:=Tryz.zeroValue4
 t5:=Tryz.underlying5
 a5:=Tryz.isAgg5
 z5:=Tryz.sizeOf5
 v5:=Tryz.zeroValue5
 t9:=Tryz.underlying9
 a9:=Tryz.isAgg9
 z9:=Tryz.sizeOf9
 v9:=Tryz.zeroValue9
 t20:=Tryz.underlying20
 a20:=Tryz.isAgg20
 z20:=Tryz.sizeOf20
 v20:=Tryz.zeroValue20
 t37:=Tryz.underlying92
 a37:=Tryz.isAgg92
 z37:=Tryz.sizeOf92
 v37:=Tryz.zeroValue92
 t70:=Tryz.underlying91
 a70:=Tryz.isAgg91
 z70:=Tryz.sizeOf91
 v70:=Tryz.zeroValue91
 t72:=Tryz.underlying94
 a72:=Tryz.isAgg94
 z72:=Tryz.sizeOf94
 v72:=Tryz.zeroValue94
 t75:=Tryz.underlying250
 a75:=Tryz.isAgg250
 z75:=Tryz.sizeOf250
 v75:=Tryz.zeroValue250
 t164:=Tryz.underlying255
 a164:=Tryz.isAgg255
 z164:=Tryz.sizeOf255
 v164:=Tryz.zeroValue255}
theorem Tryz.Builder_Extra_167:Builder.Extra Tryz.prog Tryz.lays167_ren:={
 sizeBuilder:=by kernel_rfl
 liesBuilder:=by kernel_rfl
 t5:=Tryz.underlying5
 a5:=Tryz.isAgg5
 z5:=Tryz.sizeOf5
 v5:=Tryz.zeroValue5
 infoByte:=by kernel_rfl
 cellsByte:=by kernel_rfl
 sizeByte:=by kernel_rfl
 neB5:=by decide}
open Go.RowKit in
theorem Tryz.Builder_WriteByte_k (B b:Nat) (bs:List Value) (c:Int) (w:World) (h:Lib.IsBuilderF 94 5 B b bs w) (hlen:bs.length+1<=140737488355328) (hBw:B<=w.heap.size):
 Calls Tryz.prog 139 #[.pointer (some ⟨b,0,none⟩),.int .u8 c] w fun e w'=>e= .returned .nilIface/\(Lib.BuilderAtF 94 5 B b (.pointer (some ⟨b,0,none⟩)) (bs++[.int .u8 c]) w'/\Below B w w'/\Lib.OthersKept 5 (some b) w w'):=Any.Builder_WriteByte_k Tryz.lays167 Tryz.Builder_Extra_167 B b bs c w h hlen hBw
def Tryz.lays166_ren:Go.Shelf.Ren:=⟨fun | 166=>130 | 240=>136 | 276=>138 | n=>n,fun | 0=>0 | 3=>3 | 4=>4 | 5=>5 | 9=>9 | 20=>20 | 37=>92 | 70=>91 | 72=>94 | 75=>250 | 80=>99 | 164=>255 | n=>n,fun | n=>n⟩
theorem Tryz.lays166:Go.Proofs.Lays.n166 Tryz.prog Tryz.lays166_ren:={
 mixed:=by kernel_rfl
 f166:=Tryz.func130.trans (congrArg some (by kernel_rfl))
 f240:=Tryz.func136.trans (congrArg some (by kernel_rfl))
 f276:=Tryz.func138.trans (congrArg some (by kernel_rfl))
 t0:=Tryz.underlying0
 a0:=Tryz.isAgg0
 z0:=Tryz.sizeOf0
 v0:=Tryz.zeroValue0
 t3:=Tryz.underlying3
 a3:=Tryz.isAgg3
 z3:=Tryz.sizeOf3
 v3:=Tryz.zeroValue3
 t4:=Tryz.underlying4
 a4:=Tryz.isAgg4
 z4:=Tryz.sizeOf4
 v4:=Tryz.zeroValue4
 t9:=Tryz.underlying9
 a9:=Tryz.isAgg9
 z9:=Tryz.sizeOf9
 v9:=Tryz.zeroValue9
 t20:=Tryz.underlying20
 a20:=Tryz.isAgg20
 z20:=Tryz.sizeOf20
 v20:=Tryz.zeroValue20
 t37:=Tryz.underlying92
 a37:=Tryz.isAgg92
 z37:=Tryz.sizeOf92
 v37:=Tryz.zeroValue92
 t70:=Tryz.underlying91
 a70:=Tryz.isAgg91
 z70:=Tryz.sizeOf91
 v70:=Tryz.zeroValue91
 t72:=Tryz.underlying94
 a72:=Tryz.isAgg94
 z72:=Tryz.sizeOf94
 v72:=Tryz.zeroValue94
 t75:=Tryz.underlying250
 a75:=Tryz.isAgg250
 z75:=Tryz.sizeOf250
 v75:=Tryz.zeroValue250
 t164:=Tryz.underlying255
 a164:=Tryz.isAgg255
 z164:=Tryz.sizeOf255
 v164:=Tryz.zeroValue255}
theorem Tryz.Builder_Extra_166:Builder.Extra Tryz.prog Tryz.lays166_ren:={
 sizeBuilder:=by kernel_rfl
 liesBuilder:=by kernel_rfl
 t5:=Tryz.underlying5
 a5:=Tryz.isAgg5
 z5:=Tryz.sizeOf5
 v5:=Tryz.zeroValue5
 infoByte:=by kernel_rfl
 cellsByte:=by kernel_rfl
 sizeByte:=by kernel_rfl
 neB5:=by decide}
open Go.RowKit in
theorem Tryz.Builder_WriteString_k (B b:Nat) (bs:List Value) (s:ByteArray) (w:World) (h:Lib.IsBuilderF 94 5 B b bs w) (hlen:bs.length+s.size<=140737488355328) (hBw:B<=w.heap.size):
 Calls Tryz.prog 130 #[.pointer (some ⟨b,0,none⟩),.string s] w fun e w'=>e= .returned (.tuple #[.int .i64 s.size,.nilIface])/\(Lib.BuilderAtF 94 5 B b (.pointer (some ⟨b,0,none⟩)) (bs++Lib.strCells s) w'/\Below B w w'/\Lib.OthersKept 5 (some b) w w'):=Any.Builder_WriteString_k Tryz.lays166 Tryz.Builder_Extra_166 B b bs s w h hlen hBw
def Tryz.lays169_ren:Go.Shelf.Ren:=⟨fun | 169=>30 | n=>n,fun | 0=>0 | 3=>3 | 5=>5 | 9=>9 | 37=>92 | 70=>91 | 72=>94 | 127=>166 | n=>n,fun | n=>n⟩
theorem Tryz.lays169:Go.Proofs.Lays.n169 Tryz.prog Tryz.lays169_ren:={
 mixed:=by kernel_rfl
 f169:=Tryz.func30.trans (congrArg some (by kernel_rfl))
 t0:=Tryz.underlying0
 a0:=Tryz.isAgg0
 z0:=Tryz.sizeOf0
 v0:=Tryz.zeroValue0
 t3:=Tryz.underlying3
 a3:=Tryz.isAgg3
 z3:=Tryz.sizeOf3
 v3:=Tryz.zeroValue3
 t9:=Tryz.underlying9
 a9:=Tryz.isAgg9
 z9:=Tryz.sizeOf9
 v9:=Tryz.zeroValue9
 t37:=Tryz.underlying92
 a37:=Tryz.isAgg92
 z37:=Tryz.sizeOf92
 v37:=Tryz.zeroValue92
 t70:=Tryz.underlying91
 a70:=Tryz.isAgg91
 z70:=Tryz.sizeOf91
 v70:=Tryz.zeroValue91
 t72:=Tryz.underlying94
 a72:=Tryz.isAgg94
 z72:=Tryz.sizeOf94
 v72:=Tryz.zeroValue94
 t127:=Tryz.underlying166
 a127:=Tryz.isAgg166
 z127:=Tryz.sizeOf166
 v127:=Tryz.zeroValue166}
theorem Tryz.Builder_Extra_169:Builder.Extra Tryz.prog Tryz.lays169_ren:={
 sizeBuilder:=by kernel_rfl
 liesBuilder:=by kernel_rfl
 t5:=Tryz.underlying5
 a5:=Tryz.isAgg5
 z5:=Tryz.sizeOf5
 v5:=Tryz.zeroValue5
 infoByte:=by kernel_rfl
 cellsByte:=by kernel_rfl
 sizeByte:=by kernel_rfl
 neB5:=by decide}
open Go.RowKit in
theorem Tryz.Builder_String_any_k (B b:Nat) (l:List UInt8) (w:World) (h:Lib.IsBuilderF 94 5 B b (Lib.byteCells l) w) (hBw:B<=w.heap.size):
 Calls Tryz.prog 30 #[.pointer (some ⟨b,0,none⟩)] w fun e w'=>e= .returned (.string ⟨l.toArray⟩)/\(Lib.IsBuilderF 94 5 B b (Lib.byteCells l) w'/\Below B w w'/\Lib.OthersKept 5 (some b) w w'):=Any.Builder_String_any_k Tryz.lays169 Tryz.Builder_Extra_169 B b l w h hBw
end Go.Proofs
namespace Go.Proofs.jB
open Go Go.RowKit Go.Proofs
def pH:Nat->Nat->List UInt8
 | 0,_=>[]
 | k+1,n=>UInt8.ofNat (n / 256 ^ k)::pH k n
set_option maxHeartbeats 4000000 in
set_option maxRecDepth 1000000 in
theorem aDv (s:ByteArray) (n k:Nat) (w:World) (_hn:n<18446744073709551616) (hk:k<=8) (hs:s.size<=35184372088832):
 Calls Tryz.prog 137 #[.string s,.int .u64 n,.int .i64 k] w fun e w'=>e= .returned (.string ⟨(s.data.toList++pH k n).toArray⟩)/\Below w.heap.size w w':=by
 go_enter Tryz.func137,Tryz.ntmps137
 have hI:=Lib.IsBuilderF.of (Lib.fresh_isBuilder 94 5 w);have hb0:Below w.heap.size w (w.alloc (.cells #[.pointer none,.slice none 0 0] 94)):=(Below.refl _ w).alloc (Nat.le_refl _) _;have C:=Tryz.Builder_WriteString_k w.heap.size w.heap.size [] s _ hI (by simp only [List.length_nil];omega) (by show w.heap.size<=(w.heap.push _).size;rw [Array.size_push];omega)
 go_wp2_with (go_at_call 130;refine C.mono ?_)
 rintro e W1 ⟨rfl,h1,b1,k1⟩
 go_wp2
 go_loopw [2] (fun v wr=>∃(j:Nat) (acc:List UInt8),j<=8/\v= .int .i64 j/\Lib.IsBuilderF 94 5 w.heap.size w.heap.size (Lib.byteCells acc) wr/\Below w.heap.size w wr/\acc++pH j n=s.data.toList++pH k n/\acc.length+j=s.size+k) (fun v _=>(intOf v).toNat)
 case atStart=>
  refine⟨k,s.data.toList,hk,rfl,?_,hb0.trans b1,rfl,by rw [Array.length_toList];rfl⟩;exact Or.inr h1
 case round=>
  obtain⟨j,acc,hj,rfl,hJ,hbw,hacc,hlen⟩:=hrel;cases j with
  | zero=>
   have C2:=Tryz.Builder_String_any_k w.heap.size w.heap.size acc wr hJ hbw.size
   go_wp2_with (go_at_call 30;refine C2.mono ?_)
   rintro e W2 ⟨rfl,_,b2,_⟩
   go_wp2
   go_ret
   exact⟨by rw [<-hacc];simp [pH],hbw.trans b2⟩
  | succ j=>
   have C3:=Tryz.Builder_WriteByte_k w.heap.size w.heap.size (Lib.byteCells acc) ((n:Int) / 2 ^ (8*j)%256) wr hJ (by rw [Lib.byteCells_length];omega) hbw.size
   go_wp2_with (go_at_call 139;refine C3.mono ?_)
   rintro e W2 ⟨rfl,h2,b2,_⟩
   go_wp2
   go_roundw
   case rel=>
    refine⟨j,acc++[UInt8.ofNat (n / 256 ^ j)],by omega,by go_num,?_,hbw.trans b2,?_,?_⟩
    ·refine Or.inr ?_
     rw [Lib.byteCells_append,show Lib.byteCells [UInt8.ofNat (n / 256 ^ j)]=[.int .u8 ((n:Int) / 2 ^ (8*j)%256)]from ?_]
     ·exact h2
     ·have e1:(256:Nat) ^ j=2 ^ (8*j):=by rw [Nat.pow_mul]
      have e2:(UInt8.ofNat (n / 2 ^ (8*j))).toNat=n / 2 ^ (8*j)%256:=by simp
      simp only [Lib.byteCells,List.map_cons,List.map_nil,e1,e2]
      norm_cast
    ·rw [<-hacc];simp [pH]
    ·rw [List.length_append];simp only [List.length_cons,List.length_nil];omega
   case measure=>simp [intOf]
end Go.Proofs.jB
namespace Go.Am
open Go.RowKit Go.MapKept Go.Proofs Go.Proofs.jB
noncomputable def aBJ (n:Nat) (j:Nat):(List UInt8->Bool)->Bool:=
 Nat.rec (motive:=fun _=>(List UInt8->Bool)->Bool) (fun k=>k []) (fun i ih k=>dW (Nat.mod (Nat.div n (Nat.pow 256 i)) 256) fun x=>ih fun t=>k (UInt8.ofNat x::t)) j
noncomputable def Rc (args:List Value) (Sz:St) (K:VK):Bool:=
 match args with
 | [.string ⟨⟨l⟩⟩,.int .u64 (.ofNat n),.int .i64 (.ofNat k)]=>match Nat.blt n 18446744073709551616,Nat.ble k 8 with
  | true,true=>mJ l fun m=>match Nat.ble m 35184372088832 with
   | true=>aBJ n k fun t=>AL l t fun bs=>K (.string ⟨⟨bs⟩⟩) Sz
   | false=>false
  | _,_=>false
 | _=>false
theorem Re (n:Nat):∀(j:Nat) (k:List UInt8->Bool),aBJ n j k=k (pH j n):=by
 intro j;induction j with
 | zero=>intro k;rfl
 | succ j ih=>
  intro k;show dW (Nat.mod (Nat.div n (Nat.pow 256 j)) 256) (fun x=>aBJ n j fun t=>k (UInt8.ofNat x::t))=_;rw [dE,ih];show k (UInt8.ofNat (n / 256 ^ j%256)::pH j n)=k (UInt8.ofNat (n / 256 ^ j)::pH j n)
  congr 2
  apply UInt8.toNat_inj.1;simp
section
variable{w0:World}{U:Rn}{Sz:St}{w:World}
theorem Yz:iD Tryz.prog w0 (fun f' args Sz K=>match Nat.beq f' 137 with | true=>Rc args Sz K | false=>false):=by
 intro f' args Sz K U w args' hk h ha;dsimp only at hk;split at hk
 ·rename_i hf'
  obtain rfl:f'=137:=by simpa using hf'
  refine⟨enters_of Tryz.func137 (by kernel_rfl) rfl ⟨args'⟩,?_⟩;unfold Rc at hk;split at hk
  ·rename_i l n k
   obtain⟨a',t,rfl,h1,h2⟩:=ha.dI;obtain⟨b',t,rfl,h3,h4⟩:=h2.dI;obtain⟨c',rfl,h5⟩:=WR h4;cases h1.of_flat rfl;cases h3.of_flat rfl;cases h5.of_flat rfl;split at hk
   ·rename_i hn hk8
    have hn:=Nat.le_of_ble_eq_true hn;have hk8:=Nat.le_of_ble_eq_true hk8;rw [cV]at hk;split at hk
    ·rename_i hm
     have hm:=Nat.le_of_ble_eq_true hm;rw [Re,mV]at hk;have C:=aDv ⟨⟨l⟩⟩ n k w hn hk8 hm;refine callsIn_wide.2 (C.mono ?_)
     rintro e w' ⟨rfl,hb⟩
     obtain⟨g1,g2⟩:=h.below hb;exact⟨_,rfl,U,_,Sz,hk,.flat rfl,g1,g2⟩
    ·cases hk
   ·cases hk
  ·cases hk
 ·cases hk
end
end Go.Am
namespace Go.Proofs.jB
open Go Go.RowKit Go.Proofs
end Go.Proofs.jB
namespace Go.Am
open Go.RowKit Go.MapKept Go.Proofs Go.Proofs.jB
noncomputable def Fz (args:List Value) (Sz:St) (K:VK):Bool:=
 match args with
 | [p,.func (.func g) ⟨[]⟩ ⟨[]⟩]=>match Nat.beq g 163 with
  | true=>aDt Sz p K
  | false=>false
 | _=>false
theorem Uq{w0:World}:iD Tryz.prog w0 (fun f' args Sz K=>match Nat.beq f' 162 with | true=>Fz args Sz K | false=>false):=by
 intro f' args Sz K U w args' hk hr ha;dsimp only at hk;split at hk
 ·rename_i hf'
  obtain rfl:f'=162:=by simpa using hf'
  refine⟨enters_of Tryz.func162 (by kernel_rfl) rfl ⟨args'⟩,?_⟩;unfold Fz at hk;split at hk
  ·rename_i p g
   obtain⟨p',fv,rfl,hv,hf⟩:=YY ha;cases hf.Qf;split at hk
   ·rename_i hg
    have hg:=Nat.eq_of_beq_eq_true hg;subst hg;exact callsIn_wide.2 (Ug hr (enters_of Tryz.func163 (by kernel_rfl) rfl) hv hk)
   ·cases hk
  ·cases hk
 ·cases hk
noncomputable def ovX (ov:FuncId->Option (List Value->St->VK->Bool)):FuncId->Option (List Value->St->VK->Bool):=
 yP 136 Nl<|
 yP 30 Jl<|
 yP 137 Rc<|
 yP 162 Fz<|
 yP 160 (VI 161 (.int .u64 (.ofNat 0)) Nq)<|
 yP 158 (VI 159 (.int .u8 (.ofNat 0)) YS)<|
 yP 165 (VI 166 (.string ⟨⟨[]⟩⟩) YT)<|
 yP 70 (VI 71 (.bool false) endP)<|
 yP 155 Rf<|
 ov
theorem aDA{w0:World}{ov:FuncId->Option (List Value->St->VK->Bool)} (h:Ba Tryz.prog w0 ov):Ba Tryz.prog w0 (ovX ov):=
 pP (f:=136) aBH<|
 pP (f:=30) Yw<|
 pP (f:=137) Yz<|
 pP (f:=162) Uq<|
 pP (f:=160) (WT (enters_of Tryz.func160 (by kernel_rfl) rfl) (aBK (enters_of Tryz.func161 (by kernel_rfl) rfl)) rfl fun _=>Ze)<|
 pP (f:=158) (WT (enters_of Tryz.func158 (by kernel_rfl) rfl) (aDw (enters_of Tryz.func159 (by kernel_rfl) rfl)) rfl fun _=>Un)<|
 pP (f:=165) (WT (enters_of Tryz.func165 (by kernel_rfl) rfl) (aDy (enters_of Tryz.func166 (by kernel_rfl) rfl)) rfl fun _=>Up)<|
 pP (f:=70) (WT (enters_of Tryz.func70 (by kernel_rfl) rfl) (aDz (enters_of Tryz.func71 (by kernel_rfl) rfl)) rfl fun _=>Zh)<|
 pP (f:=155) Zi<|
 h
end Go.Am
namespace Go.Am
open Go.Proofs Go.RowKit
theorem aAI:Tryz.prog.follows .mixedOrders=true:=by kernel_rfl
theorem Wn:Tryz.prog.funcs.toList.all (fun f=>f.name != "runtime.NumGoroutine")=true:=by kernel_rfl
theorem aAH:∀(f:FuncId) (fn:Func),Tryz.prog.funcs[f]? =some fn->fn.name≠ "runtime.NumGoroutine" :=by
 intro f fn h;have hm:fn∈Tryz.prog.funcs.toList:=List.mem_of_getElem? (i:=f) (by rw [Array.getElem?_toList];exact h);have:=List.all_eq_true.1 Wn fn hm;simpa using this
theorem gsz:Tryz.prog.globals.size=0:=by kernel_rfl
theorem aCC:GOk Tryz.prog []:=⟨by decide,fun x hx=>by cases hx⟩
noncomputable def aEf:FuncId->Option (List Value->St->VK->Bool):=ovX fun _=>none
theorem Sj{w:World}:Ba Tryz.prog w aEf:=aDA fun f g hg=>by cases hg
set_option maxRecDepth 1000000 in
theorem Wo:Qq Tryz.prog aEf 1000 60 7 [] ([],.bool true):=⟨by simp,rfl,by kernel_rfl⟩
noncomputable def Kg:FuncId->Option (List Value->St->VK->Bool):=yP 7 (Xv [([],.bool true)]) aEf
theorem aCz{w:World} (hsz:Tryz.prog.globals.size<=w.heap.size) (hl:Laid [] w):Ba Tryz.prog w Kg:=by
 refine pP (aBt (most:=1000) (n:=60) aCC hsz hl (fun w hz hw=>Sj) aAH aAI (enters_of Tryz.func7 (by kernel_rfl) rfl) fun x hx=>?_) Sj;rcases List.mem_cons.1 hx with rfl | hx
 ·exact Wo
 ·cases hx
end Go.Am
namespace Go.Am
open Go.RowKit Go.MapKept Go.Proofs Go.Proofs.jB
variable{most:Nat}
theorem aFB (most:Nat):∃X:Nat->EV,∀n,X n=xAt PP dD Kg most n:=⟨fun n=>xAt PP dD Kg most n,fun _=>rfl⟩
noncomputable def X (most:Nat):Nat->EV:=Classical.choose (aFB most)
theorem aAG (most n:Nat):X most n=xAt PP dD Kg most n:=Classical.choose_spec (aFB most) n
theorem bP (most n:Nat):(X most n).most=most:=by rw [aAG];rfl
theorem aT{n:Nat}{f:FuncId} (h:Kg f=none) (args:List Value) (Sz:St) (K:VK):(X most (n+1)).C f args Sz K=hZ PP dD f ((X most n).E PP) args Sz K:=by
 rw [aAG,aAG];exact Ys h args Sz K
theorem Bl{n:Nat}{f:FuncId}{g:List Value->St->VK->Bool} (h:Kg f=some g) (args:List Value) (Sz:St) (K:VK):(X most (n+1)).C f args Sz K=g args Sz K:=by
 rw [aAG];exact aDp h args Sz K
def aFC (Sz:St) (w:Nat) (B:Nat->Prop) (bs:List UInt8) (buf:Value):Prop:=
 (bs=[]/\buf= .slice none 0 0)\/∃j olds,bs≠[]/\B j/\j≠w/\Sz.obj j=some (.cells (bytesV bs) 5 (.grown olds))/\buf= .slice (some ⟨j,0,some 0⟩) bs.length bs.length
def Lies (t:TypeId) (m:Nat):Prop:=liesAt PP PP.depth t (Nat.div m (PP.cellsOf t)) 0 94 1=true
structure Cw (Sz:St) (w:Nat) (B:Nat->Prop) (bs:List UInt8) (t:TypeId) (rest:List Value):Prop where
 inB:B w
 lt:∀i,B i->i<Sz.n
 obj:∃addr buf,Sz.obj w=some (.cells (addr::buf::rest) t .exact)/\(addr= .pointer none\/addr= .pointer (some ⟨w,0,none⟩))/\aFC Sz w B bs buf
theorem Ll{n:Nat} (args:List Value) (Sz:St) (K:VK):(X most (n+1)).C qF args Sz K=Nl args Sz K:=Bl (by rfl) args Sz K
theorem aAJ{Sz:St}{w:Nat}{t:TypeId}{l:List Value} (h:Sz.obj w=some (.cells (.pointer none::l) t .exact)) (hl:Lies t (l.length+1)) (K:VK):
 Nl [.pointer (some ⟨w,0,none⟩)] Sz K=K (.tuple ⟨[]⟩) (Sz.set w (.cells (.pointer (some ⟨w,0,none⟩)::l) t .exact)):=by
 have hl:liesAt Tryz.prog Tryz.prog.depth t (Nat.div (l.length+1) (Tryz.prog.cellsOf t)) 0 94 1=true:=hl;unfold Nl;simp only [iY h,fH,cV,List.length_cons,hl];unfold eX;simp only [iY h,gS,jX];rw [if_pos (by simp)];simp [splice]
theorem Vy{Sz:St}{w:Nat}{t:TypeId}{l:List Value} (h:Sz.obj w=some (.cells (.pointer (some ⟨w,0,none⟩)::l) t .exact)) (K:VK):
 Nl [.pointer (some ⟨w,0,none⟩)] Sz K=K (.tuple ⟨[]⟩) Sz:=by
 show lD Sz w _=_;rw [iY h];show(match Nat.beq w w,Nat.beq 0 0 with | true,true=>K (.tuple ⟨[]⟩) Sz | _,_=>false)=_;rw [show Nat.beq w w=true from Nat.beq_refl w]
theorem DL{n:Nat}{Sz:St}{w:Nat}{B:Nat->Prop}{bs:List UInt8}{t:TypeId}{rest:List Value} (h:Cw Sz w B bs t rest) (hl:Lies t (rest.length+2)) (l:List UInt8) (hb:bs.length+l.length<=274877906944){K:VK}
 (hK:∀v S' B',Cw S' w B' (bs++l) t rest->cM B Sz S' B'->K v S'=true):(X most (n+2)).C bW [.pointer (some ⟨w,0,none⟩),.string ⟨⟨l⟩⟩] Sz K=true:=by
 rw [aT (by rfl),yI];unfold oL;rw [Ll];obtain⟨addr,buf,h1,h2,h3⟩:=h.obj
 have key:∀S1z:St,S1z.n=Sz.n->S1z.obj w=some (.cells (.pointer (some ⟨w,0,none⟩)::buf::rest) t .exact)->(∀i,i≠w->S1z.obj i=Sz.obj i)->
  (bI PP (.pointer (some ⟨w,0,none⟩)) fun v1=>
   aC 1 v1 fun v2=>aN v2 S1z fun v3 Sz=>kJ PP 5 1 1 v3 (.string ⟨⟨l⟩⟩) Sz fun v4 Sz=>bI PP (.pointer (some ⟨w,0,none⟩)) fun v5=>aC 1 v5 fun v6=>cQ 1 v6 v4 Sz fun Sz=>
    nI (.string ⟨⟨l⟩⟩) fun v7=>K (.tuple ⟨[v7,.nilIface]⟩) Sz)=true:=by
  intro S1z hn hw ho;rw [aH,aB,Nat.zero_add,cB hw (v:=buf) rfl];have hwn:w<Sz.n:=h.lt w h.inB
  have fin:∀(v4:Value) (S2z:St) (B':Nat->Prop),oneCell v4=true->S2z.obj w=some (.cells (.pointer (some ⟨w,0,none⟩)::buf::rest) t .exact)->B' w->(∀i,B' i->i<S2z.n)->aFC S2z w B' (bs++l) v4->
   Sz.n<=S2z.n->(∀i,i<Sz.n->¬B i->S2z.obj i=Sz.obj i)->(∀i,B' i->B i\/Sz.n<=i)->
   (bI PP (.pointer (some ⟨w,0,none⟩)) fun v5=>aC 1 v5 fun v6=>cQ 1 v6 v4 S2z fun Sz=>nI (.string ⟨⟨l⟩⟩) fun v7=>K (.tuple ⟨[v7,.nilIface]⟩) Sz)=true:=by
   intro v4 S2z B' hv hw2 hB' hlt hbuf hn2 hsame hsub;rw [aH,aB,Nat.zero_add,fI hw2 (by simp) hv,zV];refine hK _ _ B' ⟨hB',hlt,_,v4,by rw [aX];rfl,.inr rfl,?_⟩ ⟨hn2,fun i hi hb=>?_,hsub⟩
   ·rcases hbuf with hbuf | ⟨j,olds,g1,g2,g3,g4,g5⟩
    ·exact .inl hbuf
    ·exact .inr ⟨j,olds,g1,g2,g3,by rw [aJ g3];exact g4,g5⟩
   ·rw [aJ (show i≠w from fun e=>hb (e▸h.inB))]
    exact hsame i hi hb
  rcases Nat.eq_zero_or_pos l.length with hz | hz
  ·have hl0:l=[]:=List.eq_nil_of_length_eq_zero hz
   subst hl0;have hx:Src S1z 1 zS 0 (bytesV []):=Src.text S1z []
   have hbuf:∃b m,buf= .slice b m m:=by
    rcases h3 with ⟨_,e⟩ | ⟨_,_,_,_,_,_,e⟩
    ·exact⟨_,_,e⟩
    ·exact⟨_,_,e⟩
   obtain⟨b,m,rfl⟩:=hbuf;rw [Cv hx];refine fin _ _ B rfl hw h.inB (fun i hi=>by rw [hn];exact h.lt i hi) ?_ (by omega) (fun i hi hb=>ho i fun e=>hb (e▸h.inB)) (fun i hi=> .inl hi);rw [List.append_nil];rcases h3 with h3 | ⟨j,olds,g1,g2,g3,g4,g5⟩
   ·exact .inl h3
   ·exact .inr ⟨j,olds,g1,g2,g3,by rw [ho j g3];exact g4,g5⟩
  ·have hx:=Src.text S1z l
   rcases h3 with ⟨e1,e2⟩ | ⟨j,olds,g1,g2,g3,g4,g5⟩
   ·subst e1 e2
    rw [IW hx (by omega) (by omega)];refine fin _ _ (fun i=>B i\/i=Sz.n) rfl (by rw [aL (by omega)];exact hw) (.inl h.inB) (fun i hi=>?_) (.inr ⟨S1z.n,[],?_,.inr (by omega),by omega,?_,?_⟩) (by rw [kM];omega) (fun i hi hb=>?_) (fun i hi=>?_)
    ·rw [kM]
     rcases hi with hi | hi
     ·have:=h.lt i hi;omega
     ·omega
    ·intro e;simp at e;subst e;simp at hz
    ·rw [aF];rfl
    ·simp
    ·rw [aL (by omega)];exact ho i fun e=>hb (e▸h.inB)
    ·rcases hi with hi | hi
     ·exact .inl hi
     ·exact .inr (by omega)
   ·subst g5
    have hj1:S1z.obj j=some (.cells (bytesV bs) 5 (.grown olds)):=by rw [ho j g3];exact g4
    have hjn:j<Sz.n:=h.lt j g2;rw [IX hx (by omega) (by omega) hj1 (by simp [bytesV]) (by kernel_rfl)];refine fin _ _ (fun i=>B i\/i=Sz.n) rfl (by rw [aL (by rw [gG];omega),aJ (Ne.symm g3)];exact hw) (.inl h.inB) (fun i hi=>?_) (.inr ⟨S1z.n,j::olds,?_,.inr (by omega),by omega,?_,?_⟩) (by rw [kM,gG];omega) (fun i hi hb=>?_) (fun i hi=>?_)
    ·rw [kM,gG]
     rcases hi with hi | hi
     ·have:=h.lt i hi;omega
     ·omega
    ·intro e;exact g1 (List.append_eq_nil_iff.1 e).1
    ·have:S1z.n=(S1z.set j (.cells (bytesV bs) 5 .stale)).n:=rfl
     rw [this,aF];simp [bytesV]
    ·simp
    ·rw [aL (by rw [gG];omega),aJ (show i≠j from fun e=>hb (e▸g2))];exact ho i fun e=>hb (e▸h.inB)
    ·rcases hi with hi | hi
     ·exact .inl hi
     ·exact .inr (by omega)
 rcases h2 with e | e
 ·subst e
  rw [aAJ h1 (by simpa using hl)];exact key _ rfl aX fun i hi=>aJ hi
 ·subst e
  rw [Vy h1];exact key _ rfl h1 fun i _=>rfl
end Go.Am
namespace Go.Am
open Go.RowKit Go.MapKept Go.Proofs Go.Proofs.jB
variable{most:Nat}
theorem Lq{n:Nat} (l:List UInt8) (z k:Nat) (hz:z<18446744073709551616) (hk:k<=8) (hl:l.length<=35184372088832) (Sz:St) (K:VK):
 (X most (n+1)).C wT [.string ⟨⟨l⟩⟩,.int .u64 (.ofNat z),.int .i64 (.ofNat k)] Sz K=K (.string ⟨⟨l++pH k z⟩⟩) Sz:=by
 rw [Bl (g:=Rc) (by rfl)]
 show(match Nat.blt z 18446744073709551616,Nat.ble k 8 with
  | true,true=>mJ l fun m=>match Nat.ble m 35184372088832 with
   | true=>aBJ z k fun t=>AL l t fun bs=>K (.string ⟨⟨bs⟩⟩) Sz
   | false=>false
  | _,_=>false)=_
 rw [show Nat.blt z 18446744073709551616=true from Nat.ble_eq_true_of_le hz,show Nat.ble k 8=true from Nat.ble_eq_true_of_le hk];simp only [cV,show Nat.ble l.length 35184372088832=true from Nat.ble_eq_true_of_le hl,Re,mV]
theorem bK (k z:Nat):(pH k z).length=k:=by
 induction k with
 | zero=>rfl
 | succ k ih=>simp [pH,ih]
theorem aCQ{n:Nat} (l:List UInt8) (z:Nat) (hz:z<18446744073709551616) (hl:l.length<=35184372088832) (Sz:St) (K:VK):
 (X most (n+2)).C GP [.string ⟨⟨l⟩⟩,.int .u64 (.ofNat z)] Sz K=K (.string ⟨⟨l++pH 8 z⟩⟩) Sz:=by
 rw [aT (by rfl),Ps];unfold Al;rw [Lq l z 8 hz (by omega) hl]
theorem Lr{z:Nat} (h:z<256):xL .u64 (.ofNat z)= .ofNat z:=by
 show(match Nat.blt z 18446744073709551616 with | true=>_ | false=>_)=_;rw [show Nat.blt z 18446744073709551616=true from Nat.ble_eq_true_of_le (by omega)]
theorem wrap_u64{z:Nat} (h:z<18446744073709551616):xL .u64 (.ofNat z)= .ofNat z:=by
 show(match Nat.blt z 18446744073709551616 with | true=>_ | false=>_)=_;rw [show Nat.blt z 18446744073709551616=true from Nat.ble_eq_true_of_le h]
theorem aEa{n:Nat} (l:List UInt8) (z:Nat) (hz:z<256) (hl:l.length<=35184372088832) (Sz:St) (K:VK):
 (X most (n+2)).C KO [.string ⟨⟨l⟩⟩,.int .u8 (.ofNat z)] Sz K=K (.string ⟨⟨l++pH 1 z⟩⟩) Sz:=by
 rw [aT (by rfl),Ls];unfold UX;rw [oP,Lr hz,Lq l z 1 (by omega) (by omega) hl]
theorem yC (t:TypeId) (a b:List UInt8) (K:Value->Bool) (h:a.length+b.length<9223372036854775808):aK PP .add t (.string ⟨⟨a⟩⟩) (.string ⟨⟨b⟩⟩) K=K (.string ⟨⟨a++b⟩⟩):=by
 rw [FZ]
 show(mJ a fun n=>mJ b fun m=>match Nat.blt (n+m) 9223372036854775808 with
  | true=>AL a b fun l=>K (.string ⟨⟨l⟩⟩)
  | false=>false)=_
 rw [cV,cV,show Nat.blt (a.length+b.length) 9223372036854775808=true from Nat.ble_eq_true_of_le h];simp only [mV]
def kB (t:List UInt8):List UInt8×Nat:=if 2048<t.length then([],40)else(pH 2 t.length++t,0)
theorem aEb{n:Nat} (t:List UInt8) (ht:t.length<=140737488355328) (Sz:St) (K:VK):
 (X most (n+2)).C KP [.string ⟨⟨[]⟩⟩,.string ⟨⟨t⟩⟩] Sz K=K (.tuple ⟨[.string ⟨⟨(kB t).1⟩⟩,.int .i64 (.ofNat (kB t).2)]⟩) Sz:=by
 rw [aT (by rfl),Lt];unfold UY;rw [zV,nJ,iX];unfold kB;by_cases h:2048<t.length
 ·rw [if_pos h,if_pos (by simpa using h)]
 ·rw [if_neg h,if_neg (by simpa using h)]
  rw [zV,oP,wrap_u64 (by omega),Lq [] t.length 2 (by omega) (by omega) (by simp)];rw [List.nil_append,yC _ _ _ _ (by rw [bK];omega)]
def kT (l:List Nat):List UInt8×Nat:=if 1024<l.length then([],40)else(pH 2 l.length++l.flatMap (pH 8),0)
theorem Wd (l:List UInt8) (k:List UInt8->Bool):PF (bytesV l) k=k l:=by
 induction l generalizing k with
 | nil=>rfl
 | cons b l ih=>
  show(match Nat.blt b.toNat 256 with | true=>PF (bytesV l) (fun t=>k (UInt8.ofNat b.toNat::t)) | false=>false)=_;rw [show Nat.blt b.toNat 256=true from Nat.ble_eq_true_of_le b.toNat_lt,ih];simp
theorem Lu{n:Nat}{Sz:St}{w:Nat}{B:Nat->Prop}{bs:List UInt8}{t:TypeId}{rest:List Value} (h:Cw Sz w B bs t rest) (hb:bs.length<=274877906944){K:VK}
 (hK:∀S',cM B Sz S' B->K (.string ⟨⟨bs⟩⟩) S'=true):(X most (n+1)).C jJ [.pointer (some ⟨w,0,none⟩)] Sz K=true:=by
 rw [Bl (g:=Jl) (by rfl)];obtain⟨a,b,h1,h2,h3⟩:=h.obj;unfold Jl;simp only [iY h1,jL,fH];rcases h3 with ⟨e1,e2⟩ | ⟨j,olds,g1,g2,g3,g4,g5⟩
 ·subst e1 e2
  exact hK Sz (.refl B Sz)
 ·subst g5
  obtain⟨m,hm⟩:=Nat.exists_eq_succ_of_ne_zero (show bs.length≠0 from fun e=>g1 (List.eq_nil_of_length_eq_zero e));rw [hm];show uI Sz.h j _=true;rw [CB];have g4':Sz.h.get j=some (.cells (bytesV bs) 5 (.grown olds)):=g4;rw [g4'];simp only;rw [show Nat.ble (m+1) 9223372036854775807=true from Nat.ble_eq_true_of_le (by omega)];show oE 0 (bytesV bs) _=true;rw [eH,if_pos (by omega),fL,if_pos (by simp [bytesV];omega)]
  have:(List.drop 0 (bytesV bs)).take (Nat.succ m)=bytesV bs:=by
   rw [List.drop_zero,List.take_of_length_le (by simp [bytesV];omega)]
  rw [this,Wd,jX];exact hK _ ⟨Nat.le_refl _,fun i _ hi=>aJ (fun e=>hi (e▸g2)),fun _ hi=> .inl hi⟩
theorem aAL:Lies 94 2:=by unfold Lies;kernel_rfl
theorem We{n:Nat}{v:Value}{ns:List Nat} (hlen:ns.length<=1024):
 ∀(r i m:Nat) (Sz:St) (w:Nat) (B:Nat->Prop) (bs:List UInt8) (K:VK),i+r=ns.length->r<m->Cw Sz w B bs 94 []->bs.length<=100000-8*r->Rd Sz B (.list [.num]) v (.l (ns.map fun z:Nat=>[.n (z:Int)]))->
  (∀S' B',cM B Sz S' B'->K (.tuple ⟨[.string ⟨⟨bs++(ns.drop i).flatMap (pH 8)⟩⟩,.int .i64 (.ofNat 0)]⟩) S'=true)->
  nF (X most (n+2)) m (.pointer (some ⟨w,0,none⟩)) v (.int .i64 (.ofNat ns.length)) (.int .i64 (.ofNat i)) Sz K=true:=by
 intro r;induction r with
 | zero=>
  intro i m Sz w B bs K hi hm hB hbs hv hK;obtain⟨m,rfl⟩:=Nat.exists_eq_succ_of_ne_zero (show m≠0 by omega);rw [yK];unfold qY;rw [aG,iX,if_neg (by simp;omega)];refine Lu (n:=n+1) hB (by omega) fun S' f=>?_;have:=hK S' B f
  rwa [List.drop_of_length_le (by omega),List.flatMap_nil,List.append_nil]at this
 | succ r ih=>
  intro i m Sz w B bs K hi hm hB hbs hv hK;obtain⟨m,rfl⟩:=Nat.exists_eq_succ_of_ne_zero (show m≠0 by omega);rw [yK];unfold qY;rw [aG,iX,if_pos (by simp;omega)];have hlt:i<ns.length:=by omega
  have hz:ns[i]? =some ns[i]:=List.getElem?_eq_getElem hlt;obtain⟨b,o,sp,c,rfl,hsp,hst⟩:=hv.elem (k:=i) (ds:=[.n ns[i]]) (by simp [hz]);obtain⟨d,hd,hc⟩:=hst.cell 0 (it:= .num) rfl;simp at hd;subst hd;obtain⟨vs,e,ck,u,g1,g2,g3,g4⟩:=hc.row;rw [Fc 1 b o i _ c sp hsp (by simpa using hlt),cB g1 (by simpa using g3)];obtain⟨z,rfl,ez,aHg⟩:=g4.num_inv;have ez:ns[i]=z:=by injection ez with ez;exact Int.ofNat.inj ez
  rw [Lq [] z 8 aHg (by omega) (by simp),List.nil_append];refine DL (n:=n) hB (by exact aAL) (pH 8 z) (by rw [bK];omega) fun v' S' B' hB' f=>?_;rw [aP _ _ _ _ (by omega)];have hv':=hv.fr f;refine ih (i+1) m S' w B' (bs++pH 8 z) K (by omega) (by omega) hB' (by rw [List.length_append,bK];omega) hv' fun S2z B2 f2=>?_;have:=hK S2z B2 (f.trans f2)
  have e1:ns.drop i=z::ns.drop (i+1):=by
   rw [List.drop_eq_getElem_cons hlt,ez]
  rw [e1,List.flatMap_cons,<-List.append_assoc]at this;exact this
theorem Dl{Sz:St}{C:Nat->Prop}{v:Value}{es:List (List D)} (h:Rd Sz C (.list [.num]) v (.l es)):∃ns:List Nat,es=ns.map fun z:Nat=>[D.n (z:Int)]:=by
 have:∀(k:Nat) (ds:List D),es[k]? =some ds->∃z:Nat,ds=[D.n (z:Int)]:=by
  intro k ds hk;obtain⟨b,o,sp,c,rfl,hsp,hst⟩:=h.elem hk;obtain⟨d,hd,hc⟩:=hst.cell 0 (it:= .num) rfl;obtain⟨vs,e,ck,u,g1,g2,g3,g4⟩:=hc.row;obtain⟨z,rfl,rfl,_⟩:=g4.num_inv;have hl:=hst.len
  match ds,hl,hd with
  | [d],_,hd=>simp at hd;exact⟨z,by rw [hd]⟩
 clear h;induction es with
 | nil=>exact⟨[],rfl⟩
 | cons ds es ih=>
  obtain⟨z,rfl⟩:=this 0 ds rfl;obtain⟨ns,rfl⟩:=ih fun k ds hk=>this (k+1) ds (by simpa using hk);exact⟨z::ns,rfl⟩
theorem aEc{n:Nat}{v:Value}{ns:List Nat}{Sz:St}{C:Nat->Prop} (hv:Rd Sz C (.list [.num]) v (.l (ns.map fun z:Nat=>[.n (z:Int)]))) (hm:1024<most){K:VK}
 (hK:∀S',aZ Sz S'->K (.tuple ⟨[.string ⟨⟨(kT ns).1⟩⟩,.int .i64 (.ofNat (kT ns).2)]⟩) S'=true):(X most (n+3)).C CX [.string ⟨⟨[]⟩⟩,v] Sz K=true:=by
 rw [aT (by rfl),Lv];unfold UZ;obtain⟨⟨b,c,e⟩,hN⟩:=hv.len;rw [List.length_map]at e hN;have hv0:=hv;subst e;rw [zU,nJ,iX];unfold kT at hK;by_cases h:1024<ns.length
 ·rw [if_pos (by simpa using h)]
  rw [if_pos h]at hK;exact hK Sz (.refl Sz)
 ·rw [if_neg (by simpa using h)]
  rw [if_neg h]at hK;rw [eB,zU,oP,wrap_u64 (by omega),Lq [] ns.length 2 (by omega) (by omega) (by simp),List.nil_append];have hB:Cw (Sz.new (.cells [.pointer none,.slice none 0 0] 94 .exact)) Sz.n (fun i=>i=Sz.n) [] 94 []:=⟨rfl,fun i hi=>by subst hi;exact Nat.lt_succ_self _,_,_,aF,.inl rfl,.inl ⟨rfl,rfl⟩⟩;have hx:aZ Sz (Sz.new (.cells [.pointer none,.slice none 0 0] 94 .exact)):=⟨Nat.le_succ _,fun i hi=>aL (Nat.ne_of_lt hi)⟩;refine DL (n:=n) hB (by exact aAL) (pH 2 ns.length) (by rw [bK];simp) fun v' S' B' hB' f=>?_;rw [zU];have hx':aZ Sz S':=f.ext hx fun i hi=>by omega
  have aFD:∀i,B' i->Sz.n<=i:=fun i hi=>by
   rcases f.sub i hi with h | h
   ·omega
   ·rw [kM]at h;omega
  have hv':Rd S' B' (.list [.num]) (.slice b ns.length c) (.l (ns.map fun z:Nat=>[.n (z:Int)])):=by
   have:cM C Sz S' B':=⟨hx'.n,fun i hi _=>hx'.same i hi,fun i hi=> .inr (aFD i hi)⟩;exact hv.fr this
  rw [bP];refine We (n:=n) (by omega) ns.length 0 most S' Sz.n B' (pH 2 ns.length) K (by omega) (show ns.length<most by omega) (by simpa using hB') (by rw [bK];omega) hv' fun S2z B2 f2=>?_;rw [List.drop_zero];exact hK S2z (f2.ext hx' aFD)
variable{most:Nat}
abbrev iZ:=List UInt8×Nat
abbrev KQ (Sz:St) (w:Nat) (B:Nat->Prop) (st:iZ):Prop:=Cw Sz w B st.1 96 [.int .i64 (.ofNat st.2)]
def vO:Nat:=274877906944
def QN (l:List UInt8) (st:iZ):iZ:=(st.1++l,st.2)
def wr (x:List UInt8×Nat) (st:iZ):iZ:=(st.1++x.1,if st.2=0 then x.2 else st.2)
theorem aEd:Lies 96 3:=by unfold Lies;kernel_rfl
abbrev pt (b o:Nat):Value:= .pointer (some ⟨b,o,none⟩)
abbrev hand (w:Nat):Value:= .iface 90 (pt w 0)
theorem FF{n:Nat}{Sz:St}{w:Nat}{B:Nat->Prop}{st:iZ} (h:KQ Sz w B st) (l:List UInt8) (hl:st.1.length+l.length<=vO){K:VK}
 (hK:∀v S' B',KQ S' w B' (QN l st)->cM B Sz S' B'->K v S'=true):(X most (n+2)).C bW [pt w 0,.string ⟨⟨l⟩⟩] Sz K=true:=
 DL (n:=n) h (by exact aEd) l hl hK
theorem XC{Sz:St}{w:Nat}{B:Nat->Prop}{st:iZ} (h:KQ Sz w B st) (K:VK):aN (pt w 2) Sz K=K (.int .i64 (.ofNat st.2)) Sz:=by
 obtain⟨a,b,h1,h2,h3⟩:=h.obj;exact cB h1 rfl K
theorem Hi{n:Nat}{Sz:St}{w:Nat}{B:Nat->Prop}{st:iZ} (h:KQ Sz w B st) (hm:most≠0) (x:List UInt8×Nat) (hl:st.1.length+x.1.length<=vO){K:VK}
 (hK:∀v S' B',KQ S' w B' (wr x st)->cM B Sz S' B'->K v S'=true):(X most (n+3)).C jV [pt w 0,.string ⟨⟨x.1⟩⟩,.int .i64 (.ofNat x.2)] Sz K=true:=by
 rw [aT (by rfl),An];unfold KR;rw [aH,aB,Nat.zero_add,XC h,rB,iX];by_cases he:st.2=0
 ·rw [if_pos (by simpa using he),aH,aB,Nat.zero_add]
  obtain⟨a,b,h1,h2,h3⟩:=h.obj;rw [fI h1 (by simp) rfl]
  have h':KQ (Sz.set w (.cells ((a::b::[.int .i64 (.ofNat st.2)]).set 2 (.int .i64 (.ofNat x.2))) 96 .exact)) w B (st.1,x.2):=by
   refine⟨h.inB,h.lt,a,b,aX,h2,?_⟩;rcases h3 with h3 | ⟨j,olds,g1,g2,g3,g4,g5⟩
   ·exact .inl h3
   ·exact .inr ⟨j,olds,g1,g2,g3,by rw [aJ g3];exact g4,g5⟩
  rw [CY _ (by rw [bP];exact hm)];unfold qG;rw [aH,aB];refine FF (n:=n) h' x.1 hl fun v S' B' hp f=>?_;refine hK _ S' B' ?_ ⟨f.n,fun i hi hb=>?_,f.sub⟩
  ·unfold wr;rw [if_pos he];exact hp
  ·rw [f.same i hi hb,aJ (show i≠w from fun e=>hb (e▸h.inB))]
 ·rw [if_neg (by simpa using he),CY _ (by rw [bP];exact hm)]
  unfold qG;rw [aH,aB];refine FF (n:=n) h x.1 hl fun v S' B' hp f=>hK _ S' B' ?_ f;unfold wr;rw [if_neg he];exact hp
theorem rN.ld{Sz:St}{C:Nat->Prop}{it:It}{b o:Nat}{d:D} (h:rN Sz C it b o d):∃v,Rd Sz C it v d/\∀K,aN (pt b o) Sz K=K v Sz:=by
 obtain⟨vs,e,ck,v,g1,_,g3,g4⟩:=h.row;exact⟨v,g4,fun K=>cB g1 g3 K⟩
theorem GQ{n:Nat}{Sz:St}{w:Nat}{B:Nat->Prop}{st:iZ}{b o z:Nat} (h:KQ Sz w B st) (hv:∀K,aN (pt b o) Sz K=K (.int .u64 (.ofNat z)) Sz) (hz:z<18446744073709551616) (hl:st.1.length+8<=vO){K:VK}
 (hK:∀v S' B',KQ S' w B' (QN (pH 8 z) st)->cM B Sz S' B'->K v S'=true):(X most (n+3)).C kF [pt w 0,pt b o] Sz K=true:=by
 rw [aT (by rfl),RD];unfold CZ;rw [aH,aB,aH,hv,aCQ [] z hz (by simp),List.nil_append];exact FF (n:=n) h _ (by rw [bK];exact hl) fun v S' B' hp f=>hK _ S' B' hp f
theorem aAM{n:Nat}{Sz:St}{w:Nat}{B:Nat->Prop}{st:iZ}{b o z:Nat} (h:KQ Sz w B st) (hv:∀K,aN (pt b o) Sz K=K (.int .u8 (.ofNat z)) Sz) (hz:z<256) (hl:st.1.length+1<=vO){K:VK}
 (hK:∀v S' B',KQ S' w B' (QN (pH 1 z) st)->cM B Sz S' B'->K v S'=true):(X most (n+3)).C tA [pt w 0,pt b o] Sz K=true:=by
 rw [aT (by rfl),WD];unfold HQ;rw [aH,aB,aH,hv,aEa [] z hz (by simp),List.nil_append];exact FF (n:=n) h _ (by rw [bK];exact hl) fun v S' B' hp f=>hK _ S' B' hp f
theorem GK (t:List UInt8):(kB t).1.length<=2050:=by
 unfold kB;by_cases h:2048<t.length
 ·rw [if_pos h];simp
 ·rw [if_neg h,List.length_append,bK];omega
theorem Lw (ns:List Nat):(ns.flatMap (pH 8)).length=8*ns.length:=by
 induction ns with
 | nil=>rfl
 | cons z ns ih=>rw [List.flatMap_cons,List.length_append,bK,ih,List.length_cons];omega
theorem NO (ns:List Nat):(kT ns).1.length<=8194:=by
 unfold kT;by_cases h:1024<ns.length
 ·rw [if_pos h];simp
 ·rw [if_neg h,List.length_append,bK,Lw];omega
theorem aAN{n:Nat}{Sz:St}{w:Nat}{B:Nat->Prop}{st:iZ}{b o:Nat}{t:List UInt8} (h:KQ Sz w B st) (hm:most≠0) (hc:rN Sz B .text b o (.s t)) (hl:st.1.length+2050<=vO){K:VK}
 (hK:∀v S' B',KQ S' w B' (wr (kB t) st)->cM B Sz S' B'->K v S'=true):(X most (n+4)).C tB [pt w 0,pt b o] Sz K=true:=by
 rw [aT (by rfl),WE];unfold HS;obtain⟨v,hv,hld⟩:=hc.ld;obtain⟨l,rfl,e,hlen⟩:=hv.uU;injection e with e;subst e;rw [aH,hld,aEb t hlen,fV,fH,fV,jL,fH];exact Hi (n:=n) h hm (kB t) (by have:=GK t;omega) fun v S' B' hp f=>hK _ S' B' hp f
theorem aAO{n:Nat}{Sz:St}{w:Nat}{B:Nat->Prop}{st:iZ}{b o:Nat}{ns:List Nat} (h:KQ Sz w B st) (hm:1024<most) (hc:rN Sz B .nums b o (.l (ns.map fun z:Nat=>[.n (z:Int)]))) (hl:st.1.length+8194<=vO){K:VK}
 (hK:∀v S' B',KQ S' w B' (wr (kT ns) st)->cM B Sz S' B'->K v S'=true):(X most (n+4)).C tC [pt w 0,pt b o] Sz K=true:=by
 rw [aT (by rfl),WF];unfold HT;obtain⟨v,hv,hld⟩:=hc.ld;have hv:Rd Sz B (.list [.num]) v (.l (ns.map fun z:Nat=>[.n (z:Int)])):=by cases hv with | nums h=>exact h
 rw [aH,hld];refine aEc (n:=n) hv hm fun S1z hx=>?_;rw [fV,fH,fV,jL,fH];have f1:=hx.fr B
 have h1:KQ S1z w B st:=by
  obtain⟨a,bf,g1,g2,g3⟩:=h.obj;refine⟨h.inB,fun i hi=>Nat.lt_of_lt_of_le (h.lt i hi) hx.n,a,bf,by rw [hx.same w (h.lt w h.inB)];exact g1,g2,?_⟩;rcases g3 with g3 | ⟨j,olds,k1,k2,k3,k4,k5⟩
  ·exact .inl g3
  ·exact .inr ⟨j,olds,k1,k2,k3,by rw [hx.same j (h.lt j k2)];exact k4,k5⟩
 exact Hi (n:=n) h1 (by omega) (kT ns) (by have:=NO ns;omega) fun v S' B' hp f=>hK _ S' B' hp (f1.trans f)
def XD (n:Nat):List UInt8×Nat:=if 1048576<n then([],40)else(pH 8 n,0)
def manyN (n:Nat):Nat:=if 1048576<n then 0 else n
theorem Si (l:List UInt8) (st:iZ):wr (l,0) st=QN l st:=by unfold wr QN;by_cases h:st.2=0<;>simp [h]
theorem aAP{n:Nat}{Sz:St}{w:Nat}{B:Nat->Prop}{st:iZ}{m:Nat} (h:KQ Sz w B st) (hm:most≠0) (hN:m<=140737488355328) (hl:st.1.length+8<=vO){K:VK}
 (hK:∀S' B',KQ S' w B' (wr (XD m) st)->cM B Sz S' B'->K (.int .i64 (.ofNat (manyN m))) S'=true):(X most (n+4)).C yU [pt w 0,.int .i64 (.ofNat m)] Sz K=true:=by
 rw [aT (by rfl),WG];unfold HU;rw [nJ,iX];unfold XD manyN at hK;by_cases hb:1048576<m
 ·rw [if_pos (by simpa using hb)]
  rw [if_pos hb,if_pos hb]at hK;exact Hi (n:=n) h hm ([],40) (by simp;omega) fun v S' B' hp f=>hK S' B' hp f
 ·rw [if_neg (by simpa using hb)]
  rw [if_neg hb,if_neg hb]at hK;rw [aH,aB,oP,wrap_u64 (by omega),aCQ [] m (by omega) (by simp),List.nil_append];exact FF (n:=n+1) h _ (by rw [bK];exact hl) fun v S' B' hp f=>hK S' B' (by rw [Si];exact hp) f
theorem Wf{n:Nat}{Sz:St}{w:Nat}{B:Nat->Prop}{st:iZ} (h:KQ Sz w B st) (K:VK):(X most (n+1)).C wU [pt w 0] Sz K=K (.int .i64 (.ofNat st.2)) Sz:=by
 rw [aT (by rfl),TF];unfold FG;rw [aH,aB,Nat.zero_add,XC h]
theorem Cw.new{Sz:St}{w:Nat}{B:Nat->Prop}{bs:List UInt8}{t:TypeId}{rest:List Value} (h:Cw Sz w B bs t rest) (o:fS):Cw (Sz.new o) w B bs t rest:=by
 obtain⟨a,bf,g1,g2,g3⟩:=h.obj;refine⟨h.inB,fun i hi=>Nat.lt_succ_of_lt (h.lt i hi),a,bf,by rw [aL (Nat.ne_of_lt (h.lt w h.inB))];exact g1,g2,?_⟩;rcases g3 with g3 | ⟨j,olds,k1,k2,k3,k4,k5⟩
 ·exact .inl g3
 ·exact .inr ⟨j,olds,k1,k2,k3,by rw [aL (Nat.ne_of_lt (h.lt j k2))];exact k4,k5⟩
theorem Cw.set{Sz:St}{w:Nat}{B:Nat->Prop}{bs:List UInt8}{t:TypeId}{rest:List Value} (h:Cw Sz w B bs t rest) (i:Nat) (hi:¬B i) (o:fS):Cw (Sz.set i o) w B bs t rest:=by
 obtain⟨a,bf,g1,g2,g3⟩:=h.obj;have hne:∀j,B j->j≠i:=fun j hj e=>hi (e▸hj);refine⟨h.inB,h.lt,a,bf,by rw [aJ (hne w h.inB)];exact g1,g2,?_⟩;rcases g3 with g3 | ⟨j,olds,k1,k2,k3,k4,k5⟩
 ·exact .inl g3
 ·exact .inr ⟨j,olds,k1,k2,k3,by rw [aJ (hne j k2)];exact k4,k5⟩
theorem cM.PO{B:Nat->Prop}{Sz S':St} (f:cM B Sz S' B){i:Nat} (hi:Sz.n<=i) (o:fS):cM B Sz (S'.set i o) B:=
 ⟨f.n,fun j hj hb=>by rw [aJ (show j≠i by omega)];exact f.same j hj hb,f.sub⟩
theorem aEe{n:Nat}{Sz:St}{w:Nat}{B:Nat->Prop}{st:iZ}{b o:Nat}{t:Bool} (h:KQ Sz w B st) (hc:rN Sz B .is b o (.b t)) (hl:st.1.length+8<=vO){K:VK}
 (hK:∀v S' B',KQ S' w B' (QN (pH 8 (if t then 1 else 0)) st)->cM B Sz S' B'->K v S'=true):(X most (n+4)).C xH [pt w 0,pt b o] Sz K=true:=by
 rw [aT (by rfl),Ca];unfold MU;rw [eB,fI aF (by simp) rfl,aH];have hnB:¬B Sz.n:=fun hb=>Nat.lt_irrefl _ (h.lt _ hb);have f1:cM B Sz ((Sz.new (.cells [.int .u64 (.ofNat 0)] 57 .exact)).set Sz.n (.cells [.int .u64 (.ofNat 0)] 57 .exact)) B:=(cM.new B Sz _).PO (Nat.le_refl _) _;have h1:KQ ((Sz.new (.cells [.int .u64 (.ofNat 0)] 57 .exact)).set Sz.n (.cells [.int .u64 (.ofNat 0)] 57 .exact)) w B st:=(h.new _).set _ hnB _;obtain⟨v,hv,hld⟩:=(hc.fr f1).ld;obtain⟨t',rfl,e⟩:=hv.NH;injection e with e;subst e;have aAQ:=hld;rw [show([Value.int .u64 (.ofNat 0)].set 0 (.int .u64 (.ofNat 0)))=[.int .u64 (.ofNat 0)]from rfl];rw [aAQ];cases t with
 | true=>
  rw [bS,fI aX (by simp) rfl];refine GQ (n:=n) (z:=1) (h1.set _ hnB _) (fun K=>cB aX rfl K) (by omega) hl fun v S' B' hp f=>hK _ S' B' hp ?_;exact(f1.PO (Nat.le_refl _) _).trans f
 | false=>
  rw [cA];refine GQ (n:=n) (z:=0) h1 (fun K=>cB aX rfl K) (by omega) hl fun v S' B' hp f=>hK _ S' B' hp (f1.trans f)
variable{most:Nat}
def u64 (z:Int):Nat:=(z%18446744073709551616).toNat
def numOf:List D->Nat
 | [.n z]=>z.toNat
 | _=>0
mutual
def enc:It->D->iZ->iZ
 | .num,.n z,st=>QN (pH 8 z.toNat) st
 | .kind,.n z,st=>QN (pH 1 z.toNat) st
 | .int,.n z,st=>QN (pH 8 (u64 z)) st
 | .is,.b t,st=>QN (pH 8 (if t then 1 else 0)) st
 | .text,.s t,st=>wr (kB t) st
 | .nums,.l es,st=>wr (kT (es.map numOf)) st
 | .list its,.l es,st=>if 1048576<es.length then wr ([],40) st else es.foldl (fun st ds=>if st.2=0 then encs its ds st else st) (QN (pH 8 es.length) st)
 | _,_,st=>st
def encs:List It->List D->iZ->iZ
 | it::its,d::ds,st=>encs its ds (enc it d st)
 | _,_,st=>st
end
mutual
def cost:It->D->Nat
 | .num,_=>8
 | .kind,_=>1
 | .int,_=>8
 | .is,_=>8
 | .text,_=>2050
 | .nums,_=>8194
 | .list its,.l es=>es.foldl (fun c ds=>c+costs its ds) 8
 | .list _,_=>8
def costs:List It->List D->Nat
 | it::its,d::ds=>cost it d+costs its ds
 | _,_=>0
end
theorem mN{α:Type} (f:α->Nat):∀(l:List α) (c:Nat),l.foldl (fun c x=>c+f x) c=c+l.foldl (fun c x=>c+f x) 0:=by
 intro l;induction l with
 | nil=>intro c;rfl
 | cons x l ih=>intro c;rw [List.foldl_cons,List.foldl_cons,ih,ih (0+f x)];omega
mutual
theorem Hj:∀(it:It) (d:D) (st:iZ),(enc it d st).1.length<=st.1.length+cost it d
 | .num,d,st=>by cases d<;>simp [enc,QN,cost,bK]
 | .kind,d,st=>by cases d<;>simp [enc,QN,cost,bK]
 | .int,d,st=>by cases d<;>simp [enc,QN,cost,bK]
 | .is,d,st=>by cases d<;>simp [enc,QN,cost,bK]
 | .text,d,st=>by cases d<;>simp [enc,wr,cost,GK]
 | .nums,d,st=>by cases d<;>simp [enc,wr,cost,NO]
 | .list its,.n _,st=>by simp [enc]
 | .list its,.b _,st=>by simp [enc]
 | .list its,.s _,st=>by simp [enc]
 | .list its,.l es,st=>by
  simp only [enc,cost];split
  ·simp [wr]
  ·have key:∀(es:List (List D)) (st:iZ) (c:Nat),(es.foldl (fun st ds=>if st.2=0 then encs its ds st else st) st).1.length+c<=st.1.length+es.foldl (fun c ds=>c+costs its ds) c:=by
    intro es;induction es with
    | nil=>intro st c;exact Nat.le_refl _
    | cons ds es ih=>
     intro st c;rw [List.foldl_cons,List.foldl_cons];have h1:=ih (if st.2=0 then encs its ds st else st) (c+costs its ds)
     have h2:(if st.2=0 then encs its ds st else st).1.length<=st.1.length+costs its ds:=by
      split
      ·exact KT its ds st
      ·omega
     omega
   have:=key es (QN (pH 8 es.length) st) 8;simp only [QN,List.length_append,bK]at this ⊢;omega
theorem KT:∀(its:List It) (ds:List D) (st:iZ),(encs its ds st).1.length<=st.1.length+costs its ds
 | [],_,st=>by simp [encs]
 | _::_,[],st=>by simp [encs]
 | it::its,d::ds,st=>by
  simp only [encs,costs];have h1:=Hj it d st;have h2:=KT its ds (enc it d st);omega
end
theorem aAn (z:Int):u64 z<18446744073709551616:=by unfold u64;omega
theorem QP (z:Int):xL .u64 z= .ofNat (u64 z):=by
 rw [uO,IntKind.wrap_u64];unfold u64;show _=(((z%18446744073709551616).toNat:Nat):Int);omega
theorem Wg{z:Int} (h1: -9223372036854775808<=z) (h2:z<9223372036854775808):xL .i64 (.ofNat (u64 z))=z:=by
 rw [uO,IntKind.wrap_i64];unfold u64;show((((z%18446744073709551616).toNat:Nat):Int)+9223372036854775808)%18446744073709551616-9223372036854775808=z;omega
theorem Cw.same{Sz S':St}{w:Nat}{B:Nat->Prop}{bs:List UInt8}{t:TypeId}{rest:List Value} (h:Cw Sz w B bs t rest) (hn:S'.n=Sz.n) (ho:∀j,S'.obj j=Sz.obj j):Cw S' w B bs t rest:=by
 obtain⟨a,bf,g1,g2,g3⟩:=h.obj;refine⟨h.inB,fun i hi=>by rw [hn];exact h.lt i hi,a,bf,by rw [ho];exact g1,g2,?_⟩;rcases g3 with g3 | ⟨j,olds,k1,k2,k3,k4,k5⟩
 ·exact .inl g3
 ·exact .inr ⟨j,olds,k1,k2,k3,by rw [ho];exact k4,k5⟩
theorem rN.st{Sz:St}{C:Nat->Prop}{b o:Nat}{z:Int} (h:rN Sz C .int b o (.n z)):∃S',S'.n=Sz.n/\(∀j,S'.obj j=Sz.obj j)/\∀k:St->Bool,cQ 1 (pt b o) (.int .i64 z) Sz k=k S':=by
 obtain⟨vs,e,ck,v,g1,g2,g3,g4⟩:=h.row;obtain⟨z',rfl,e',_⟩:=g4.rA;injection e' with e';subst e';rcases g2 with rfl | rfl | ⟨olds,rfl⟩
 ·exact⟨Sz,rfl,fun _=>rfl,fun k=>aDl g1 g3 k⟩
 ·have hlt:=(List.getElem?_eq_some_iff.1 g3).1
  have hset:vs.set o (.int .i64 z)=vs:=by
   apply List.ext_getElem?;intro j;rw [List.getElem?_set];split
   ·rename_i hj;subst hj;rw [g3]
   ·rfl
  refine⟨Sz.set b (.cells vs e .exact),rfl,fun j=>?_,fun k=>by rw [fI g1 hlt rfl,hset]⟩;rw [wZ];split
  ·rename_i hj;subst hj;exact g1.symm
  ·rfl
 ·exact⟨Sz,rfl,fun _=>rfl,fun k=>aDm g1 g3 k⟩
theorem yL:lT PP 90 "consistory/save.number" =some kF:=by kernel_rfl
theorem LL:lT PP 90 "consistory/save.kind" =some tA:=by kernel_rfl
theorem jF:lT PP 90 "consistory/save.text" =some tB:=by kernel_rfl
theorem nZ:lT PP 90 "consistory/save.nums" =some tC:=by kernel_rfl
theorem Ds:lT PP 90 "consistory/save.many" =some yU:=by kernel_rfl
theorem xI:lT PP 90 "consistory/save.is" =some xH:=by kernel_rfl
theorem Pt:lT PP 90 "consistory/save.wrong" =some wU:=by kernel_rfl
def encI (ds:List D) (st:iZ):iZ:=ds.foldl (fun st d=>enc .int d st) st
theorem Pu{n:Nat}{ps:List (Nat×Nat)}{ds:List D}{sb w:Nat} (hl:ps.length=ds.length):
 ∀(r i m:Nat) (Sz:St) (B:Nat->Prop) (st:iZ) (K:VK),i+r=ds.length->r<m->KQ Sz w B st->st.1.length+8*r<=vO->sb<Sz.n->¬B sb->Sz.obj sb=some (.cells (ps.map fun p=>pt p.1 p.2) 146 .exact)->ds.length<1000000->
  (∀(k:Nat) (p:Nat×Nat) (d:D),ps[k]? =some p->ds[k]? =some d->rN Sz B .int p.1 p.2 d)->
  (∀v S' B',KQ S' w B' (encI (ds.drop i) st)->cM B Sz S' B'->K v S'=true)->
  pK (X most (n+3)) m (hand w) (.slice (some ⟨sb,0,none⟩) ds.length ds.length) (.int .i64 (.ofNat ds.length)) (.int .i64 (.ofNat i)) Sz K=true:=by
 intro r;induction r with
 | zero=>
  intro i m Sz B st K hi hm hp _ _ _ _ _ _ hK;obtain⟨m,rfl⟩:=Nat.exists_eq_succ_of_ne_zero (show m≠0 by omega);rw [rD];unfold nM;rw [aG,iX,if_neg (by simp;omega)];refine hK _ Sz B ?_ (.refl B Sz);rw [List.drop_of_length_le (by omega)];exact hp
 | succ r ih=>
  intro i m Sz B st K hi hm hp hb hsn hsB hso hbig hc hK;obtain⟨m,rfl⟩:=Nat.exists_eq_succ_of_ne_zero (show m≠0 by omega);rw [rD];unfold nM;have hlt:i<ds.length:=by omega
  rw [aG,iX,if_pos (by simp;omega),Fd 1 sb 0 i _ _ hlt];have hp1:ps[i]? =some (ps[i]'(by omega)):=List.getElem?_eq_getElem _;have hd1:ds[i]? =some ds[i]:=List.getElem?_eq_getElem _;rw [cB hso (v:=pt (ps[i]'(by omega)).1 (ps[i]'(by omega)).2) (by simp [hp1]),aH];have hcell:=hc i _ _ hp1 hd1;obtain⟨v,hv,hld⟩:=hcell.ld;obtain⟨z,rfl,ez,z1,z2⟩:=hv.rA;rw [hld,oP,QP,eB,fI aF (by simp) rfl,cX yL];have hnB:¬B Sz.n:=fun hb=>Nat.lt_irrefl _ (hp.lt _ hb);have f1:cM B Sz ((Sz.new (.cells [.int .u64 (.ofNat 0)] 57 .exact)).set Sz.n (.cells [.int .u64 (.ofNat (u64 z))] 57 .exact)) B:=(cM.new B Sz _).PO (Nat.le_refl _) _;have h1:KQ ((Sz.new (.cells [.int .u64 (.ofNat 0)] 57 .exact)).set Sz.n (.cells [.int .u64 (.ofNat (u64 z))] 57 .exact)) w B st:=(hp.new _).set _ hnB _;refine GQ (n:=n) (z:=u64 z) h1 (fun K=>cB aX rfl K) (aAn z) (by omega) fun v S1z B1 hp1' f2=>?_;have f:=f1.trans f2
  have ho1:S1z.obj Sz.n=some (.cells [.int .u64 (.ofNat (u64 z))] 57 .exact):=by
   rw [f2.same Sz.n (by rw [gG,kM];omega) hnB,aX]
  rw [cB ho1 rfl,oP,Wg z1 z2,aH];rw [ez]at hcell hd1;obtain⟨S2z,e1,e2,e3⟩:=(hcell.fr f).st;rw [e3,aP _ _ _ _ (by omega)];have f3:cM B1 S1z S2z B1:=⟨by omega,fun j _ _=>e2 j,fun _ h=> .inl h⟩;have ff:=f.trans f3
  have aHh:¬B1 sb:=fun h=>by
   rcases f.sub _ h with h | h
   ·exact hsB h
   ·omega
  refine ih (i+1) m S2z B1 (QN (pH 8 (u64 z)) st) K (by omega) (by omega) (hp1'.same e1 e2) (by show(st.1++pH 8 (u64 z)).length+_<=_;rw [List.length_append,bK];omega) (by have:=ff.n;omega) aHh (by rw [ff.same sb hsn hsB];exact hso) hbig (fun k p d a b=>(hc k p d a b).fr ff) fun v S' B' hp' f'=>?_;refine hK _ S' B' ?_ (ff.trans f');rw [List.drop_eq_getElem_cons hlt];have e4:ds[i]= .n z:=by rw [List.getElem?_eq_getElem hlt]at hd1;injection hd1
  rw [e4];exact hp'
theorem aCB{n:Nat}{ps:List (Nat×Nat)}{ds:List D}{sb w:Nat}{Sz:St}{B:Nat->Prop}{st:iZ}{k:Nat} (hk:k=ds.length) (hl:ps.length=ds.length) (hm:ds.length<most) (hp:KQ Sz w B st) (hb:st.1.length+8*ds.length<=vO) (hsn:sb<Sz.n) (hsB:¬B sb)
 (hso:Sz.obj sb=some (.cells (ps.map fun p=>pt p.1 p.2) 146 .exact)) (hbig:ds.length<1000000) (hc:∀(k:Nat) (p:Nat×Nat) (d:D),ps[k]? =some p->ds[k]? =some d->rN Sz B .int p.1 p.2 d) {K:VK}
 (hK:∀v S' B',KQ S' w B' (encI ds st)->cM B Sz S' B'->K v S'=true):(X most (n+4)).C eF [hand w,.slice (some ⟨sb,0,none⟩) k k] Sz K=true:=by
 subst hk;rw [aT (by rfl),PQ];unfold GD;rw [zU,bP];exact Pu (n:=n) hl ds.length 0 most Sz B st K (by omega) hm hp hb hsn hsB hso hbig hc (by rw [List.drop_zero];exact hK)
variable{most:Nat}
structure G (Sz:St) (w:Nat) (B:Nat->Prop) (st:iZ) (b o:Nat) (all:List It) (ds:List D) (j:Nat) (its:List It) (K:VK):Prop where
 pen:KQ Sz w B st
 Hl:qO Sz B all b o ds
 lim:st.1.length+costs its (ds.drop j)<=vO
 hK:∀v S' B',KQ S' w B' (encs its (ds.drop j) st)->cM B Sz S' B'->K v S'=true
theorem G.next{Sz S':St}{w:Nat}{B B':Nat->Prop}{st:iZ}{b o:Nat}{all:List It}{ds:List D}{j:Nat}{it:It}{its:List It}{K:VK}{d:D}
 (g:G Sz w B st b o all ds j (it::its) K) (hd:ds[j]? =some d) (hp:KQ S' w B' (enc it d st)) (f:cM B Sz S' B'):G S' w B' (enc it d st) b o all ds (j+1) its K:=by
 have hlt:=(List.getElem?_eq_some_iff.1 hd).1
 have e:ds.drop j=d::ds.drop (j+1):=by
  rw [List.drop_eq_getElem_cons hlt];congr 1;exact(List.getElem?_eq_some_iff.1 hd).2
 refine⟨hp,g.Hl.fr f,?_,fun v S2z B2 hp2 f2=>g.hK v S2z B2 ?_ (f.trans f2)⟩
 ·have h1:=g.lim
  rw [e]at h1;have h2:=Hj it d st;simp only [costs]at h1;omega
 ·rw [e];exact hp2
theorem G.cost{Sz:St}{w:Nat}{B:Nat->Prop}{st:iZ}{b o:Nat}{all:List It}{ds:List D}{j:Nat}{it:It}{its:List It}{K:VK}{d:D}
 (g:G Sz w B st b o all ds j (it::its) K) (hd:ds[j]? =some d):st.1.length+cost it d<=vO:=by
 have hlt:=(List.getElem?_eq_some_iff.1 hd).1
 have e:ds.drop j=d::ds.drop (j+1):=by
  rw [List.drop_eq_getElem_cons hlt];congr 1;exact(List.getElem?_eq_some_iff.1 hd).2
 have h1:=g.lim;rw [e]at h1;simp only [costs]at h1;omega
section
variable{n:Nat}{Sz:St}{w:Nat}{B:Nat->Prop}{st:iZ}{b o:Nat}{all:List It}{ds:List D}{j:Nat}{its:List It}{K K0:VK}
theorem G.fin (g:G Sz w B st b o all ds j [] K) (v:Value):K v Sz=true:=g.hK v Sz B (by simpa [encs]using g.pen) (.refl B Sz)
theorem VA (_hm:1024<most) (g:G Sz w B st b o all ds j (.num::its) K) (hj:all[j]? =some .num) (next:∀v S' B' st',G S' w B' st' b o all ds (j+1) its K->K0 v S'=true):
 (X most (n+4)).C kF [pt w 0,pt b (o+j)] Sz K0=true:=by
 obtain⟨d,hd,hc⟩:=g.Hl.cell j hj;obtain⟨v,hv,hld⟩:=hc.ld;obtain⟨z,rfl,rfl,hz⟩:=hv.num_inv;exact GQ (n:=n+1) g.pen hld hz (g.cost hd) fun v S' B' hp f=>next v S' B' _ (g.next hd hp f)
theorem Dt (_hm:1024<most) (g:G Sz w B st b o all ds j (.kind::its) K) (hj:all[j]? =some .kind) (next:∀v S' B' st',G S' w B' st' b o all ds (j+1) its K->K0 v S'=true):
 (X most (n+4)).C tA [pt w 0,pt b (o+j)] Sz K0=true:=by
 obtain⟨d,hd,hc⟩:=g.Hl.cell j hj;obtain⟨v,hv,hld⟩:=hc.ld;obtain⟨z,rfl,rfl,hz⟩:=hv.DX;exact aAM (n:=n+1) g.pen hld hz (g.cost hd) fun v S' B' hp f=>next v S' B' _ (g.next hd hp f)
theorem uD (hm:1024<most) (g:G Sz w B st b o all ds j (.text::its) K) (hj:all[j]? =some .text) (next:∀v S' B' st',G S' w B' st' b o all ds (j+1) its K->K0 v S'=true):
 (X most (n+4)).C tB [pt w 0,pt b (o+j)] Sz K0=true:=by
 obtain⟨d,hd,hc⟩:=g.Hl.cell j hj;obtain⟨v,hv,hld⟩:=hc.ld;obtain⟨l,rfl,rfl,_⟩:=hv.uU;exact aAN (n:=n) g.pen (by omega) hc (g.cost hd) fun v S' B' hp f=>next v S' B' _ (g.next hd hp f)
theorem AK (hm:1024<most) (g:G Sz w B st b o all ds j (.nums::its) K) (hj:all[j]? =some .nums) (next:∀v S' B' st',G S' w B' st' b o all ds (j+1) its K->K0 v S'=true):
 (X most (n+4)).C tC [pt w 0,pt b (o+j)] Sz K0=true:=by
 obtain⟨d,hd,hc⟩:=g.Hl.cell j hj;obtain⟨v,hv,hld⟩:=hc.ld;have hv':∃es,d= .l es/\Rd Sz B (.list [.num]) v (.l es):=by cases hv with | nums h=>exact⟨_,rfl,h⟩
 obtain⟨es,rfl,hr⟩:=hv';obtain⟨ns,rfl⟩:=Dl hr
 have e:(ns.map fun z:Nat=>[D.n (z:Int)]).map numOf=ns:=by
  rw [List.map_map];have:(numOf∘fun z:Nat=>[D.n (z:Int)])=id:=by funext z;rfl
  rw [this,List.map_id]
 refine aAO (n:=n) g.pen hm hc (g.cost hd) fun v S' B' hp f=>next v S' B' _ (g.next hd ?_ f);simpa [enc,e]using hp
theorem RE (_hm:1024<most) (g:G Sz w B st b o all ds j (.is::its) K) (hj:all[j]? =some .is) (next:∀v S' B' st',G S' w B' st' b o all ds (j+1) its K->K0 v S'=true):
 (X most (n+4)).C xH [pt w 0,pt b (o+j)] Sz K0=true:=by
 obtain⟨d,hd,hc⟩:=g.Hl.cell j hj;obtain⟨v,hv,hld⟩:=hc.ld;obtain⟨t,rfl,rfl⟩:=hv.NH;exact aEe (n:=n) g.pen hc (g.cost hd) fun v S' B' hp f=>next v S' B' _ (g.next hd hp f)
theorem aAR:∀(el:List D) (st:iZ),(encI el st).1.length<=st.1.length+8*el.length:=by
 intro el;induction el with
 | nil=>intro st;simp [encI]
 | cons d el ih=>
  intro st;have h1:=ih (enc .int d st);have h2:=Hj .int d st;simp only [cost]at h2;show(encI el (enc .int d st)).1.length<=_;rw [List.length_cons];omega
theorem lH (hm:1024<most) (k:Nat) (hk:k<=100) (g:G Sz w B st b o all ds j (List.replicate k .int++its) K) (hj:∀i,i<k->all[j+i]? =some .int) (next:∀v S' B' st',G S' w B' st' b o all ds (j+k) its K->K0 v S'=true):
 (X most (n+4)).C eF [hand w,.slice (some ⟨Sz.n,0,none⟩) k k] (Sz.new (.cells ((List.range k).map fun i=>pt b (o+(j+i))) 146 .exact)) K0=true:=by
 have hall:∀i,i<k->∃d,ds[j+i]? =some d/\rN Sz B .int b (o+(j+i)) d:=fun i hi=>g.Hl.cell (j+i) (hj i hi)
 have hdl:j+k<=ds.length\/k=0:=by
  rcases Nat.eq_zero_or_pos k with h | h
  ·exact .inr h
  ·obtain⟨d,hd,_⟩:=hall (k-1) (by omega)
   have:=(List.getElem?_eq_some_iff.1 hd).1;exact .inl (by omega)
 let el:=(ds.drop j).take k
 have hel:el.length=k:=by
  show((ds.drop j).take k).length=k;rw [List.length_take,List.length_drop];omega
 have aFE:∀i,i<k->el[i]? =ds[j+i]? :=fun i hi=>by
  show((ds.drop j).take k)[i]? =_;rw [List.getElem?_take,if_pos hi,List.getElem?_drop]
 have hnB:¬B Sz.n:=fun hb=>Nat.lt_irrefl _ (g.pen.lt _ hb);have f1:cM B Sz (Sz.new (.cells ((List.range k).map fun i=>pt b (o+(j+i))) 146 .exact)) B:= .new B Sz _
 have hrest:∀(i:Nat),i<=k->∀(st:iZ),encs (List.replicate (k-i) .int++its) (ds.drop (j+i)) st=encs its (ds.drop (j+k)) (encI (el.drop i) st)/\costs (List.replicate (k-i) .int++its) (ds.drop (j+i))=8*(k-i)+costs its (ds.drop (j+k)):=by
  intro i hi;generalize hr:k-i=r;induction r generalizing i with
  | zero=>
   intro st;have:i=k:=by omega
   subst this;have e0:el.drop i=[]:=List.drop_of_length_le (by omega);rw [e0];exact⟨rfl,by simp⟩
  | succ r ih=>
   intro st;obtain⟨d,hd,_⟩:=hall i (by omega);have hlt:=(List.getElem?_eq_some_iff.1 hd).1
   have e:ds.drop (j+i)=d::ds.drop (j+(i+1)):=by
    rw [List.drop_eq_getElem_cons hlt];congr 1;exact(List.getElem?_eq_some_iff.1 hd).2
   have e2:el.drop i=d::el.drop (i+1):=by
    have:el[i]? =some d:=by rw [aFE i (by omega)];exact hd
    have hl2:=(List.getElem?_eq_some_iff.1 this).1;rw [List.drop_eq_getElem_cons hl2];congr 1;exact(List.getElem?_eq_some_iff.1 this).2
   obtain⟨i1,i2⟩:=ih (i+1) (by omega) (by omega) (enc .int d st);rw [e,e2];refine⟨i1,?_⟩;show cost .int d+costs (List.replicate r .int++its) (ds.drop (j+(i+1)))=_;rw [i2];show 8+_=_;omega
 obtain⟨q1,q2⟩:=hrest 0 (by omega) st;simp only [Nat.sub_zero,Nat.add_zero,List.drop_zero]at q1 q2;have hlim:=g.lim;rw [q2]at hlim;refine aCB (n:=n) (ps:=(List.range k).map fun i=>(b,o+(j+i))) (ds:=el) (sb:=Sz.n) hel.symm (by simp [hel]) (by omega) (g.pen.new _) (by rw [hel];omega) (by rw [kM];omega) hnB (by rw [aF,List.map_map];rfl) (by omega) (fun i p d hp hd=>?_) fun v S' B' hp f=>?_
 ·have hi:i<k:=by have:=(List.getElem?_eq_some_iff.1 hd).1;omega
  rw [List.getElem?_map,List.getElem?_range hi]at hp;injection hp with hp;subst hp;obtain⟨d',hd',hc⟩:=hall i hi;rw [aFE i hi,hd']at hd;injection hd with hd;subst hd;exact hc.fr f1
 ·refine next v S' B' _ ⟨hp,g.Hl.fr (f1.trans f),?_,fun v2 S2z B2 hp2 f2=>g.hK v2 S2z B2 (by rw [q1];exact hp2) ((f1.trans f).trans f2)⟩
  have aHi:(encI el st).1.length<=st.1.length+8*el.length:=aAR el st;rw [hel]at aHi;omega
def qH (most:Nat) (c:FuncId) (its:List It) (d:Nat):Prop:=∀(n:Nat) {Sz:St} {w:Nat} {B:Nat->Prop} {st:iZ} {b o:Nat} {ds:List D} {K:VK},G Sz w B st b o its ds 0 its K->(X most (n+d)).C c [hand w,pt b o] Sz K=true
def BP (most:Nat) (c one:FuncId) (its:List It) (d:Nat):Prop:=∀(n:Nat) {Sz:St} {w:Nat} {B:Nat->Prop} {st:iZ} {b o:Nat} {es:List (List D)} {K:VK},KQ Sz w B st->rN Sz B (.list its) b o (.l es)->st.1.length+cost (.list its) (.l es)<=vO->
 (∀v S' B',KQ S' w B' (enc (.list its) (.l es) st)->cM B Sz S' B'->K v S'=true)->(X most (n+d)).C c [hand w,pt b o,.func (.func one) #[] #[]] Sz K=true
theorem kG{c one:FuncId}{d:Nat}{dJ:List It} (he:BP most c one dJ d) (g:G Sz w B st b o all ds j (.list dJ::its) K) (hj:all[j]? =some (.list dJ)) (next:∀v S' B' st',G S' w B' st' b o all ds (j+1) its K->K0 v S'=true):
 (X most (n+d)).C c [hand w,pt b (o+j),.func (.func one) #[] #[]] Sz K0=true:=by
 obtain⟨dd,hd,hc⟩:=g.Hl.cell j hj;obtain⟨v,hv,hld⟩:=hc.ld;obtain⟨es,rfl⟩:=hv.iW;exact he n g.pen hc (g.cost hd) fun v S' B' hp f=>next v S' B' _ (g.next hd hp f)
theorem Lx:∀(a b:List It) (ds:List D) (st:iZ),a.length<=ds.length->encs (a++b) ds st=encs b (ds.drop a.length) (encs a (ds.take a.length) st)/\costs (a++b) ds=costs a (ds.take a.length)+costs b (ds.drop a.length):=by
 intro a;induction a with
 | nil=>intro b ds st _;simp [encs,costs]
 | cons x a ih=>
  intro b ds st h;cases ds with
  | nil=>simp at h
  | cons d ds=>
   obtain⟨i1,i2⟩:=ih b ds (enc x d st) (by simpa using h);refine⟨by simpa [encs]using i1,?_⟩;simp only [List.cons_append,costs,List.length_cons,List.take_succ_cons,List.drop_succ_cons,i2];omega
theorem Ly{c:FuncId}{d:Nat}{dJ:List It} (hf:qH most c dJ d) (g:G Sz w B st b o all ds j (dJ++its) K) (hj:(all.drop j).take dJ.length=dJ) (hle:j+dJ.length<=all.length) (next:∀v S' B' st',G S' w B' st' b o all ds (j+dJ.length) its K->K0 v S'=true):
 (X most (n+d)).C c [hand w,pt b (o+j)] Sz K0=true:=by
 have hlen:=g.Hl.len;obtain⟨q1,q2⟩:=Lx dJ its (ds.drop j) st (by rw [List.length_drop];omega);rw [List.drop_drop]at q1 q2;have hlim:=g.lim;rw [q2]at hlim;have hpart:=g.Hl.part j dJ.length hle;rw [hj]at hpart;refine hf n ⟨g.pen,hpart,?_,fun v S' B' hp f=>?_⟩
 ·rw [List.drop_zero];omega
 ·rw [List.drop_zero]at hp
  refine next v S' B' _ ⟨hp,g.Hl.fr f,?_,fun v2 S2z B2 hp2 f2=>g.hK v2 S2z B2 (by rw [q1];exact hp2) (f.trans f2)⟩;have:=KT dJ ((ds.drop j).take dJ.length) st;omega
end
theorem Ke (call:TK) (round:Nat->List Value->St->VK->Bool) (g:FuncId) (a:List Value) (Sz:St) (K:VK):Fl call round (.func (.func g) #[] #[]) a Sz K=call g a Sz K:=Yk call round g a Sz K
theorem fX (a b:Bool):cR true a b=a:=rfl
theorem aQ{v:Value} (h:gF v v=true) (k:Bool):aU v v k=k:=by unfold aU;rw [h]
def partsOf:List Value->Nat->List (Nat×Nat×Value)
 | [],_=>[]
 | v::vs,i=>(i,1,v)::partsOf vs (i+1)
theorem Lz (k:List Value->Bool):∀(vs:List Value) (pre:List Value) (z:Value),(∀v∈vs,oneCell v=true)->DZ (partsOf vs pre.length) (pre++List.replicate vs.length z) k=k (pre++vs):=by
 intro vs;induction vs with
 | nil=>intro pre z _;simp [partsOf,DZ,AQ]
 | cons v vs ih=>
  intro pre z h
  show iB v (fun new=>mJ new fun m=>match Nat.beq m 1 with
   | true=>iA pre.length new (pre++List.replicate (vs.length+1) z) fun cs=>DZ (partsOf vs (pre.length+1)) cs k
   | false=>false)=_
  rw [lW (h v (.head _)),cV];show iA pre.length [v] (pre++List.replicate (vs.length+1) z) _=_;rw [gS,if_pos (by simp)]
  have e:splice pre.length [v] (pre++List.replicate (vs.length+1) z)=(pre++[v])++List.replicate vs.length z:=by
   unfold splice;rw [List.replicate_succ];simp
  rw [e];have:=ih (pre++[v]) z fun u hu=>h u (.tail _ hu);rw [List.length_append]at this;rw [List.append_assoc,List.singleton_append]at this;have e2:pre++v::List.replicate vs.length z=pre++[v]++List.replicate vs.length z:=by simp
  rw [<-e2];simpa using this
theorem Ma (z:Value):∀(n:Nat) (acc:List Value) (k:List Value->Bool),(ID (β:=List Value->Bool) (fun acc=>k acc) (fun _ ih acc=>AL [z] acc ih) n) acc=k (List.replicate n z++acc):=by
 intro n;induction n with
 | zero=>intro acc k;rfl
 | succ n ih=>
  intro acc k;show AL [z] acc _=_;rw [mV];show(ID (β:=List Value->Bool) (fun acc=>k acc) (fun _ ih acc=>AL [z] acc ih) n) ([z]++acc)=_;rw [ih]
  congr 1
  rw [<-List.append_assoc,<-List.replicate_succ']
theorem gP (el:TypeId) (z:Value) (vs:List Value) (h:∀v∈vs,oneCell v=true) (Sz:St) (K:VK):aM el vs.length [z] (partsOf vs 0) Sz K=K (.slice (some ⟨Sz.n,0,none⟩) vs.length vs.length) (Sz.new (.cells vs el .exact)):=by
 unfold aM XF;rw [Ma];have:=Lz (fun cs=>qZ Sz (.cells cs el .exact) fun i Sz=>K (.slice (some ⟨i,0,none⟩) vs.length vs.length) Sz) vs [] z h;rw [List.append_nil];refine Eq.trans this ?_;rw [gE];rfl
variable{most:Nat}
noncomputable def PS (zs:List Value) (el sz bytes:Nat) (t1:Value) (j:St->Bool) (Sz:St):Bool:=
 cC zs el Sz fun v11 Sz=>bI PP t1 fun v12=>aN v12 Sz fun v13 Sz=>aR sz v11 Sz fun v14 Sz=>aR sz v11 Sz fun v15 Sz=>aU v15 v14 (aN v12 Sz fun v16 Sz=>aU v16 v13 (cR (aM el 1 zs [(0,sz,v14)] Sz fun _ _=>true)
  (aM el 1 zs [(0,sz,v14)] Sz fun v18 Sz=>kJ PP el sz bytes v13 v18 Sz fun v19 Sz=>bI PP t1 fun v20=>cQ 1 v20 v19 Sz j) false))
noncomputable def Rl (z:Value) (el bytes:Nat) (t1:Value) (j:St->Bool) (Sz:St):Bool:=
 bI PP t1 fun v11=>aN v11 Sz fun v12 Sz=>aM el 1 [z] [(0,1,z)] Sz fun v13 Sz=>kJ PP el 1 bytes v12 v13 Sz fun v14 Sz=>bI PP t1 fun v15=>cQ 1 v15 v14 Sz j
structure EI (c:FuncId) (sz:Nat) (G:Value->(St->Bool)->St->Bool)where
 L:EV->Nat->Value->Value->Value->Value->Value->St->VK->Bool
 J:EV->Nat->Value->Value->Value->Value->Value->St->VK->Bool
 R:∀(x:EV) (a0 a1 a2:Value) (Sz:St) (K:VK),hZ PP dD c (x.E PP) [a0,a1,a2] Sz K=bI PP a1 fun v0=>aN v0 Sz fun v1 Sz=>bO v1 fun v2=>bI PP (.func (.method "consistory/save.many") ⟨[a0]⟩ ⟨[]⟩) fun _=>
  vN PP x.C a0 "consistory/save.many" [v2] Sz fun v4 Sz=>aN v0 Sz fun v5 Sz=>aU v5 v1 (L x x.most a0 a1 a2 v4 zI Sz K)
 LE:∀(x:EV) (m:Nat) (t0 t1 t2 t6 t7:Value) (Sz:St) (K:VK),L x (m+1) t0 t1 t2 t6 t7 Sz K=aK PP .lss 3 t7 t6 fun v0=>shut x.most (aA true v0 (fun k=>k t0 Sz) Sz fun v1 Sz=>
  shut x.most (aA true v0 (fun k=>vN PP x.C v1 "consistory/save.wrong" [] Sz fun v2 Sz=>k v2 Sz) Sz fun v3 Sz=>shut x.most (aA true v0 (fun k=>aK PP .eql 37 v3 zI fun v4=>k v4 Sz) Sz fun v5 Sz=>
  shut x.most (bY v0 v5 zF fun v6=>gD v6 (bI PP t1 fun v7=>aN v7 Sz fun v8 Sz=>bO v8 fun v9=>aK PP .eql 3 t7 v9 fun v10=>gD v10 (G t1 (fun Sz=>J x m t0 t1 t2 t6 t7 Sz K) Sz) (J x m t0 t1 t2 t6 t7 Sz K)) (K (.tuple ⟨[]⟩) Sz)))))
 JE:∀(x:EV),x.most≠0->∀(m:Nat) (t0 t1 t2 t6 t7:Value) (Sz:St) (K:VK),J x m t0 t1 t2 t6 t7 Sz K=bI PP t1 fun v0=>aN v0 Sz fun v1 Sz=>dC sz v1 t7 fun v2=>Fl x.C x.R t2 [t0,v2] Sz fun _ Sz=>
  aK PP .add 3 t7 (.int .i64 (.ofNat 1)) fun v4=>L x m t0 t1 t2 t6 v4 Sz K
 ov:Kg c=none
noncomputable def Dg:EI fM 1 (Rl zS 9 16):=⟨GR,AH,fun x a0 a1 a2 Sz K=>by kernel_rfl,fun x m t0 t1 t2 t6 t7 Sz K=>by kernel_rfl,
 fun x hm m t0 t1 t2 t6 t7 Sz K=>(uV fM (x.E PP) [.r,.r,.d,.d,.r,.l,.d,.r] [m] [t0,t1,t2,t6,t7] Sz K hm).trans (by kernel_rfl),by rfl⟩
noncomputable def JO:EI eK 1 (Rl zL 60 24):=⟨AI,vM,fun x a0 a1 a2 Sz K=>by kernel_rfl,fun x m t0 t1 t2 t6 t7 Sz K=>by kernel_rfl,
 fun x hm m t0 t1 t2 t6 t7 Sz K=>(uV eK (x.E PP) [.r,.r,.d,.d,.r,.l,.d,.r] [m] [t0,t1,t2,t6,t7] Sz K hm).trans (by kernel_rfl),by rfl⟩
noncomputable def UL:EI eP 2 (PS [(.int .u64 (.ofNat 0)),(.int .u64 (.ofNat 0))] 59 2 16):=⟨DN,yM,fun x a0 a1 a2 Sz K=>by kernel_rfl,fun x m t0 t1 t2 t6 t7 Sz K=>by kernel_rfl,
 fun x hm m t0 t1 t2 t6 t7 Sz K=>(uV eP (x.E PP) [.r,.r,.d,.d,.r,.l,.d,.r] [m] [t0,t1,t2,t6,t7] Sz K hm).trans (by kernel_rfl),by rfl⟩
noncomputable def ZF:EI eZ 11 (PS [(.int .u8 (.ofNat 0)),zI,zI,zI,zI,zI,zI,zI,zI,zS,zL] 62 11 112):=⟨FK,yV,fun x a0 a1 a2 Sz K=>by kernel_rfl,fun x m t0 t1 t2 t6 t7 Sz K=>by kernel_rfl,
 fun x hm m t0 t1 t2 t6 t7 Sz K=>(uV eZ (x.E PP) [.r,.r,.d,.d,.r,.l,.d,.r] [m] [t0,t1,t2,t6,t7] Sz K hm).trans (by kernel_rfl),by rfl⟩
noncomputable def MK:EI eT 5 (PS [zI,zI,(.int .u8 (.ofNat 0)),zI,zS] 71 5 48):=⟨BS,vT,fun x a0 a1 a2 Sz K=>by kernel_rfl,fun x m t0 t1 t2 t6 t7 Sz K=>by kernel_rfl,
 fun x hm m t0 t1 t2 t6 t7 Sz K=>(uV eT (x.E PP) [.r,.r,.d,.d,.r,.l,.d,.r] [m] [t0,t1,t2,t6,t7] Sz K hm).trans (by kernel_rfl),by rfl⟩
noncomputable def ML:EI eU 2 (PS [zI,zS] 73 2 24):=⟨BR,vS,fun x a0 a1 a2 Sz K=>by kernel_rfl,fun x m t0 t1 t2 t6 t7 Sz K=>by kernel_rfl,
 fun x hm m t0 t1 t2 t6 t7 Sz K=>(uV eU (x.E PP) [.r,.r,.d,.d,.r,.l,.d,.r] [m] [t0,t1,t2,t6,t7] Sz K hm).trans (by kernel_rfl),by rfl⟩
noncomputable def PV:EI eE 2 (PS [zI,zL] 142 2 32):=⟨BW,wW,fun x a0 a1 a2 Sz K=>by kernel_rfl,fun x m t0 t1 t2 t6 t7 Sz K=>by kernel_rfl,
 fun x hm m t0 t1 t2 t6 t7 Sz K=>(uV eE (x.E PP) [.r,.r,.d,.d,.r,.l,.d,.r] [m] [t0,t1,t2,t6,t7] Sz K hm).trans (by kernel_rfl),by rfl⟩
noncomputable def PW:EI fC 3 (PS [zI,zI,zL] 69 3 40):=⟨BV,wV,fun x a0 a1 a2 Sz K=>by kernel_rfl,fun x m t0 t1 t2 t6 t7 Sz K=>by kernel_rfl,
 fun x hm m t0 t1 t2 t6 t7 Sz K=>(uV fC (x.E PP) [.r,.r,.d,.d,.r,.l,.d,.r] [m] [t0,t1,t2,t6,t7] Sz K hm).trans (by kernel_rfl),by rfl⟩
noncomputable def MN:EI dQ 8 (PS [zI,zI,zL,zL,zL,zL,zL,zF] 125 8 144):=⟨BQ,vR,fun x a0 a1 a2 Sz K=>by kernel_rfl,fun x m t0 t1 t2 t6 t7 Sz K=>by kernel_rfl,
 fun x hm m t0 t1 t2 t6 t7 Sz K=>(uV dQ (x.E PP) [.r,.r,.d,.d,.r,.l,.d,.r] [m] [t0,t1,t2,t6,t7] Sz K hm).trans (by kernel_rfl),by rfl⟩
variable{most:Nat}
def bA:List It:=[.text]
def cO:List It:=[.nums]
def aY:List It:=[.num,.num]
def aV:List It:=[.kind,.int,.int,.int,.int,.int,.int,.int,.int,.text,.nums]
def aW:List It:=[.int,.int,.kind,.int,.text]
def bC:List It:=[.int,.text]
def bB:List It:=[.int,.nums]
def bE:List It:=[.int,.int,.nums]
def aD:List It:=[.int,.int,.list cO,.nums,.list bB,.list bB,.nums,.is]
def bQ:List It:=[.int,.int,.int,.int,.int,.int,.int,.text,.text,.int,.int,.is,.is,.text,.list aW]
def bZ:List It:=[.int,.text,.is,.int,.int,.int,.int,.int,.int,.int,.text,.text,.int,.int,.is,.is,.text,.list aW,.list bC,.list aV]
def bN:List It:=[.int,.list bA,.int,.text,.is,.int,.int,.int,.int,.int,.int,.int,.text,.text,.int,.int,.is,.is,.text,.list aW,.list bC,.list aV,.list bA,.list aY,.list aY,.is,.list aD,.list bE,.list aV,.list aD]
theorem rB1 (v0:Addr) (Sz:St) (K:VK):aM 146 1 [.pointer none] [(0,1,.pointer (some v0))] Sz K=K (.slice (some ⟨Sz.n,0,none⟩) 1 1) (Sz.new (.cells [.pointer (some v0)] 146 .exact)):=
 gP 146 (.pointer none) [.pointer (some v0)] (by simp [oneCell]) Sz K
theorem Me (v0 v1:Addr) (Sz:St) (K:VK):aM 146 2 [.pointer none] [(0,1,.pointer (some v0)),(1,1,.pointer (some v1))] Sz K=K (.slice (some ⟨Sz.n,0,none⟩) 2 2) (Sz.new (.cells [.pointer (some v0),.pointer (some v1)] 146 .exact)):=
 gP 146 (.pointer none) [.pointer (some v0),.pointer (some v1)] (by simp [oneCell]) Sz K
theorem rB7 (v0 v1 v2 v3 v4 v5 v6:Addr) (Sz:St) (K:VK):aM 146 7 [.pointer none] [(0,1,.pointer (some v0)),(1,1,.pointer (some v1)),(2,1,.pointer (some v2)),(3,1,.pointer (some v3)),(4,1,.pointer (some v4)),(5,1,.pointer (some v5)),(6,1,.pointer (some v6))] Sz K=K (.slice (some ⟨Sz.n,0,none⟩) 7 7) (Sz.new (.cells [.pointer (some v0),.pointer (some v1),.pointer (some v2),.pointer (some v3),.pointer (some v4),.pointer (some v5),.pointer (some v6)] 146 .exact)):=
 gP 146 (.pointer none) [.pointer (some v0),.pointer (some v1),.pointer (some v2),.pointer (some v3),.pointer (some v4),.pointer (some v5),.pointer (some v6)] (by simp [oneCell]) Sz K
theorem rB8 (v0 v1 v2 v3 v4 v5 v6 v7:Addr) (Sz:St) (K:VK):aM 146 8 [.pointer none] [(0,1,.pointer (some v0)),(1,1,.pointer (some v1)),(2,1,.pointer (some v2)),(3,1,.pointer (some v3)),(4,1,.pointer (some v4)),(5,1,.pointer (some v5)),(6,1,.pointer (some v6)),(7,1,.pointer (some v7))] Sz K=K (.slice (some ⟨Sz.n,0,none⟩) 8 8) (Sz.new (.cells [.pointer (some v0),.pointer (some v1),.pointer (some v2),.pointer (some v3),.pointer (some v4),.pointer (some v5),.pointer (some v6),.pointer (some v7)] 146 .exact)):=
 gP 146 (.pointer none) [.pointer (some v0),.pointer (some v1),.pointer (some v2),.pointer (some v3),.pointer (some v4),.pointer (some v5),.pointer (some v6),.pointer (some v7)] (by simp [oneCell]) Sz K
theorem Du (hm:1024<most):qH most lX bA 5:=by
 intro n Sz w B st b o ds K g;rw [aT (by rfl),UE];unfold JG;rw [cX jF];refine uD (n:=n+0) (its:=[]) (j:=0) hm g rfl fun v Sz B st g=>?_;exact g.fin _
theorem Wh (hm:1024<most):qH most oG cO 5:=by
 intro n Sz w B st b o ds K g;rw [aT (by rfl),UF];unfold JH;rw [cX nZ];refine AK (n:=n+0) (its:=[]) (j:=0) hm g rfl fun v Sz B st g=>?_;exact g.fin _
theorem Dv (hm:1024<most):qH most lY aY 5:=by
 intro n Sz w B st b o ds K g;rw [aT (by rfl),UG];unfold JI;rw [aH,aB,dP yL,cX yL];refine VA (n:=n+0) (its:=[.num]) hm g rfl fun v Sz B st g=>?_;rw [aH,aB,dP yL,cX yL];refine VA (n:=n+0) (its:=[]) hm g rfl fun v Sz B st g=>?_;exact g.fin _
theorem RF (hm:1024<most):qH most iF aV 5:=by
 intro n Sz w B st b o ds K g;rw [aT (by rfl),JJ];unfold BD;rw [aH,aB,dP LL,cX LL];refine Dt (n:=n+0) (its:=[.int,.int,.int,.int,.int,.int,.int,.int,.text,.nums]) hm g rfl fun v Sz B st g=>?_;rw [aH,aB,aH,aB,aH,aB,aH,aB,aH,aB,aH,aB,aH,aB,aH,aB];rw [rB8,fX,rB8]
 refine lH (n:=n+0) (its:=[.text,.nums]) hm 8 (by omega) g (by
  intro i hi;have h:i=0\/i=1\/i=2\/i=3\/i=4\/i=5\/i=6\/i=7:=by omega
  rcases h with rfl | rfl | rfl | rfl | rfl | rfl | rfl | rfl<;>rfl) fun v Sz B st g=>?_
 rw [aH,aB,dP jF,cX jF];refine uD (n:=n+0) (its:=[.nums]) hm g rfl fun v Sz B st g=>?_;rw [aH,aB,dP nZ,cX nZ];refine AK (n:=n+0) (its:=[]) hm g rfl fun v Sz B st g=>?_;exact g.fin _
theorem Wi (hm:1024<most):qH most oH aW 5:=by
 intro n Sz w B st b o ds K g;rw [aT (by rfl),UH];unfold JK;rw [aH,aB,aH,aB];rw [Me,fX,Me]
 refine lH (n:=n+0) (its:=[.kind,.int,.text]) hm 2 (by omega) g (by
  intro i hi;have h:i=0\/i=1:=by omega
  rcases h with rfl | rfl<;>rfl) fun v Sz B st g=>?_
 rw [aH,aB,dP LL,cX LL];refine Dt (n:=n+0) (its:=[.int,.text]) hm g rfl fun v Sz B st g=>?_;rw [aH,aB];rw [rB1]
 refine lH (n:=n+0) (its:=[.text]) hm 1 (by omega) g (by
  intro i hi;have h:i=0:=by omega
  rcases h with rfl<;>rfl) fun v Sz B st g=>?_
 rw [aH,aB,dP jF,cX jF];refine uD (n:=n+0) (its:=[]) hm g rfl fun v Sz B st g=>?_;exact g.fin _
theorem Wj (hm:1024<most):qH most oI bC 5:=by
 intro n Sz w B st b o ds K g;rw [aT (by rfl),UI];unfold JL;rw [aH,aB];rw [rB1]
 refine lH (n:=n+0) (its:=[.text]) hm 1 (by omega) g (by
  intro i hi;have h:i=0:=by omega
  rcases h with rfl<;>rfl) fun v Sz B st g=>?_
 rw [aH,aB,dP jF,cX jF];refine uD (n:=n+0) (its:=[]) hm g rfl fun v Sz B st g=>?_;exact g.fin _
theorem Dw (hm:1024<most):qH most lZ bB 5:=by
 intro n Sz w B st b o ds K g;rw [aT (by rfl),UJ];unfold JM;rw [aH,aB];rw [rB1]
 refine lH (n:=n+0) (its:=[.nums]) hm 1 (by omega) g (by
  intro i hi;have h:i=0:=by omega
  rcases h with rfl<;>rfl) fun v Sz B st g=>?_
 rw [aH,aB,dP nZ,cX nZ];refine AK (n:=n+0) (its:=[]) hm g rfl fun v Sz B st g=>?_;exact g.fin _
theorem Wk (hm:1024<most):qH most oJ bE 5:=by
 intro n Sz w B st b o ds K g;rw [aT (by rfl),UK];unfold JN;rw [aH,aB,aH,aB];rw [Me,fX,Me]
 refine lH (n:=n+0) (its:=[.nums]) hm 2 (by omega) g (by
  intro i hi;have h:i=0\/i=1:=by omega
  rcases h with rfl | rfl<;>rfl) fun v Sz B st g=>?_
 rw [aH,aB,dP nZ,cX nZ];refine AK (n:=n+0) (its:=[]) hm g rfl fun v Sz B st g=>?_;exact g.fin _
theorem Wl{c one:FuncId}{sz d:Nat}{its:List It}{G} (T:EI c sz G) (hsz:its.length=sz) (hm:1048576<most) (hone:qH most one its (d+5)){n:Nat}{w b o:Nat}{es:List (List D)} (hle:es.length<=1048576):
 ∀(r i m:Nat) (Sz:St) (B:Nat->Prop) (st:iZ) (K:VK),i+r=es.length->r<m->KQ Sz w B st->rN Sz B (.list its) b o (.l es)->st.1.length+(es.drop i).foldl (fun c ds=>c+costs its ds) 0<=vO->
  (∀v S' B',KQ S' w B' ((es.drop i).foldl (fun st ds=>if st.2=0 then encs its ds st else st) st)->cM B Sz S' B'->K v S'=true)->
  T.L (X most (n+d+5)) m (hand w) (pt b o) (.func (.func one) #[] #[]) (.int .i64 (.ofNat es.length)) (.int .i64 (.ofNat i)) Sz K=true:=by
 subst hsz;intro r;induction r with
 | zero=>
  intro i m Sz B st K hi hmr hp hc hl hK;obtain⟨m,rfl⟩:=Nat.exists_eq_succ_of_ne_zero (show m≠0 by omega);rw [T.LE];rw [aG,show decide (i<es.length)=false from by simp;omega];simp only [cL,cG,bJ,cA];refine hK _ Sz B ?_ (.refl B Sz);rw [List.drop_of_length_le (by omega)];exact hp
 | succ r ih=>
  intro i m Sz B st K hi hmr hp hc hl hK;obtain⟨m,rfl⟩:=Nat.exists_eq_succ_of_ne_zero (show m≠0 by omega);have hlt:i<es.length:=by omega
  have hed:es.drop i=es[i]::es.drop (i+1):=List.drop_eq_getElem_cons hlt;rw [T.LE];rw [aG,show decide (i<es.length)=true from by simpa using hlt];simp only [cL,cF,cX Pt];rw [Wf (n:=n+d+4) hp,rB,bL,iX];by_cases he:st.2=0
  ·rw [if_pos (by simpa using he),aH]
   obtain⟨v,hv,hld⟩:=hc.ld;obtain⟨⟨bb,cc,rfl⟩,hN⟩:=hv.len;rw [hld,zU,rB,iX,if_neg (by simp;omega),T.JE _ (by rw [bP];omega)];obtain⟨b2,o2,sp,c2,e2,hsp,hst⟩:=hv.elem (k:=i) (ds:=es[i]) (List.getElem?_eq_getElem hlt);rw [e2]at hld;rw [aH,hld,Fc its.length b2 o2 i _ c2 sp hsp hlt,Ke];rw [hed,List.foldl_cons,mN]at hl;refine hone n ⟨hp,hst,by rw [List.drop_zero];omega,fun v2 S' B' hp' f=>?_⟩;rw [List.drop_zero]at hp';rw [aP _ _ _ _ (by omega)];have hlen:=KT its es[i] st;refine ih (i+1) m S' B' (encs its es[i] st) K (by omega) (by omega) hp' (hc.fr f) (by omega) fun v3 S3z B3 hp3 f3=>hK v3 S3z B3 ?_ (f.trans f3);rw [hed,List.foldl_cons,if_pos he];exact hp3
  ·rw [if_neg (by simpa using he)]
   refine hK _ Sz B ?_ (.refl B Sz)
   have key:∀l:List (List D),l.foldl (fun st ds=>if st.2=0 then encs its ds st else st) st=st:=by
    intro l;induction l with
    | nil=>rfl
    | cons d l ih=>rw [List.foldl_cons,if_neg he,ih]
   rw [key];exact hp
theorem vL{c one:FuncId}{sz d:Nat}{its:List It}{G} (T:EI c sz G) (hsz:its.length=sz) (hm:1048576<most) (hone:qH most one its (d+5)):BP most c one its (d+6):=by
 intro n Sz w B st b o es K hp hc hl hK;show(X most (n+d+5+1)).C _ _ _ _=true;rw [aT T.ov,T.R];obtain⟨v,hv,hld⟩:=hc.ld;obtain⟨⟨bb,cc,rfl⟩,hN⟩:=hv.len;rw [aH,hld,zU,dP Ds,cX Ds];have h8:∀l:List (List D),8<=l.foldl (fun c ds=>c+costs its ds) 8:=fun l=>by rw [mN];omega
 have hl':st.1.length+es.foldl (fun c ds=>c+costs its ds) 8<=vO:=by simpa [cost]using hl
 refine aAP (n:=n+d+1) hp (by omega) hN (by have:=h8 es;omega) fun S' B' hp' f=>?_;obtain⟨v',hv',aAQ⟩:=(hc.fr f).ld
 have hvv:v'= .slice bb es.length cc:=by
  have h1:=hld (fun v _=>true);obtain⟨vs,e,ck,u,g1,g2,g3,g4⟩:=hc.row;have e1:S'.obj b=some (.cells vs e ck):=by rw [f.same b hc.lt hc.nC];exact g1
  have a1:=aAQ (fun x _=>true);have q:∀K:VK,K v' S'=K u S':=fun K=>(aAQ K).symm.trans (cB e1 g3 K);have q2:∀K:VK,K (.slice bb es.length cc) Sz=K u Sz:=fun K=>(hld K).symm.trans (cB g1 g3 K)
  have r1:u=v':=by
   by_cases h:u=v'
   ·exact h
   ·have:=q (fun x _=> @decide (x=v') (Classical.propDecidable _));simp [h]at this
  have r2:u= .slice bb es.length cc:=by
   by_cases h:u= .slice bb es.length cc
   ·exact h
   ·have:=q2 (fun x _=> @decide (x= .slice bb es.length cc) (Classical.propDecidable _));simp [h]at this
  rw [<-r1,r2]
 subst hvv;rw [aAQ,aQ (cW hv'),bP];unfold manyN;by_cases hb:1048576<es.length
 ·rw [if_pos hb]
  obtain⟨m,hme⟩:=Nat.exists_eq_succ_of_ne_zero (show most≠0 by omega)
  have hgo:∀x:EV,T.L x (m+1) (hand w) (pt b o) (.func (.func one) #[] #[]) zI zI S' K=K (.tuple ⟨[]⟩) S':=fun x=>by
   rw [T.LE];rw [aG,show decide (0<0)=false from rfl];simp only [cL,cG,bJ,cA]
  have aHj:T.L (X most (n+d+5)) most (hand w) (pt b o) (.func (.func one) #[] #[]) zI zI S' K=K (.tuple ⟨[]⟩) S':=by
   have:=hgo (X most (n+d+5));rw [show m+1=most from hme.symm]at this;exact this
  refine Eq.trans aHj (hK _ S' B' ?_ f);rw [enc,if_pos hb];unfold XD at hp';rw [if_pos hb]at hp';exact hp'
 ·rw [if_neg hb]
  unfold XD at hp';rw [if_neg hb,Si]at hp';refine Wl T hsz hm hone (n:=n) (by omega) es.length 0 most S' B' _ K (by omega) (show es.length<most by omega) hp' (hc.fr f) ?_ fun v3 S3z B3 hp3 f3=>hK v3 S3z B3 ?_ (f.trans f3)
  ·rw [List.drop_zero]
   rw [mN]at hl';show(st.1++pH 8 es.length).length+_<=_;rw [List.length_append,bK];omega
  ·rw [enc,if_neg hb]
   rw [List.drop_zero]at hp3;exact hp3
theorem VB (hm:1048576<most) (hone:qH most lX bA 5):BP most fM lX bA 6:=vL (d:=0) Dg rfl hm hone
theorem TG (hm:1048576<most) (hone:qH most oG cO 5):BP most eK oG cO 6:=vL (d:=0) JO rfl hm hone
theorem MV (hm:1048576<most) (hone:qH most lY aY 5):BP most eP lY aY 6:=vL (d:=0) UL rfl hm hone
theorem RG (hm:1048576<most) (hone:qH most iF aV 5):BP most eZ iF aV 6:=vL (d:=0) ZF rfl hm hone
theorem WH (hm:1048576<most) (hone:qH most oH aW 5):BP most eT oH aW 6:=vL (d:=0) MK rfl hm hone
theorem WI (hm:1048576<most) (hone:qH most oI bC 5):BP most eU oI bC 6:=vL (d:=0) ML rfl hm hone
theorem KU (hm:1048576<most) (hone:qH most lZ bB 5):BP most eE lZ bB 6:=vL (d:=0) PV rfl hm hone
theorem Ao (hm:1048576<most) (hone:qH most oJ bE 5):BP most fC oJ bE 6:=vL (d:=0) PW rfl hm hone
theorem RH (hM:1048576<most):qH most iG aD 7:=by
 have hm:1024<most:=by omega
 intro n Sz w B st b o ds K g;rw [aT (by rfl),JQ];unfold BF;rw [aH,aB,aH,aB];rw [Me,fX,Me]
 refine lH (n:=n+2) (its:=[.list cO,.nums,.list bB,.list bB,.nums,.is]) hm 2 (by omega) g (by
  intro i hi;have h:i=0\/i=1:=by omega
  rcases h with rfl | rfl<;>rfl) fun v Sz B st g=>?_
 rw [aH,aB];refine kG (n:=n+0) (its:=[.nums,.list bB,.list bB,.nums,.is]) (TG hM (Wh hm)) g rfl fun v Sz B st g=>?_;rw [aH,aB,dP nZ,cX nZ];refine AK (n:=n+2) (its:=[.list bB,.list bB,.nums,.is]) hm g rfl fun v Sz B st g=>?_;rw [aH,aB];refine kG (n:=n+0) (its:=[.list bB,.nums,.is]) (KU hM (Dw hm)) g rfl fun v Sz B st g=>?_;rw [aH,aB];refine kG (n:=n+0) (its:=[.nums,.is]) (KU hM (Dw hm)) g rfl fun v Sz B st g=>?_;rw [aH,aB,dP nZ,cX nZ];refine AK (n:=n+2) (its:=[.is]) hm g rfl fun v Sz B st g=>?_;rw [aH,aB,dP xI,cX xI];refine RE (n:=n+2) (its:=[]) hm g rfl fun v Sz B st g=>?_;exact g.fin _
theorem Mb (hM:1048576<most):qH most xD bQ 7:=by
 have hm:1024<most:=by omega
 intro n Sz w B st b o ds K g;rw [aT (by rfl),MM];unfold DF;rw [aH,aB,aH,aB,aH,aB,aH,aB,aH,aB,aH,aB,aH,aB];rw [rB7,fX,rB7]
 refine lH (n:=n+2) (its:=[.text,.text,.int,.int,.is,.is,.text,.list aW]) hm 7 (by omega) g (by
  intro i hi;have h:i=0\/i=1\/i=2\/i=3\/i=4\/i=5\/i=6:=by omega
  rcases h with rfl | rfl | rfl | rfl | rfl | rfl | rfl<;>rfl) fun v Sz B st g=>?_
 rw [aH,aB,dP jF,cX jF];refine uD (n:=n+2) (its:=[.text,.int,.int,.is,.is,.text,.list aW]) hm g rfl fun v Sz B st g=>?_;rw [aH,aB,dP jF,cX jF];refine uD (n:=n+2) (its:=[.int,.int,.is,.is,.text,.list aW]) hm g rfl fun v Sz B st g=>?_;rw [aH,aB,aH,aB];rw [Me,fX,Me]
 refine lH (n:=n+2) (its:=[.is,.is,.text,.list aW]) hm 2 (by omega) g (by
  intro i hi;have h:i=0\/i=1:=by omega
  rcases h with rfl | rfl<;>rfl) fun v Sz B st g=>?_
 rw [aH,aB,dP xI,cX xI];refine RE (n:=n+2) (its:=[.is,.text,.list aW]) hm g rfl fun v Sz B st g=>?_;rw [aH,aB,dP xI,cX xI];refine RE (n:=n+2) (its:=[.text,.list aW]) hm g rfl fun v Sz B st g=>?_;rw [aH,aB,dP jF,cX jF];refine uD (n:=n+2) (its:=[.list aW]) hm g rfl fun v Sz B st g=>?_;rw [aH,aB];refine kG (n:=n+0) (its:=[]) (WH hM (Wi hm)) g rfl fun v Sz B st g=>?_;exact g.fin _
theorem Wm (hM:1048576<most):qH most CH bZ 8:=by
 have hm:1024<most:=by omega
 intro n Sz w B st b o ds K g;rw [aT (by rfl),UM];unfold JR;rw [aH,aB];rw [rB1]
 refine lH (n:=n+3) (its:=[.text,.is,.int,.int,.int,.int,.int,.int,.int,.text,.text,.int,.int,.is,.is,.text,.list aW,.list bC,.list aV]) hm 1 (by omega) g (by
  intro i hi;have h:i=0:=by omega
  rcases h with rfl<;>rfl) fun v Sz B st g=>?_
 rw [aH,aB,dP jF,cX jF];refine uD (n:=n+3) (its:=[.is,.int,.int,.int,.int,.int,.int,.int,.text,.text,.int,.int,.is,.is,.text,.list aW,.list bC,.list aV]) hm g rfl fun v Sz B st g=>?_;rw [aH,aB,dP xI,cX xI];refine RE (n:=n+3) (its:=[.int,.int,.int,.int,.int,.int,.int,.text,.text,.int,.int,.is,.is,.text,.list aW,.list bC,.list aV]) hm g rfl fun v Sz B st g=>?_;rw [aH,aB];refine Ly (n:=n+0) (dJ:=bQ) (its:=[.list bC,.list aV]) (Mb hM) g rfl (by decide) fun v Sz B st g=>?_;rw [aH,aB];refine kG (n:=n+1) (its:=[.list aV]) (WI hM (Wj hm)) g rfl fun v Sz B st g=>?_;rw [aH,aB];refine kG (n:=n+1) (its:=[]) (RG hM (RF hm)) g rfl fun v Sz B st g=>?_;exact g.fin _
theorem HV (hm:1048576<most) (hone:qH most iG aD 7):BP most dQ iG aD 8:=vL (d:=2) MN rfl hm hone
theorem aAS (hM:1048576<most):qH most wQ bN 9:=by
 have hm:1024<most:=by omega
 intro n Sz w B st b o ds K g;rw [aT (by rfl),ZG];unfold NM;rw [aH,aB];rw [rB1]
 refine lH (n:=n+4) (its:=[.list bA,.int,.text,.is,.int,.int,.int,.int,.int,.int,.int,.text,.text,.int,.int,.is,.is,.text,.list aW,.list bC,.list aV,.list bA,.list aY,.list aY,.is,.list aD,.list bE,.list aV,.list aD]) hm 1 (by omega) g (by
  intro i hi;have h:i=0:=by omega
  rcases h with rfl<;>rfl) fun v Sz B st g=>?_
 rw [aH,aB];refine kG (n:=n+2) (its:=[.int,.text,.is,.int,.int,.int,.int,.int,.int,.int,.text,.text,.int,.int,.is,.is,.text,.list aW,.list bC,.list aV,.list bA,.list aY,.list aY,.is,.list aD,.list bE,.list aV,.list aD]) (VB hM (Du hm)) g rfl fun v Sz B st g=>?_;rw [aH,aB];refine Ly (n:=n+0) (dJ:=bZ) (its:=[.list bA,.list aY,.list aY,.is,.list aD,.list bE,.list aV,.list aD]) (Wm hM) g rfl (by decide) fun v Sz B st g=>?_;rw [aH,aB];refine kG (n:=n+2) (its:=[.list aY,.list aY,.is,.list aD,.list bE,.list aV,.list aD]) (VB hM (Du hm)) g rfl fun v Sz B st g=>?_;rw [aH,aB];refine kG (n:=n+2) (its:=[.list aY,.is,.list aD,.list bE,.list aV,.list aD]) (MV hM (Dv hm)) g rfl fun v Sz B st g=>?_;rw [aH,aB];refine kG (n:=n+2) (its:=[.is,.list aD,.list bE,.list aV,.list aD]) (MV hM (Dv hm)) g rfl fun v Sz B st g=>?_;rw [aH,aB,dP xI,cX xI];refine RE (n:=n+4) (its:=[.list aD,.list bE,.list aV,.list aD]) hm g rfl fun v Sz B st g=>?_;rw [aH,aB];refine kG (n:=n+0) (its:=[.list bE,.list aV,.list aD]) (HV hM (RH hM)) g rfl fun v Sz B st g=>?_;rw [aH,aB];refine kG (n:=n+2) (its:=[.list aV,.list aD]) (Ao hM (Wk hm)) g rfl fun v Sz B st g=>?_;rw [aH,aB];refine kG (n:=n+2) (its:=[.list aD]) (RG hM (RF hm)) g rfl fun v Sz B st g=>?_;rw [aH,aB];refine kG (n:=n+0) (its:=[]) (HV hM (RH hM)) g rfl fun v Sz B st g=>?_;exact g.fin _
variable{most:Nat}
def encode (ds:List D):List UInt8×Nat:=let st:=encs bN ds ([],0);if st.2=0 then(st.1,0)else([],st.2)
theorem dM{P:Program} (t:TypeId) (k:IntKind) (a b:Nat) (K:Value->Bool):aK P .neq t (.int k (.ofNat a)) (.int k (.ofNat b)) K=K (.bool (!decide (a=b))):=by
 rw [tG _ _ _ _ _ _ (by simp) (by simp)];simp only [sS,lE,rL]
 congr 3
 by_cases h:a=b
 ·subst h;simp
 ·rw [decide_eq_false h]
  have:¬(Int.ofNat a=Int.ofNat b):=fun e=>h (Int.ofNat.inj e);simpa using this
theorem aAF (hM:1048576<most){n:Nat}{Sz:St}{C:Nat->Prop}{cs:List Value}{ds:List D} (h:lL Sz C bN cs ds) (hl:costs bN ds<=vO){K:VK}
 (hK:∀S',aZ Sz S'->K (.tuple ⟨[.string ⟨⟨(encode ds).1⟩⟩,.int .i64 (.ofNat (encode ds).2)]⟩) S'=true):(X most (n+10)).C DM [.agg ⟨cs⟩] Sz K=true:=by
 rw [aT (by rfl),Cb];unfold MW;rw [eI (List.all_eq_true.2 h.one)];have hbd:∀K:Value->Bool,dK [(.pointer none),zL,zI] [] K=K (.agg ⟨[.pointer none,.slice none 0 0,.int .i64 (.ofNat 0)]⟩):=fun K=>rfl;rw [hbd,eI rfl];have hs:=h.Hl 34
 let S1z:=Sz.new (.cells cs 34 .exact)
 let S2z:=S1z.new (.cells [.pointer none,.slice none 0 0,.int .i64 (.ofNat 0)] 96 .exact)
 have hx2:aZ Sz S2z:=(aZ.new Sz _).trans (aZ.new S1z _);have hp:KQ S2z S1z.n (fun i=>i=S1z.n) ([],0):=⟨rfl,fun i hi=>by subst hi;exact Nat.lt_succ_self _,_,_,aF,.inl rfl,.inl ⟨rfl,rfl⟩⟩;have hs2:qO S2z (fun i=>i=S1z.n) bN Sz.n 0 ds:=hs.fr ⟨Nat.le_succ _,fun i hi _=>aL (Nat.ne_of_lt hi),fun i hi=> .inr (by subst hi;exact Nat.le_refl _)⟩
 have hlast:∀(v:Value) (S':St) (B':Nat->Prop),KQ S' S1z.n B' (encs bN ds ([],0))->cM (fun i=>i=S1z.n) S2z S' B'->
  (bI PP (pt S1z.n 0) fun v4=>aC 2 v4 fun v5=>aN v5 S' fun v6 Sz=>aK PP .neq 37 v6 zI fun v7=>
   gD v7 (bI PP (pt S1z.n 0) fun v8=>aC 2 v8 fun v9=>aN v9 Sz fun v10 Sz=>K (.tuple ⟨[zS,v10]⟩) Sz)
    (bI PP (pt S1z.n 0) fun v11=>aC 0 v11 fun v12=>(X most (n+9)).C jJ [v12] Sz fun v13 Sz=>K (.tuple ⟨[v13,zI]⟩) Sz))=true:=by
  intro _ S' B' hp' f;have hx:aZ Sz S':=f.ext hx2 fun i hi=>by subst hi;exact Nat.le_succ _
  rw [aH,aB,Nat.zero_add,XC hp',dM,iX];have hK':=hK;unfold encode at hK';simp only at hK';by_cases he:(encs bN ds ([],0)).2=0
  ·rw [if_neg (by simp [he]),aH,aB]
   rw [if_pos he]at hK';have hlen:=KT bN ds ([],0);refine Lu (n:=n+8) hp' (by simp at hlen;unfold vO at hl;omega) fun S3z f3=>hK' S3z (f3.ext hx fun i hi=>?_);rcases f.sub i hi with h1 | h1
   ·subst h1;exact Nat.le_succ _
   ·exact Nat.le_trans hx2.n h1
  ·rw [if_pos (by simp [he]),aH,aB,Nat.zero_add,XC hp']
   rw [if_neg he]at hK';exact hK' S' hx
 exact aAS hM n ⟨hp,hs2,by rw [List.drop_zero];simpa using hl,fun v S' B' hp' f=>hlast v S' B' (by simpa using hp') f⟩
def App (f:iZ->iZ):Prop:=∀b e,f (b,e)=(b++(f ([],e)).1,(f ([],e)).2)
def Keeps (f:iZ->iZ):Prop:=∀st,(f st).2=0->st.2=0
theorem Vj (ns:List Nat):(ns.map fun z:Nat=>[D.n (z:Int)]).map numOf=ns:=by
 induction ns with
 | nil=>rfl
 | cons n ns ih=>simp only [List.map_cons,ih];rfl
theorem two{f g:iZ->iZ} (hg:App g) (kg:Keeps g) (h:(g (f ([],0))).2=0):(f ([],0)).2=0/\(g ([],0)).2=0/\(g (f ([],0))).1=(f ([],0)).1++(g ([],0)).1:=by
 have h0:=kg _ h;have:=hg (f ([],0)).1 (f ([],0)).2;rw [show((f ([],0)).1,(f ([],0)).2)=f ([],0)from rfl,h0]at this;rw [this]at h ⊢;exact⟨h0,h,rfl⟩
abbrev RS:=List UInt8×Nat
def gR (k:Nat) (st:RS):Nat×RS:=if st.2≠0 then(0,st)else if k<=st.1.length then(be (st.1.take k),st.1.drop k,0)else(0,[],8)
def fD (most:Nat) (st:RS):Nat×RS:=if st.2≠0 then(0,st)else if 8<=st.1.length then(if be (st.1.take 8)<=most then(be (st.1.take 8),st.1.drop 8,0)else(0,[],4))else(0,[],8)
def IB (st:RS):List UInt8×RS:=if st.2≠0 then([],st)else if 2<=st.1.length then
 (if be (st.1.take 2)<=2048 then(if be (st.1.take 2)<=(st.1.drop 2).length then((st.1.drop 2).take (be (st.1.take 2)),(st.1.drop 2).drop (be (st.1.take 2)),0)else([],[],8))else([],[],40))
 else([],[],8)
def WV (st:RS):List Nat×RS:=if st.2≠0 then([],st)else if 2<=st.1.length then
 (if be (st.1.take 2)<=1024 then(if be (st.1.take 2)*8<=(st.1.drop 2).length then(Jn (st.1.drop 2) (be (st.1.take 2)),(st.1.drop 2).drop (8*be (st.1.take 2)),0)else([],[],8))else([],[],40))
 else([],[],8)
def kK (f:RS->List D×RS):Nat->RS->List (List D)×RS
 | 0,st=>([],st)
 | n+1,st=>if st.2≠0 then([],st)else((f st).1::(kK f n (f st).2).1,(kK f n (f st).2).2)
def i64 (n:Nat):Int:=((n:Int)+9223372036854775808)%18446744073709551616-9223372036854775808
mutual
def dec:It->RS->D×RS
 | .num,st=>(.n ((gR 8 st).1:Nat),(gR 8 st).2)
 | .kind,st=>(.n ((gR 1 st).1:Nat),(gR 1 st).2)
 | .int,st=>(.n (i64 (gR 8 st).1),(gR 8 st).2)
 | .is,st=>(.b (decide ((fD 1 st).1=1)),(fD 1 st).2)
 | .text,st=>(.s (IB st).1,(IB st).2)
 | .nums,st=>(.l ((WV st).1.map fun z:Nat=>[.n (z:Int)]),(WV st).2)
 | .list its,st=>(.l (kK (bX its) (fD 1048576 st).1 (fD 1048576 st).2).1,(kK (bX its) (fD 1048576 st).1 (fD 1048576 st).2).2)
def bX:List It->RS->List D×RS
 | [],st=>([],st)
 | it::its,st=>((dec it st).1::(bX its (dec it st).2).1,(bX its (dec it st).2).2)
end
theorem p8:(256:Nat) ^ 8=18446744073709551616:=by decide
theorem p2:(256:Nat) ^ 2=65536:=by decide
variable{most:Nat}
structure uH (Sz:St) (W:Nat->Prop) (rr:Nat) (st:RS):Prop where
 PK:W rr
 lt:∀i,W i->i<Sz.n
 obj:Sz.obj rr=some (.cells [.string ⟨⟨st.1⟩⟩,.int .i64 (.ofNat st.2)] 168 .exact)
 len:st.1.length<9223372036854775808
abbrev eye (rr:Nat):Value:= .iface 103 (.agg ⟨[pt rr 0]⟩)
theorem zY{Sz:St}{i o:Nat}{vs new:List Value}{e:TypeId} (h:Sz.obj i=some (.cells vs e .exact)) (ho:o+new.length<=vs.length) (k:St->Bool):eX Sz i o new k=k (Sz.set i (.cells (splice o new vs) e .exact)):=by
 unfold eX;rw [iY h];show iA o new vs (fun vs=>uG Sz i (.cells vs e .exact) k)=_;rw [gS,if_pos ho,jX]
theorem uH.new{Sz:St}{W:Nat->Prop}{rr:Nat}{st:RS} (h:uH Sz W rr st) (o:fS):uH (Sz.new o) W rr st:=
 ⟨h.PK,fun i hi=>Nat.lt_succ_of_lt (h.lt i hi),by rw [aL (Nat.ne_of_lt (h.lt rr h.PK))];exact h.obj,h.len⟩
theorem uH.WU{Sz:St}{W:Nat->Prop}{rr:Nat}{st:RS} (h:uH Sz W rr st):rr<Sz.n:=h.lt rr h.PK
theorem uH.nW{Sz:St}{W:Nat->Prop}{rr:Nat}{st:RS} (h:uH Sz W rr st):¬W Sz.n:=fun hb=>Nat.lt_irrefl _ (h.lt _ hb)
theorem uH.turn{Sz:St}{W:Nat->Prop}{rr:Nat}{st:RS} (h:uH Sz W rr st) (st':RS) (hl:st'.1.length<=st.1.length):
 uH (Sz.set rr (.cells [.string ⟨⟨st'.1⟩⟩,.int .i64 (.ofNat st'.2)] 168 .exact)) W rr st'/\cM W Sz (Sz.set rr (.cells [.string ⟨⟨st'.1⟩⟩,.int .i64 (.ofNat st'.2)] 168 .exact)) W:=
 ⟨⟨h.PK,h.lt,aX,Nat.lt_of_le_of_lt hl h.len⟩,⟨Nat.le_refl _,fun _ _ hi=>aJ fun e=>hi (e▸h.PK),fun _ h=> .inl h⟩⟩
theorem EC (e:Nat):RK (.ofNat e) 0=decide (e=0):=by
 rw [rL];by_cases h:e=0
 ·subst h;rfl
 ·rw [decide_eq_false h]
  have:¬(Int.ofNat e=0):=fun c=>h (Int.ofNat.inj c);simpa using this
theorem Jz{Sz:St}{W:Nat->Prop}{rr:Nat}{st:RS} (h:uH Sz W rr st){zero v:Value}{st':RS}{parse:Parse} (he:st.2≠0->v=zero/\st'=st)
 (hp:st.2=0->∀(ok:Value->List UInt8->Bool) (no:Int->Bool),parse st.1 st.1.length ok no=if st'.2=0 then ok v st'.1 else no (.ofNat st'.2))
 (hz:st'.2≠0->v=zero) (hl:st.2=0->st'.2≠0->st'.1=[]) (hle:st'.1.length<=st.1.length) {K:VK}
 (hK:∀S',uH S' W rr st'->cM W Sz S' W->K (.tuple ⟨[v,.int .i64 (.ofNat st'.2)]⟩) S'=true):rdK zero parse Sz (pt rr 0) K=true:=by
 show lD Sz rr _=true;rw [iY h.obj]
 show(match RK (.ofNat st.2) 0 with
  | true=>mJ st.1 fun n=>match Nat.blt n 9223372036854775808 with
   | true=>parse st.1 n (fun v rest=>eX Sz rr 0 [.string ⟨⟨rest⟩⟩] fun Sz=>K (.tuple ⟨[v,.int .i64 (.ofNat 0)]⟩) Sz) (fun er=>eX Sz rr 0 [.string ⟨⟨[]⟩⟩,.int .i64 er] fun Sz=>K (.tuple ⟨[zero,.int .i64 er]⟩) Sz)
   | false=>false
  | false=>K (.tuple ⟨[zero,.int .i64 (.ofNat st.2)]⟩) Sz)=true
 rw [EC];by_cases h0:st.2=0
 ·rw [decide_eq_true h0,cV]
  simp only;rw [show Nat.blt st.1.length 9223372036854775808=true from Nat.ble_eq_true_of_le h.len];simp only;rw [hp h0];by_cases h1:st'.2=0
  ·rw [if_pos h1,zY h.obj (by simp)]
   have:=h.turn st' hle;have e:splice 0 [Value.string ⟨⟨st'.1⟩⟩] [.string ⟨⟨st.1⟩⟩,.int .i64 (.ofNat st.2)]=[.string ⟨⟨st'.1⟩⟩,.int .i64 (.ofNat st'.2)]:=by simp [splice,h0,h1]
   rw [e];have h2:=hK _ this.1 this.2;rw [h1]at h2 ⊢;exact h2
  ·rw [if_neg h1,zY h.obj (by simp)]
   have:=h.turn st' hle;have e:splice 0 [Value.string ⟨⟨[]⟩⟩,.int .i64 (.ofNat st'.2)] [.string ⟨⟨st.1⟩⟩,.int .i64 (.ofNat st.2)]=[.string ⟨⟨st'.1⟩⟩,.int .i64 (.ofNat st'.2)]:=by simp [splice,hl h0 h1]
   rw [e];have h2:=hK _ this.1 this.2;rw [hz h1]at h2;exact h2
 ·rw [decide_eq_false h0]
  obtain⟨rfl,rfl⟩:=he h0;exact hK Sz h (.refl W Sz)
theorem aBU (st:RS) (h0:st.2=0) (ok:Value->List UInt8->Bool) (no:Int->Bool):Nq st.1 st.1.length ok no=if(gR 8 st).2.2=0 then ok (.int .u64 (.ofNat (gR 8 st).1)) (gR 8 st).2.1 else no (.ofNat (gR 8 st).2.2):=by
 unfold Nq gR;have e0:¬st.2≠0:=by simp [h0]
 simp only [if_neg e0];by_cases h:8<=st.1.length
 ·rw [show Nat.ble 8 st.1.length=true from Nat.ble_eq_true_of_le h]
  simp only [if_pos h,if_true];rw [fL,if_pos h,eH,if_pos h,AX]
 ·rw [show Nat.ble 8 st.1.length=false from by cases q:Nat.ble 8 st.1.length with | false=>rfl | true=>exact absurd (Nat.le_of_ble_eq_true q) h]
  simp [if_neg h]
theorem Zn (st:RS) (h0:st.2=0) (ok:Value->List UInt8->Bool) (no:Int->Bool):YS st.1 st.1.length ok no=if(gR 1 st).2.2=0 then ok (.int .u8 (.ofNat (gR 1 st).1)) (gR 1 st).2.1 else no (.ofNat (gR 1 st).2.2):=by
 unfold YS gR;have e0:¬st.2≠0:=by simp [h0]
 simp only [if_neg e0];by_cases h:1<=st.1.length
 ·rw [show Nat.ble 1 st.1.length=true from Nat.ble_eq_true_of_le h]
  simp only [if_pos h,if_true];rw [fL,if_pos h,eH,if_pos h,AX]
 ·rw [show Nat.ble 1 st.1.length=false from by cases q:Nat.ble 1 st.1.length with | false=>rfl | true=>exact absurd (Nat.le_of_ble_eq_true q) h]
  simp [if_neg h]
theorem UD{a b:Nat} (h:¬a<=b):Nat.ble a b=false:=by cases q:Nat.ble a b with | false=>rfl | true=>exact absurd (Nat.le_of_ble_eq_true q) h
theorem ED{a b:Nat} (h:a<=b):Nat.ble a b=true:=Nat.ble_eq_true_of_le h
theorem countP_eq (m:Nat) (st:RS) (h0:st.2=0) (ok:Value->List UInt8->Bool) (no:Int->Bool):countP m st.1 st.1.length ok no=if(fD m st).2.2=0 then ok (.int .i64 (.ofNat (fD m st).1)) (fD m st).2.1 else no (.ofNat (fD m st).2.2):=by
 unfold countP fD;have e0:¬st.2≠0:=by simp [h0]
 simp only [if_neg e0];by_cases h:8<=st.1.length
 ·rw [ED h]
  simp only [if_pos h];rw [fL,if_pos h,eH,if_pos h,AX];by_cases h1:be (st.1.take 8)<=m
  ·rw [ED h1];simp [if_pos h1]
  ·rw [UD h1];simp [if_neg h1]
 ·rw [UD h];simp [if_neg h]
theorem Zo (st:RS) (h0:st.2=0) (ok:Value->List UInt8->Bool) (no:Int->Bool):YT st.1 st.1.length ok no=if(IB st).2.2=0 then ok (.string ⟨⟨(IB st).1⟩⟩) (IB st).2.1 else no (.ofNat (IB st).2.2):=by
 unfold YT IB;have e0:¬st.2≠0:=by simp [h0]
 simp only [if_neg e0];by_cases h:2<=st.1.length
 ·rw [ED h]
  simp only [if_pos h];rw [fL,if_pos h,eH,if_pos h,AX];by_cases h1:be (st.1.take 2)<=2048
  ·rw [ED h1]
   simp only [if_pos h1];rw [cV];by_cases h2:be (st.1.take 2)<=(st.1.drop 2).length
   ·rw [ED h2]
    simp only [if_pos h2,if_true];rw [fL,if_pos h2,eH,if_pos h2]
   ·rw [UD h2];simp only [if_neg h2];rfl
  ·rw [UD h1];simp [if_neg h1]
 ·rw [UD h];simp [if_neg h]
theorem Zp (k:Nat) (st:RS):(gR k st).2.1.length<=st.1.length:=by
 unfold gR;split
 ·exact Nat.le_refl _
 ·split
  ·simp
  ·simp
theorem aDE (k:Nat) (st:RS):(fD k st).2.1.length<=st.1.length:=by
 unfold fD;split
 ·exact Nat.le_refl _
 ·split
  ·split<;>simp
  ·simp
theorem aDF (st:RS):(IB st).2.1.length<=st.1.length:=by
 unfold IB;split
 ·exact Nat.le_refl _
 ·split
  ·split
   ·split
    ·simp
    ·simp
   ·simp
  ·simp
theorem aDG (st:RS):(WV st).2.1.length<=st.1.length:=by
 unfold WV;split
 ·exact Nat.le_refl _
 ·split
  ·split
   ·split
    ·simp
    ·simp
   ·simp
  ·simp
theorem Ri (k:Nat) (st:RS) (h:(gR k st).2.2≠0):(gR k st).1=0/\(st.2=0->(gR k st).2.1=[]):=by
 unfold gR at h ⊢;split
 ·rename_i h1;exact⟨rfl,fun c=>absurd c h1⟩
 ·rename_i h1
  rw [if_neg h1]at h;split
  ·rename_i h2;rw [if_pos h2]at h;exact absurd rfl h
  ·exact⟨rfl,fun _=>rfl⟩
theorem aCK (k:Nat) (st:RS) (h:(fD k st).2.2≠0):(fD k st).1=0/\(st.2=0->(fD k st).2.1=[]):=by
 unfold fD at h ⊢;split
 ·rename_i h1;exact⟨rfl,fun c=>absurd c h1⟩
 ·rename_i h1
  rw [if_neg h1]at h;split
  ·rename_i h2
   rw [if_pos h2]at h;split
   ·rename_i h3;rw [if_pos h3]at h;exact absurd rfl h
   ·exact⟨rfl,fun _=>rfl⟩
  ·exact⟨rfl,fun _=>rfl⟩
theorem aCL (st:RS) (h:(IB st).2.2≠0):(IB st).1=[]/\(st.2=0->(IB st).2.1=[]):=by
 unfold IB at h ⊢;split
 ·rename_i h1;exact⟨rfl,fun c=>absurd c h1⟩
 ·rename_i h1
  rw [if_neg h1]at h;split
  ·rename_i h2
   rw [if_pos h2]at h;split
   ·rename_i h3
    rw [if_pos h3]at h;split
    ·rename_i h4;rw [if_pos h4]at h;exact absurd rfl h
    ·exact⟨rfl,fun _=>rfl⟩
   ·exact⟨rfl,fun _=>rfl⟩
  ·exact⟨rfl,fun _=>rfl⟩
theorem aCM (k:Nat) (st:RS) (h:st.2≠0):gR k st=(0,st):=by unfold gR;rw [if_pos h]
theorem aE1 (k:Nat) (st:RS) (h:st.2≠0):fD k st=(0,st):=by unfold fD;rw [if_pos h]
theorem aE2 (st:RS) (h:st.2≠0):IB st=([],st):=by unfold IB;rw [if_pos h]
theorem aE3 (st:RS) (h:st.2≠0):WV st=([],st):=by unfold WV;rw [if_pos h]
section
variable{Sz:St}{W:Nat->Prop}{rr:Nat}{st:RS}{n:Nat}{K:VK}
theorem aE4 (h:uH Sz W rr st) (hK:∀S',uH S' W rr (gR 8 st).2->cM W Sz S' W->K (.tuple ⟨[.int .u64 (.ofNat (gR 8 st).1),.int .i64 (.ofNat (gR 8 st).2.2)]⟩) S'=true):
 (X most (n+2)).C uW [pt rr 0] Sz K=true:=by
 rw [aT (by rfl),PL];unfold CF;rw [Bl (g:=VI yX (.int .u64 (.ofNat 0)) Nq) (by rfl)];show rdK (.int .u64 (.ofNat 0)) Nq Sz (pt rr 0) _=true;refine Jz h (v:= .int .u64 (.ofNat (gR 8 st).1)) (st':=(gR 8 st).2) (fun he=>by rw [aCM 8 st he];exact⟨rfl,rfl⟩) (fun h0=>aBU st h0) (fun hz=>by rw [(Ri 8 st hz).1]) (fun h0 hz=>(Ri 8 st hz).2 h0) (Zp 8 st) fun S' h1 f=>?_;exact hK S' h1 f
theorem aBV (h:uH Sz W rr st) (hK:∀S',uH S' W rr (gR 1 st).2->cM W Sz S' W->K (.tuple ⟨[.int .u8 (.ofNat (gR 1 st).1),.int .i64 (.ofNat (gR 1 st).2.2)]⟩) S'=true):
 (X most (n+2)).C tI [pt rr 0] Sz K=true:=by
 rw [aT (by rfl),NJ];unfold BA;rw [Bl (g:=VI xW (.int .u8 (.ofNat 0)) YS) (by rfl)];show rdK (.int .u8 (.ofNat 0)) YS Sz (pt rr 0) _=true;refine Jz h (v:= .int .u8 (.ofNat (gR 1 st).1)) (st':=(gR 1 st).2) (fun he=>by rw [aCM 1 st he];exact⟨rfl,rfl⟩) (fun h0=>Zn st h0) (fun hz=>by rw [(Ri 1 st hz).1]) (fun h0 hz=>(Ri 1 st hz).2 h0) (Zp 1 st) fun S' h1 f=>?_;exact hK S' h1 f
theorem aBW (h:uH Sz W rr st) (hK:∀S',uH S' W rr (IB st).2->cM W Sz S' W->K (.tuple ⟨[.string ⟨⟨(IB st).1⟩⟩,.int .i64 (.ofNat (IB st).2.2)]⟩) S'=true):
 (X most (n+2)).C tJ [pt rr 0] Sz K=true:=by
 rw [aT (by rfl),NK];unfold BB;rw [Bl (g:=VI xX zS YT) (by rfl)];show rdK zS YT Sz (pt rr 0) _=true;refine Jz h (v:= .string ⟨⟨(IB st).1⟩⟩) (st':=(IB st).2) (fun he=>by rw [aE2 st he];exact⟨rfl,rfl⟩) (fun h0=>Zo st h0) (fun hz=>by rw [(aCL st hz).1]) (fun h0 hz=>(aCL st hz).2 h0) (aDF st) fun S' h1 f=>?_;exact hK S' h1 f
theorem Rj (h:uH Sz W rr st){m:Nat} (hm:m<9223372036854775808) (hK:∀S',uH S' W rr (fD m st).2->cM W Sz S' W->K (.tuple ⟨[.int .i64 (.ofNat (fD m st).1),.int .i64 (.ofNat (fD m st).2.2)]⟩) S'=true):
 (X most (n+2)).C mW [pt rr 0,.int .i64 (.ofNat m)] Sz K=true:=by
 rw [aT (by rfl),LM];unfold yY;rw [Ym rfl,Bl (g:=Rf) (by rfl)];have h1:=h.new (.cells [.int .i64 (.ofNat m)] 3 .exact);show lD (Sz.new (.cells [.int .i64 (.ofNat m)] 3 .exact)) Sz.n _=true;rw [iY aF];show(match Nat.blt m 9223372036854775808 with | true=>rdK zI (countP m) (Sz.new (.cells [.int .i64 (.ofNat m)] 3 .exact)) (pt rr 0) _ | false=>false)=true;rw [show Nat.blt m 9223372036854775808=true from Nat.ble_eq_true_of_le hm];simp only;refine Jz h1 (v:= .int .i64 (.ofNat (fD m st).1)) (st':=(fD m st).2) (fun he=>by rw [aE1 m st he];exact⟨rfl,rfl⟩) (fun h0=>countP_eq m st h0) (fun hz=>by rw [(aCK m st hz).1]) (fun h0 hz=>(aCK m st hz).2 h0) (aDE m st) fun S' h1 f=>?_;exact hK S' h1 ((cM.new W Sz _).trans f)
theorem aBX (h:uH Sz W rr st) (K:VK):(X most (n+1)).C rO [pt rr 0] Sz K=K (.int .i64 (.ofNat st.2)) Sz:=by
 rw [aT (by rfl),LN];unfold yZ;have hb:∀K:Value->Bool,aK PP .eql 100 (pt rr 0) (.pointer none) K=K zF:=fun K=>by kernel_rfl
 rw [hb,cA,aH,aB,Nat.zero_add,cB h.obj rfl]
theorem aBY (h:uH Sz W rr st) (hK:∀S' v,uH S' W rr (WV st).2->cM W Sz S' W->((v= .slice none 0 0/\(WV st).1=[])\/(v= .slice (some ⟨Sz.n,0,some 0⟩) (WV st).1.length (WV st).1.length/\S'.n=Sz.n+1/\S'.obj Sz.n=some (.cells ((WV st).1.map fun z:Nat=> .int .u64 (.ofNat z)) 57 (.grown []))))->
 K (.tuple ⟨[v,.int .i64 (.ofNat (WV st).2.2)]⟩) S'=true):(X most (n+2)).C tK [pt rr 0] Sz K=true:=by
 rw [aT (by rfl),NL];unfold BC;rw [Bl (g:=Fz) (by rfl)];show lD Sz rr _=true;rw [iY h.obj]
 show(match RK (.ofNat st.2) 0 with
  | true=>mJ st.1 fun n=>match Nat.blt n 9223372036854775808 with
   | true=>Jm st.1 n (fun vs rest=>eX Sz rr 0 [.string ⟨⟨rest⟩⟩] fun Sz=>aBI vs Sz _) (fun er=>eX Sz rr 0 [.string ⟨⟨[]⟩⟩,.int .i64 er] fun Sz=>_)
   | false=>false
  | false=>_)=true
 rw [EC];by_cases h0:st.2=0
 ·rw [decide_eq_true h0,cV]
  simp only;rw [show Nat.blt st.1.length 9223372036854775808=true from Nat.ble_eq_true_of_le h.len];simp only;have hle:=aDG st;unfold WV at hK hle;rw [if_neg (by simp [h0])]at hK hle;unfold Jm
  have lack:∀(er:Nat),(∀S' v,uH S' W rr ([],er)->cM W Sz S' W->((v= .slice none 0 0/\([]:List Nat)=[])\/(v= .slice (some ⟨Sz.n,0,some 0⟩) ([]:List Nat).length ([]:List Nat).length/\S'.n=Sz.n+1/\S'.obj Sz.n=some (.cells (([]:List Nat).map fun z:Nat=> .int .u64 (.ofNat z)) 57 (.grown []))))->
   K (.tuple ⟨[v,.int .i64 (.ofNat er)]⟩) S'=true)->∀K2:St->Bool,(∀S',K (.tuple ⟨[.slice none 0 0,.int .i64 (.ofNat er)]⟩) S'=true->K2 S'=true)->eX Sz rr 0 [.string ⟨⟨[]⟩⟩,.int .i64 (.ofNat er)] K2=true:=by
   intro er hK K2 hK2;rw [zY h.obj (by simp)];have:=h.turn ([],er) (by simp);have e:splice 0 [Value.string ⟨⟨[]⟩⟩,.int .i64 (.ofNat er)] [.string ⟨⟨st.1⟩⟩,.int .i64 (.ofNat st.2)]=[.string ⟨⟨[]⟩⟩,.int .i64 (.ofNat er)]:=by simp [splice]
   rw [e];exact hK2 _ (hK _ _ this.1 this.2 (.inl ⟨rfl,rfl⟩))
  by_cases h2:2<=st.1.length
  ·rw [ED h2]
   rw [if_pos h2]at hK hle;simp only;rw [fL,if_pos h2,eH,if_pos h2,AX];by_cases h3:be (st.1.take 2)<=1024
   ·rw [ED h3]
    rw [if_pos h3]at hK hle;simp only;rw [cV];by_cases h4:be (st.1.take 2)*8<=(st.1.drop 2).length
    ·rw [show Nat.ble (Nat.mul (be (st.1.take 2)) 8) (st.1.drop 2).length=true from ED h4]
     rw [if_pos h4]at hK hle;simp only;rw [Rb _ _ _ h4,zY h.obj (by simp)];have ht:=h.turn ((st.1.drop 2).drop (8*be (st.1.take 2)),0) hle;have e:splice 0 [Value.string ⟨⟨(st.1.drop 2).drop (8*be (st.1.take 2))⟩⟩] [.string ⟨⟨st.1⟩⟩,.int .i64 (.ofNat st.2)]=[.string ⟨⟨(st.1.drop 2).drop (8*be (st.1.take 2))⟩⟩,.int .i64 (.ofNat 0)]:=by simp [splice,h0]
     rw [e];unfold aBI;rw [cV];have hwl:(yW (st.1.drop 2) (be (st.1.take 2))).length=be (st.1.take 2):=by simp [yW,wN]
     rw [hwl];simp only [wN]at hK;generalize hN:be (st.1.take 2)=N at*;cases N with
     | zero=>
      exact hK _ _ ht.1 ht.2 (.inl ⟨rfl,rfl⟩)
     | succ N=>
      show qZ _ _ _=true;rw [gE];exact hK _ _ (ht.1.new _) (ht.2.trans (.new W _ _)) (.inr ⟨rfl,rfl,aF⟩)
    ·rw [show Nat.ble (Nat.mul (be (st.1.take 2)) 8) (st.1.drop 2).length=false from UD h4]
     rw [if_neg h4]at hK;simp only;exact lack 8 hK _ fun S' h=>h
   ·rw [UD h3]
    rw [if_neg h3]at hK;simp only;exact lack 40 hK _ fun S' h=>h
  ·rw [UD h2]
   rw [if_neg h2]at hK;simp only;exact lack 8 hK _ fun S' h=>h
 ·rw [decide_eq_false h0]
  rw [aE3 st h0]at hK;simp only;exact hK Sz _ h (.refl W Sz) (.inl ⟨rfl,rfl⟩)
end
theorem Zw (f:RS->List D×RS):∀(n:Nat) (st:RS),st.2≠0->kK f n st=([],st):=by
 intro n st h;cases n with
 | zero=>rfl
 | succ n=>simp only [kK];rw [if_pos h]
theorem cut{a b p q:List UInt8} (h:a++b=p++q) (_hq:q≠[]):(∃c,a=p++c/\c≠[])\/∃p',p=a++p'/\b=p'++q:=by
 rcases List.append_eq_append_iff.1 h with ⟨c,h1,h2⟩ | ⟨c,h1,h2⟩
 ·exact .inr ⟨c,h1,h2⟩
 ·by_cases hc:c=[]
  ·subst hc;exact .inr ⟨[],by simpa using h1.symm,by simpa using h2.symm⟩
  ·exact .inl ⟨c,h1,hc⟩
theorem aDI{k:Nat}{l:List UInt8} (h:8*k<=l.length):∀z∈Jn l k,z<18446744073709551616:=by
 intro z hz;unfold Jn at hz;simp only [List.mem_map,List.mem_range]at hz;obtain⟨i,hi,rfl⟩:=hz;have:=MH ((l.drop (8*i)).take 8);rw [List.length_take,List.length_drop,Nat.min_eq_left (by omega)]at this;have e:=p8;omega
theorem Rk (z:Nat): -9223372036854775808<=i64 z/\i64 z<9223372036854775808:=by unfold i64;omega
def ZB (Sz:St) (i:Nat):Prop:=∀vs e l,Sz.obj i≠some (.cells vs e (.grown l))
theorem ZB.same{Sz S':St}{i:Nat} (h:ZB Sz i) (e:S'.obj i=Sz.obj i):ZB S' i:=fun vs t l=>by rw [e];exact h vs t l
inductive GC (Sz:St):(Nat->Prop)->It->Value->D->Prop where
 | num {C:Nat->Prop} {z:Nat} (h:z<18446744073709551616):GC Sz C .num (.int .u64 (.ofNat z)) (.n z)
 | kind {C:Nat->Prop} {z:Nat} (h:z<256):GC Sz C .kind (.int .u8 (.ofNat z)) (.n z)
 | int {C:Nat->Prop} {z:Int} (h1: -9223372036854775808<=z) (h2:z<9223372036854775808):GC Sz C .int (.int .i64 z) (.n z)
 | is {C:Nat->Prop} {v:Bool}:GC Sz C .is (.bool v) (.b v)
 | text {C:Nat->Prop} {l:List UInt8} (h:l.length<=140737488355328):GC Sz C .text (.string ⟨⟨l⟩⟩) (.s l)
 | EG {C:Nat->Prop}:GC Sz C .nums zL (.l [])
 | nums {C:Nat->Prop} {b:Nat} {ns:List Nat} (hb:b<Sz.n) (hC:¬C b) (ho:Sz.obj b=some (.cells (ns.map fun z:Nat=> .int .u64 (.ofNat z)) 57 (.grown []))) (hz:∀z∈ns,z<18446744073709551616) (hN:ns.length<=1024):GC Sz C .nums (.slice (some ⟨b,0,some 0⟩) ns.length ns.length) (.l (ns.map fun z:Nat=>[.n (z:Int)]))
 | empty {C:Nat->Prop} {its:List It}:GC Sz C (.list its) zL (.l [])
 | row {C:Nat->Prop} {its:List It} {b:Nat} {vs:List Value} {e:TypeId} {olds:List Nat} {es:List (List D)} (hb:b<Sz.n) (hC:¬C b) (ho:Sz.obj b=some (.cells vs e (.grown olds))) (hold:∀i∈olds,i<Sz.n/\¬C i/\i≠b/\ZB Sz i) (hl:vs.length=es.length*its.length) (hd:∀ds∈es,ds.length=its.length) (hN:es.length<=1048576)
  (hr:∀(k:Nat) (ds:List D) (j:Nat) (it:It) (v:Value) (d:D),es[k]? =some ds->its[j]? =some it->vs[k*its.length+j]? =some v->ds[j]? =some d->GC Sz (fun i=>C i\/i=b\/i∈olds) it v d):GC Sz C (.list its) (.slice (some ⟨b,0,some 0⟩) es.length es.length) (.l es)
theorem GC.fr{Sz S':St}{C C':Nat->Prop} (f:cM C Sz S' C'){it:It}{v:Value}{d:D} (h:GC Sz C it v d):GC S' C' it v d:=by
 induction h generalizing C' with
 | num h=>exact .num h
 | kind h=>exact .kind h
 | int h1 h2=>exact .int h1 h2
 | is=>exact .is
 | text h=>exact .text h
 | EG=>exact .EG
 | nums hb hC ho hz hN=>
  refine .nums (Nat.lt_of_lt_of_le hb f.n) (fun h=>?_) (by rw [f.same _ hb hC];exact ho) hz hN;rcases f.sub _ h with h | h
  ·exact hC h
  ·omega
 | empty=>exact .empty
 | @row C its b vs e olds es hb hC ho hold hl hd hN _ ih=>
  refine .row (olds:=olds) (Nat.lt_of_lt_of_le hb f.n) (fun h=>?_) (by rw [f.same _ hb hC];exact ho) (fun i hi=>?_) hl hd hN fun k ds j it v d a p c g=>ih k ds j it v d a p c g ⟨f.n,fun i hi hn=>f.same i hi fun h=>hn (.inl h),fun i hi=>?_⟩
  ·rcases f.sub _ h with h | h
   ·exact hC h
   ·omega
  ·obtain⟨h1,h2,h3,h4⟩:=hold i hi
   refine⟨Nat.lt_of_lt_of_le h1 f.n,fun h=>?_,h3,h4.same (f.same i h1 h2)⟩;rcases f.sub _ h with h | h
   ·exact h2 h
   ·omega
  ·rcases hi with hi | hi | hi
   ·rcases f.sub _ hi with h | h
    ·exact .inl (.inl h)
    ·exact .inr h
   ·exact .inl (.inr (.inl hi))
   ·exact .inl (.inr (.inr hi))
theorem GC.rd{Sz:St}{C:Nat->Prop}{it:It}{v:Value}{d:D} (h:GC Sz C it v d):Rd Sz C it v d:=by
 induction h with
 | num h=>exact .num h
 | kind h=>exact .kind h
 | int h1 h2=>exact .int h1 h2
 | is=>exact .is
 | text h=>exact .text h
 | EG=>exact .nums .empty
 | @nums C b ns hb hC ho hz hN=>
  refine .nums (.row rfl hb hC ho (.inr (.inr ⟨_,rfl⟩)) (by simp) (by simp) (fun ds hd=>?_) (by omega) (Nat.le_refl _) fun k ds j it v d a b c g=>?_)
  ·obtain⟨z,_,rfl⟩:=List.mem_map.1 hd;rfl
  ·match j,b with
   | 0,b=>
    injection b with b;subst b;have hk:k<ns.length:=by simpa using(List.getElem?_eq_some_iff.1 a).1
    rw [List.getElem?_map,List.getElem?_eq_getElem hk]at a;injection a with a;subst a;have e:0+k*[It.num].length+0=k:=by simp
    rw [e,List.getElem?_map,List.getElem?_eq_getElem hk]at c;injection c with c;subst c;injection g with g;subst g;exact .num (hz _ (List.getElem_mem hk))
   | j+1,b=>cases b
 | empty=>exact .empty
 | row hb hC ho hold hl hd hN _ ih=>
  refine .row rfl hb hC ho (.inr (.inr ⟨_,rfl⟩)) rfl (by omega) hd (by omega) (Nat.le_refl _) fun k ds q it u d a b c g=>?_;rw [Nat.zero_add]at c;exact(ih k ds q it u d a b c g).fr ⟨Nat.le_refl _,fun _ _ _=>rfl,fun i hi=> .inl (.inl hi)⟩
theorem GC.one{Sz:St}{C:Nat->Prop}{it:It}{v:Value}{d:D} (h:GC Sz C it v d):oneCell v=true:=h.rd.one
variable{most:Nat}
theorem uX:lT PP 103 "consistory/save.number" =some pZ:=by kernel_rfl
theorem GB:lT PP 103 "consistory/save.kind" =some sX:=by kernel_rfl
theorem gT:lT PP 103 "consistory/save.text" =some sY:=by kernel_rfl
theorem lF:lT PP 103 "consistory/save.nums" =some sZ:=by kernel_rfl
theorem ZA:lT PP 103 "consistory/save.many" =some yR:=by kernel_rfl
theorem sE:lT PP 103 "consistory/save.is" =some xC:=by kernel_rfl
theorem Ka:lT PP 103 "consistory/save.wrong" =some wO:=by kernel_rfl
structure Own (Sz:St) (W:Nat->Prop) (rr b:Nat) (e:TypeId) (gr:Bool) (vs:List Value):Prop where
 PK:W b
 ne:b≠rr
 obj:∃ck,Sz.obj b=some (.cells vs e ck)/\match gr with | true=>∃olds,ck= .grown olds/\∀i∈olds,W i/\i≠rr/\i≠b/\ZB Sz i | false=>ck= .exact
theorem Own.rd{Sz:St}{W:Nat->Prop}{rr b:Nat}{e:TypeId}{gr:Bool}{vs:List Value} (h:Own Sz W rr b e gr vs):∃ck,Sz.obj b=some (.cells vs e ck)/\Wr ck:=by
 obtain⟨ck,h1,h2⟩:=h.obj;cases gr with
 | true=>obtain⟨olds,rfl,_⟩:=h2;exact⟨_,h1,.inr (.inr ⟨_,rfl⟩)⟩
 | false=>have h2:ck= .exact:=h2;subst h2;exact⟨_,h1,.inr (.inl rfl)⟩
theorem Own.ld{Sz:St}{W:Nat->Prop}{rr b:Nat}{e:TypeId}{gr:Bool}{vs:List Value} (h:Own Sz W rr b e gr vs){q:Nat}{v:Value} (hv:vs[q]? =some v) (K:VK):aN (pt b q) Sz K=K v Sz:=by
 obtain⟨ck,h1,_⟩:=h.rd;exact cB h1 hv K
theorem Own.keep{Sz S':St}{W:Nat->Prop}{rr b:Nat}{e:TypeId}{gr:Bool}{vs:List Value} (h:Own Sz W rr b e gr vs) (ho:S'.obj b=Sz.obj b) (hg:∀i,W i->i≠rr->i≠b->ZB Sz i->ZB S' i):Own S' W rr b e gr vs:=by
 obtain⟨ck,h1,h2⟩:=h.obj;refine⟨h.PK,h.ne,ck,by rw [ho];exact h1,?_⟩;cases gr with
 | false=>exact h2
 | true=>
  obtain⟨olds,h3,h4⟩:=h2;exact⟨olds,h3,fun i hi=>⟨(h4 i hi).1,(h4 i hi).2.1,(h4 i hi).2.2.1,hg i (h4 i hi).1 (h4 i hi).2.1 (h4 i hi).2.2.1 (h4 i hi).2.2.2⟩⟩
theorem Da:∀(olds:List Nat) (h:Tr fS) (i:Nat),(olds.foldl (fun h i=>h.put i .dead) h).get i=if i∈olds then some .dead else h.get i:=by
 intro olds;induction olds with
 | nil=>intro h i;simp
 | cons a olds ih=>
  intro h i;rw [List.foldl_cons,ih,get_put];by_cases h1:i∈olds
  ·simp [h1]
  ·by_cases h2:i=a
   ·simp [h2]
   ·simp [h1,h2]
theorem set_self{vs:List Value}{q:Nat}{v:Value} (h:vs[q]? =some v):vs.set q v=vs:=by
 apply List.ext_getElem?;intro j;rw [List.getElem?_set];split
 ·rename_i hj;subst hj
  have:=(List.getElem?_eq_some_iff.1 h).1;rw [if_pos this,h]
 ·rfl
theorem ZC{vs:List Value}{q:Nat}{v:Value} (hq:q<vs.length):splice q [v] vs=vs.set q v:=by
 unfold splice;rw [List.set_eq_take_append_cons_drop,if_pos hq];simp
theorem Own.st{Sz:St}{W:Nat->Prop}{rr b:Nat}{e:TypeId}{gr:Bool}{vs:List Value}{s:RS} (h:Own Sz W rr b e gr vs) (he:uH Sz W rr s){q:Nat}{v:Value} (hq:q<vs.length) (h1:oneCell v=true):
 ∃S',(∀k:St->Bool,cQ 1 (pt b q) v Sz k=k S')/\Own S' W rr b e gr (vs.set q v)/\uH S' W rr s/\cM W Sz S' W:=by
 obtain⟨ck,h2,h3⟩:=h.obj;cases gr with
 | false=>
  have h3:ck= .exact:=h3;subst h3;exact⟨_,fun k=>fI h2 hq h1 k,⟨h.PK,h.ne,_,aX,rfl⟩,⟨he.PK,he.lt,by rw [aJ (Ne.symm h.ne)];exact he.obj,he.len⟩,⟨Nat.le_refl _,fun i _ hi=>aJ fun c=>hi (c▸h.PK),fun _ h=> .inl h⟩⟩
 | true=>
  obtain⟨olds,rfl,h4⟩:=h3
  have hst:∀k:St->Bool,cQ 1 (pt b q) v Sz k=match asIs [v] (vs.drop q)with
   | true=>k Sz
   | false=>k ⟨(olds.foldl (fun h i=>h.put i .dead) Sz.h).put b (.cells (vs.set q v) e (.grown [])),Sz.n⟩:=by
   intro k;show iB v (fun cs=>mJ cs fun m=>match Nat.beq m 1 with | true=>eX Sz b q cs k | false=>false)=_;rw [lW h1,cV];show eX Sz b q [v] k=_;unfold eX;rw [iY h2];show oE q vs _=_;rw [eH,if_pos (by omega)];cases asIs [v] (vs.drop q)with
   | true=>rfl
   | false=>
    simp only;rw [gS,if_pos (by simp;omega),XS,FP,ZC hq];rfl
  cases hA:asIs [v] (vs.drop q)with
  | true=>
   have h5:=(Cs hA).2 0 v rfl;rw [List.getElem?_drop,Nat.add_zero]at h5;rw [set_self h5];exact⟨Sz,fun k=>by rw [hst,hA],h,he,.refl W Sz⟩
  | false=>
   have ho:∀i,(⟨(olds.foldl (fun h i=>h.put i .dead) Sz.h).put b (.cells (vs.set q v) e (.grown [])),Sz.n⟩:St).obj i=if i=b then some (.cells (vs.set q v) e (.grown []))else if i∈olds then some .dead else Sz.obj i:=by
    intro i;show((olds.foldl (fun h i=>h.put i .dead) Sz.h).put b (.cells (vs.set q v) e (.grown []))).get i=_;rw [get_put,Da];rfl
   refine⟨⟨(olds.foldl (fun h i=>h.put i .dead) Sz.h).put b (.cells (vs.set q v) e (.grown [])),Sz.n⟩,fun k=>by rw [hst,hA],⟨h.PK,h.ne,.grown [],by rw [ho,if_pos rfl],[],rfl,fun i hi=>nomatch hi⟩,⟨he.PK,he.lt,?_,he.len⟩,⟨Nat.le_refl _,fun i _ hi=>?_,fun _ h=> .inl h⟩⟩
   ·rw [ho,if_neg (Ne.symm h.ne),if_neg (show ¬rr∈olds from fun c=>(h4 rr c).2.1 rfl)];exact he.obj
   ·rw [ho,if_neg (show ¬i=b from fun c=>hi (c▸h.PK)),if_neg (show ¬i∈olds from fun c=>hi (h4 i c).1)]
section
variable{Sz:St}{W:Nat->Prop}{rr:Nat}{st:RS}{n:Nat}{K:VK}
theorem ZD (h:uH Sz W rr st) (b q:Nat) (hK:∀S',uH S' W rr (gR 8 st).2->cM W Sz S' W->cQ 1 (pt b q) (.int .u64 (.ofNat (gR 8 st).1)) S' (fun Sz=>K (.tuple ⟨[]⟩) Sz)=true):
 (X most (n+3)).C pZ [.agg ⟨[pt rr 0]⟩,pt b q] Sz K=true:=by
 rw [aT (by rfl),PM];unfold CG;rw [eI rfl,aB,Nat.zero_add,cB aF rfl];refine aE4 (n:=n) (h.new _) fun S' h1 f=>?_;exact hK S' h1 ((cM.new W Sz _).trans f)
theorem Zq (h:uH Sz W rr st) (b q:Nat) (hK:∀S',uH S' W rr (gR 1 st).2->cM W Sz S' W->cQ 1 (pt b q) (.int .u8 (.ofNat (gR 1 st).1)) S' (fun Sz=>K (.tuple ⟨[]⟩) Sz)=true):
 (X most (n+3)).C sX [.agg ⟨[pt rr 0]⟩,pt b q] Sz K=true:=by
 rw [aT (by rfl),VJ];unfold GT;rw [eI rfl,aB,Nat.zero_add,cB aF rfl];refine aBV (n:=n) (h.new _) fun S' h1 f=>?_;exact hK S' h1 ((cM.new W Sz _).trans f)
theorem Zr (h:uH Sz W rr st) (b q:Nat) (hK:∀S',uH S' W rr (IB st).2->cM W Sz S' W->cQ 1 (pt b q) (.string ⟨⟨(IB st).1⟩⟩) S' (fun Sz=>K (.tuple ⟨[]⟩) Sz)=true):
 (X most (n+3)).C sY [.agg ⟨[pt rr 0]⟩,pt b q] Sz K=true:=by
 rw [aT (by rfl),VL];unfold GU;rw [eI rfl,aB,Nat.zero_add,cB aF rfl];refine aBW (n:=n) (h.new _) fun S' h1 f=>?_;exact hK S' h1 ((cM.new W Sz _).trans f)
theorem aDH (h:uH Sz W rr st) (b q:Nat) (hK:∀S',uH S' W rr (fD 1 st).2->cM W Sz S' W->cQ 1 (pt b q) (.bool (decide ((fD 1 st).1=1))) S' (fun Sz=>K (.tuple ⟨[]⟩) Sz)=true):
 (X most (n+3)).C xC [.agg ⟨[pt rr 0]⟩,pt b q] Sz K=true:=by
 rw [aT (by rfl),Bm];unfold MI;rw [eI rfl,aB,Nat.zero_add,cB aF rfl];refine Rj (n:=n) (h.new _) (by omega) fun S' h1 f=>?_;rw [fV,fH,fV,jL,fH,rB];exact hK S' h1 ((cM.new W Sz _).trans f)
theorem Zs (h:uH Sz W rr st) (v:Value) (hK:∀S',uH S' W rr (fD 1048576 st).2->cM W Sz S' W->K (.int .i64 (.ofNat (fD 1048576 st).1)) S'=true):
 (X most (n+3)).C yR [.agg ⟨[pt rr 0]⟩,v] Sz K=true:=by
 rw [aT (by rfl),VM];unfold GV;rw [eI rfl,aB,Nat.zero_add,cB aF rfl];refine Rj (n:=n) (h.new _) (by omega) fun S' h1 f=>?_;exact hK S' h1 ((cM.new W Sz _).trans f)
theorem Us (h:uH Sz W rr st) (hK:∀S',uH S' W rr st->cM W Sz S' W->K (.int .i64 (.ofNat st.2)) S'=true):(X most (n+2)).C wO [.agg ⟨[pt rr 0]⟩] Sz K=true:=by
 rw [aT (by rfl),SC];unfold EE;rw [eI rfl,aB,Nat.zero_add,cB aF rfl,aBX (n:=n) (h.new _)];exact hK _ (h.new _) (.new W Sz _)
theorem aBZ{Sz S':St}{C:Nat->Prop}{ns:List Nat}{v:Value} (hC:¬C Sz.n) (hz:∀z∈ns,z<18446744073709551616) (hN:ns.length<=1024)
 (h:(v= .slice none 0 0/\ns=[])\/(v= .slice (some ⟨Sz.n,0,some 0⟩) ns.length ns.length/\S'.n=Sz.n+1/\S'.obj Sz.n=some (.cells (ns.map fun z:Nat=> .int .u64 (.ofNat z)) 57 (.grown [])))):GC S' C .nums v (.l (ns.map fun z:Nat=>[.n (z:Int)])):=by
 rcases h with ⟨rfl,rfl⟩ | ⟨rfl,h1,h2⟩
 ·exact .EG
 ·exact .nums (by omega) hC h2 hz hN
theorem Zt (st:RS):(∀z∈(WV st).1,z<18446744073709551616)/\(WV st).1.length<=1024:=by
 unfold WV;split
 ·exact⟨(fun z h=>nomatch h),by simp⟩
 ·split
  ·split
   ·split
    ·rename_i h1 h2
     exact⟨aDI (by omega),by rw [wN];exact h1⟩
    ·exact⟨(fun z h=>nomatch h),by simp⟩
   ·exact⟨(fun z h=>nomatch h),by simp⟩
  ·exact⟨(fun z h=>nomatch h),by simp⟩
theorem Zu{C:Nat->Prop} (h:uH Sz W rr st) (hC:∀i,C i->i<Sz.n) (b q:Nat) (hK:∀S' v,uH S' W rr (WV st).2->cM W Sz S' W->GC S' C .nums v (.l ((WV st).1.map fun z:Nat=>[.n (z:Int)]))->cQ 1 (pt b q) v S' (fun Sz=>K (.tuple ⟨[]⟩) Sz)=true):
 (X most (n+3)).C sZ [.agg ⟨[pt rr 0]⟩,pt b q] Sz K=true:=by
 rw [aT (by rfl),VN];unfold GW;rw [eI rfl,aB,Nat.zero_add,cB aF rfl];refine aBY (n:=n) (h.new _) fun S' v h1 f h2=>?_;have hn:¬C (Sz.new (.cells [pt rr 0] 103 .exact)).n:=fun c=>by have:=hC _ c;rw [kM]at this;omega
 exact hK S' v h1 ((cM.new W Sz _).trans f) (aBZ hn (Zt st).1 (Zt st).2 h2)
end
variable{most:Nat}
def jM:It->Value
 | .num=> .int .u64 (.ofNat 0)
 | .kind=> .int .u8 (.ofNat 0)
 | .int=> .int .i64 (.ofNat 0)
 | .is=> .bool false
 | .text=> .string ⟨⟨[]⟩⟩
 | .nums=> .slice none 0 0
 | .list _=> .slice none 0 0
structure GE (Sz:St) (W C:Nat->Prop) (rr:Nat) (st:RS) (b o:Nat) (e:TypeId) (gr:Bool) (vs:List Value) (all:List It) (ds:List D) (j:Nat) (its:List It) (K:VK):Prop where
 eye:uH Sz W rr st
 own:Own Sz W rr b e gr vs
 sub:∀i,W i->C i
 lt:∀i,C i->i<Sz.n
 le:o+all.length<=vs.length
 dl:ds.length=j
 jle:j<=all.length
 rest:its=all.drop j
 done:∀(k:Nat) (it:It) (v:Value) (d:D),all[k]? =some it->vs[o+k]? =some v->ds[k]? =some d->GC Sz C it v d
 zero:∀(k:Nat) (it:It),j<=k->all[k]? =some it->vs[o+k]? =some (jM it)
 hK:∀v S' vs',Own S' W rr b e gr vs'->vs'.length=vs.length->(∀q,q<o\/o+all.length<=q->vs'[q]? =vs[q]?)->(ds++(bX its st).1).length=all.length->
  (∀(k:Nat) (it:It) (v:Value) (d:D),all[k]? =some it->vs'[o+k]? =some v->(ds++(bX its st).1)[k]? =some d->GC S' C it v d)->uH S' W rr (bX its st).2->cM W Sz S' W->K v S'=true
theorem cM.up{W C:Nat->Prop}{Sz S':St} (f:cM W Sz S' W) (hs:∀i,W i->C i):cM C Sz S' C:=⟨f.n,fun i hi hc=>f.same i hi fun w=>hc (hs i w),fun _ h=> .inl h⟩
theorem uH.self{Sz:St}{W:Nat->Prop}{rr:Nat}{st:RS} (h:uH Sz W rr st):uH Sz (fun i=>i=rr) rr st:=⟨rfl,fun i hi=>by rw [hi];exact h.WU,h.obj,h.len⟩
theorem uH.back{Sz S':St}{W:Nat->Prop}{rr:Nat}{st st':RS} (h:uH Sz W rr st) (h':uH S' (fun i=>i=rr) rr st') (hn:Sz.n<=S'.n):uH S' W rr st':=⟨h.PK,fun i hi=>Nat.lt_of_lt_of_le (h.lt i hi) hn,h'.obj,h'.len⟩
section
variable{Sz:St}{W C:Nat->Prop}{rr:Nat}{st:RS}{b o:Nat}{e:TypeId}{gr:Bool}{vs:List Value}{all:List It}{ds:List D}{j:Nat}{it:It}{its:List It}{K K0:VK}{n:Nat}
theorem GE.read (g:GE Sz W C rr st b o e gr vs all ds j its K){S1z:St}{st1:RS} (e1:uH S1z (fun i=>i=rr) rr st1) (f1:cM (fun i=>i=rr) Sz S1z (fun i=>i=rr)):Own S1z W rr b e gr vs/\uH S1z W rr st1/\cM W Sz S1z W:=
 ⟨g.own.keep (f1.same b (g.eye.lt b g.own.PK) g.own.ne) (fun i hi h1 _ hN=>hN.same (f1.same i (g.eye.lt i hi) h1)),g.eye.back e1 f1.n,f1.up fun i hi=>by rw [hi];exact g.eye.PK⟩
theorem GE.at (g:GE Sz W C rr st b o e gr vs all ds j (it::its) K):all[j]? =some it/\its=all.drop (j+1)/\j<all.length:=by
 have h:=g.rest
 have hj:j<all.length:=by
  rcases Nat.lt_or_ge j all.length with h1 | h1
  ·exact h1
  ·rw [List.drop_of_length_le h1]at h;cases h
 rw [List.drop_eq_getElem_cons hj]at h;injection h with h1 h2;exact⟨by rw [List.getElem?_eq_getElem hj,h1],h2,hj⟩
theorem GE.next (g:GE Sz W C rr st b o e gr vs all ds j (it::its) K){S':St}{v':Value} (own':Own S' W rr b e gr (vs.set (o+j) v')) (r:GC S' C it v' (dec it st).1) (e':uH S' W rr (dec it st).2) (f:cM W Sz S' W):
 GE S' W C rr (dec it st).2 b o e gr (vs.set (o+j) v') all (ds++[(dec it st).1]) (j+1) its K:=by
 obtain⟨h1,h2,h3⟩:=g.at;have hle:=g.le;refine⟨e',own',g.sub,fun i hi=>Nat.lt_of_lt_of_le (g.lt i hi) f.n,by rw [List.length_set];exact hle,by simp [g.dl],h3,h2,fun k it2 v d a p q=>?_,fun k it2 hk a=>?_,fun v S2z vs2 o2 l2 s2 n2 r2 e2 f2=>?_⟩
 ·rcases Nat.lt_trichotomy k j with hk | hk | hk
  ·rw [List.getElem?_set_ne (by omega)]at p
   rw [List.getElem?_append_left (by rw [g.dl];exact hk)]at q;exact(g.done k it2 v d a p q).fr (f.up g.sub)
  ·subst hk
   rw [h1]at a;injection a with a;subst a;rw [List.getElem?_set_self (by omega)]at p;injection p with p;subst p;rw [List.getElem?_append_right (by rw [g.dl];exact Nat.le_refl _),g.dl,Nat.sub_self]at q;injection q with q;subst q;exact r
  ·rw [List.getElem?_eq_none (by simp [g.dl];omega)]at q
   cases q
 ·rw [List.getElem?_set_ne (by omega)]
  exact g.zero k it2 (by omega) a
 ·have hd:ds++(bX (it::its) st).1=ds++[(dec it st).1]++(bX its (dec it st).2).1:=by simp [bX]
  refine g.hK v S2z vs2 o2 (by rw [l2,List.length_set]) (fun q hq=>?_) (by rw [hd];exact n2) (by rw [hd];exact r2) e2 (f.trans f2);rw [s2 q hq,List.getElem?_set_ne (by omega)]
theorem GE.fin (g:GE Sz W C rr st b o e gr vs all ds j [] K) (v:Value):K v Sz=true:=by
 have h:=g.rest
 have hj:all.length<=j:=by
  rcases Nat.lt_or_ge j all.length with h1 | h1
  ·rw [List.drop_eq_getElem_cons h1]at h;cases h
  ·exact h1
 have hd:ds++(bX [] st).1=ds:=by simp [bX]
 have:=g.jle;exact g.hK v Sz vs g.own rfl (fun _ _=>rfl) (by rw [hd,g.dl];omega) (by rw [hd];exact g.done) g.eye (.refl W Sz)
theorem GE.put (g:GE Sz W C rr st b o e gr vs all ds j (it::its) K){S1z:St} (e1:uH S1z (fun i=>i=rr) rr (dec it st).2) (f1:cM (fun i=>i=rr) Sz S1z (fun i=>i=rr)){v':Value} (r:GC S1z C it v' (dec it st).1):
 ∃S2z,(∀k:St->Bool,cQ 1 (pt b (o+j)) v' S1z k=k S2z)/\GE S2z W C rr (dec it st).2 b o e gr (vs.set (o+j) v') all (ds++[(dec it st).1]) (j+1) its K:=by
 obtain⟨h1,h2,h3⟩:=g.read e1 f1;obtain⟨_,_,hj⟩:=g.at;have hle:=g.le;obtain⟨S2z,k1,k2,k3,k4⟩:=h1.st h2 (q:=o+j) (v:=v') (by omega) r.one;exact⟨S2z,k1,g.next k2 (r.fr (k4.up g.sub)) k3 (h3.trans k4)⟩
theorem PN (g:GE Sz W C rr st b o e gr vs all ds j (.num::its) K) (next:∀v S' st' vs' ds',GE S' W C rr st' b o e gr vs' all ds' (j+1) its K->K0 v S'=true):
 (X most (n+3)).C pZ [.agg ⟨[pt rr 0]⟩,pt b (o+j)] Sz K0=true:=by
 refine ZD (n:=n) g.eye.self b (o+j) fun S1z e1 f1=>?_
 have hz:(gR 8 st).1<18446744073709551616:=by
  unfold gR;split
  ·simp
  ·split
   ·rename_i h
    have:=MH (st.1.take 8);rw [List.length_take,Nat.min_eq_left h,p8]at this;exact this
   ·simp
 obtain⟨S2z,k1,g2⟩:=g.put (v':= .int .u64 (.ofNat (gR 8 st).1)) e1 f1 (.num hz);rw [k1];exact next _ _ _ _ _ g2
theorem ZE (g:GE Sz W C rr st b o e gr vs all ds j (.kind::its) K) (next:∀v S' st' vs' ds',GE S' W C rr st' b o e gr vs' all ds' (j+1) its K->K0 v S'=true):
 (X most (n+3)).C sX [.agg ⟨[pt rr 0]⟩,pt b (o+j)] Sz K0=true:=by
 refine Zq (n:=n) g.eye.self b (o+j) fun S1z e1 f1=>?_
 have hz:(gR 1 st).1<256:=by
  unfold gR;split
  ·simp
  ·split
   ·rename_i h
    have:=MH (st.1.take 1);rw [List.length_take,Nat.min_eq_left h]at this;exact this
   ·simp
 obtain⟨S2z,k1,g2⟩:=g.put (v':= .int .u8 (.ofNat (gR 1 st).1)) e1 f1 (.kind hz);rw [k1];exact next _ _ _ _ _ g2
theorem JD (g:GE Sz W C rr st b o e gr vs all ds j (.is::its) K) (next:∀v S' st' vs' ds',GE S' W C rr st' b o e gr vs' all ds' (j+1) its K->K0 v S'=true):
 (X most (n+3)).C xC [.agg ⟨[pt rr 0]⟩,pt b (o+j)] Sz K0=true:=by
 refine aDH (n:=n) g.eye.self b (o+j) fun S1z e1 f1=>?_;obtain⟨S2z,k1,g2⟩:=g.put (v':= .bool (decide ((fD 1 st).1=1))) e1 f1 .is;rw [k1];exact next _ _ _ _ _ g2
theorem Gc (st:RS):(IB st).1.length<=2048:=by
 unfold IB;split
 ·simp
 ·split
  ·split
   ·split
    ·simp only [List.length_take];omega
    ·simp
   ·simp
  ·simp
theorem qP (g:GE Sz W C rr st b o e gr vs all ds j (.text::its) K) (next:∀v S' st' vs' ds',GE S' W C rr st' b o e gr vs' all ds' (j+1) its K->K0 v S'=true):
 (X most (n+3)).C sY [.agg ⟨[pt rr 0]⟩,pt b (o+j)] Sz K0=true:=by
 refine Zr (n:=n) g.eye.self b (o+j) fun S1z e1 f1=>?_;have:=Gc st;obtain⟨S2z,k1,g2⟩:=g.put (v':= .string ⟨⟨(IB st).1⟩⟩) e1 f1 (.text (by omega));rw [k1];exact next _ _ _ _ _ g2
theorem wP (g:GE Sz W C rr st b o e gr vs all ds j (.nums::its) K) (next:∀v S' st' vs' ds',GE S' W C rr st' b o e gr vs' all ds' (j+1) its K->K0 v S'=true):
 (X most (n+3)).C sZ [.agg ⟨[pt rr 0]⟩,pt b (o+j)] Sz K0=true:=by
 refine Zu (n:=n) g.eye.self g.lt b (o+j) fun S1z v e1 f1 r=>?_;obtain⟨S2z,k1,g2⟩:=g.put (v':=v) e1 f1 r;rw [k1];exact next _ _ _ _ _ g2
theorem Db (x:Nat):xL .i64 (.ofNat x)=i64 x:=by rw [uO,IntKind.wrap_i64];rfl
theorem Kb{sb k j0:Nat} (hk:k<=100) (hnext:∀v S' st' vs' ds',GE S' W C rr st' b o e gr vs' all ds' (j0+k) its K->K0 v S'=true):
 ∀(r i m:Nat) (Sz:St) (st:RS) (vs:List Value) (ds:List D),i+r=k->r<m->GE Sz W C rr st b o e gr vs all ds (j0+i) (List.replicate r .int++its) K->Sz.obj sb=some (.cells ((List.range k).map fun i=>pt b (o+(j0+i))) 146 .exact)->¬W sb->sb<Sz.n->
  pK (X most (n+3)) m (eye rr) (.slice (some ⟨sb,0,none⟩) k k) (.int .i64 (.ofNat k)) (.int .i64 (.ofNat i)) Sz K0=true:=by
 intro r;induction r with
 | zero=>
  intro i m Sz st vs ds hi hm g hso hsW hsn;obtain⟨m,rfl⟩:=Nat.exists_eq_succ_of_ne_zero (show m≠0 by omega);rw [rD];unfold nM;rw [aG,iX,if_neg (by simp;omega)];have:i=k:=by omega
  subst this;exact hnext _ _ _ _ _ g
 | succ r ih=>
  intro i m Sz st vs ds hi hm g hso hsW hsn;obtain⟨m,rfl⟩:=Nat.exists_eq_succ_of_ne_zero (show m≠0 by omega);rw [rD];unfold nM;rw [aG,iX,if_pos (by simp;omega),Fd 1 sb 0 i _ _ (by omega)];rw [cB hso (v:=pt b (o+(j0+i))) (by rw [List.getElem?_map];simp [show i<k by omega]),aH];have g':GE Sz W C rr st b o e gr vs all ds (j0+i) (.int::(List.replicate r .int++its)) K:=g;obtain⟨h1,_,_⟩:=g'.at;rw [g.own.ld (g.zero (j0+i) .int (Nat.le_refl _) h1)]
  have hz:∀K:Value->Bool,AW .u64 (jM .int) K=K (.int .u64 (.ofNat 0)):=fun K=>by
   show AW .u64 zI K=_;rw [oP,wrap_u64 (by omega)]
  rw [hz,eB,fI aF (by simp) rfl,cX uX];have hnr:¬(Sz.n=rr):=fun c=>by have:=g.eye.WU;omega
  have hne:rr≠Sz.n:=fun c=>hnr c.symm
  have e1:uH ((Sz.new (.cells [.int .u64 (.ofNat 0)] 57 .exact)).set Sz.n (.cells [.int .u64 (.ofNat 0)] 57 .exact)) (fun i=>i=rr) rr st:=
   ⟨rfl,fun i hi=>by rw [hi];exact Nat.lt_succ_of_lt g.eye.WU,by rw [aJ hne,aL hne];exact g.eye.obj,g.eye.len⟩
  have f1:cM (fun i=>i=rr) Sz ((Sz.new (.cells [.int .u64 (.ofNat 0)] 57 .exact)).set Sz.n (.cells [.int .u64 (.ofNat 0)] 57 .exact)) (fun i=>i=rr):=(cM.new _ Sz _).PO (Nat.le_refl _) _;refine ZD (n:=n) e1 Sz.n 0 fun S1z e2 f2=>?_
  have ho1:S1z.obj Sz.n=some (.cells [.int .u64 (.ofNat 0)] 57 .exact):=by
   rw [f2.same Sz.n (by rw [gG,kM];omega) hnr,aX]
  rw [fI ho1 (by simp) rfl,cB aX rfl,oP,Db,aH]
  have e3:uH (S1z.set Sz.n (.cells ([Value.int .u64 (.ofNat 0)].set 0 (.int .u64 (.ofNat (gR 8 st).1))) 57 .exact)) (fun i=>i=rr) rr (gR 8 st).2:=
   ⟨rfl,e2.lt,by rw [aJ hne];exact e2.obj,e2.len⟩
  have f3:=(f1.trans f2).PO (Nat.le_refl Sz.n) (.cells ([Value.int .u64 (.ofNat 0)].set 0 (.int .u64 (.ofNat (gR 8 st).1))) 57 .exact);obtain⟨S2z,k1,g2⟩:=g'.put (v':= .int .i64 (i64 (gR 8 st).1)) e3 f3 (.int (Rk _).1 (Rk _).2);rw [k1,aP _ _ _ _ (by omega)];have hW:=(g2.eye.lt)
  have f4:cM W Sz S2z W:=by
   obtain⟨q1,q2,q3⟩:=g.read e3 f3;obtain⟨S3z,c1,c2,c3,c4⟩:=q1.st q2 (q:=o+(j0+i)) (v:= .int .i64 (i64 (gR 8 st).1)) (by have:=g.le;have:=g'.at.2.2;omega) rfl
   have:S2z=S3z:=by
    by_cases h:S2z=S3z
    ·exact h
    ·have a1:=k1 (fun s=> @decide (s=S2z) (Classical.propDecidable _))
     have a2:=c1 (fun s=> @decide (s=S2z) (Classical.propDecidable _));rw [a1]at a2;simp at a2;exact absurd a2.symm h
   rw [this];exact q3.trans c4
  exact ih (i+1) m S2z _ _ _ (by omega) (by omega) g2 (by rw [f4.same sb hsn hsW];exact hso) hsW (Nat.lt_of_lt_of_le hsn f4.n)
theorem jN (hm:1024<most) (k:Nat) (hk:k<=100) (g:GE Sz W C rr st b o e gr vs all ds j (List.replicate k .int++its) K) (next:∀v S' st' vs' ds',GE S' W C rr st' b o e gr vs' all ds' (j+k) its K->K0 v S'=true):
 (X most (n+4)).C eF [eye rr,.slice (some ⟨Sz.n,0,none⟩) k k] (Sz.new (.cells ((List.range k).map fun i=>pt b (o+(j+i))) 146 .exact)) K0=true:=by
 rw [aT (by rfl),PQ];unfold GD;rw [zU,bP]
 have hx:GE (Sz.new (.cells ((List.range k).map fun i=>pt b (o+(j+i))) 146 .exact)) W C rr st b o e gr vs all ds (j+0) (List.replicate k .int++its) K:=by
  have f:cM W Sz (Sz.new (.cells ((List.range k).map fun i=>pt b (o+(j+i))) 146 .exact)) W:= .new W Sz _;refine⟨g.eye.new _,g.own.keep (aL (Nat.ne_of_lt (g.eye.lt b g.own.PK))) (fun i hi _ _ hN=>hN.same (aL (Nat.ne_of_lt (g.eye.lt i hi)))),g.sub,fun i hi=>Nat.lt_succ_of_lt (g.lt i hi),g.le,g.dl,g.jle,g.rest,fun k it v d a p q=>(g.done k it v d a p q).fr (f.up g.sub),g.zero,fun v S' vs' a1 a2 a3 a4 a5 a6 a7=>g.hK v S' vs' a1 a2 a3 a4 a5 a6 (f.trans a7)⟩
 exact Kb (n:=n) hk next k 0 most _ st vs ds (by omega) (by omega) hx aF g.eye.nW (Nat.lt_succ_self _)
def pL (most:Nat) (f:FuncId) (all:List It) (dp:Nat):Prop:=∀(n:Nat) {Sz:St} {W C:Nat->Prop} {rr:Nat} {st:RS} {b o:Nat} {e:TypeId} {gr:Bool} {vs:List Value} {K:VK},GE Sz W C rr st b o e gr vs all [] 0 all K->(X most (n+dp)).C f [eye rr,pt b o] Sz K=true
theorem EH:∀(a b:List It) (st:RS),bX (a++b) st=((bX a st).1++(bX b (bX a st).2).1,(bX b (bX a st).2).2):=by
 intro a;induction a with
 | nil=>intro b st;simp [bX]
 | cons x a ih=>intro b st;simp only [List.cons_append,bX,ih]
theorem JF:∀(a:List It) (st:RS),(bX a st).1.length=a.length:=by
 intro a;induction a with
 | nil=>intro st;rfl
 | cons x a ih=>intro st;simp [bX,ih]
theorem Dc{f:FuncId}{dp:Nat}{dJ:List It} (h:pL most f dJ dp) (g:GE Sz W C rr st b o e gr vs all ds j (dJ++its) K) (next:∀v S' st' vs' ds',GE S' W C rr st' b o e gr vs' all ds' (j+dJ.length) its K->K0 v S'=true):
 (X most (n+dp)).C f [eye rr,pt b (o+j)] Sz K0=true:=by
 have hr:=g.rest;have hal:all=all.take j++(dJ++its):=by rw [hr];exact(List.take_append_drop _ _).symm
 have hjl:=g.jle;have htl:(all.take j).length=j:=by rw [List.length_take];omega
 have hlen:all.length=j+dJ.length+its.length:=by rw [hal];simp [htl];omega
 have hat:∀k,k<dJ.length->all[j+k]? =dJ[k]? :=fun k hk=>by
  rw [hal,List.getElem?_append_right (by omega),htl,Nat.add_sub_cancel_left,List.getElem?_append_left hk]
 have hle:=g.le;refine h n ⟨g.eye,g.own,g.sub,g.lt,by omega,rfl,Nat.zero_le _,rfl,fun k it v d _ _ q=>by simp at q,fun k it _ a=>?_,fun v S' vs' o' l' s' n' r' e' f'=>?_⟩
 ·have hk:=(List.getElem?_eq_some_iff.1 a).1
  have:=g.zero (j+k) it (by omega) (by rw [hat k hk];exact a)
  rwa [<-Nat.add_assoc]at this
 ·simp only [List.nil_append]at n' r'
  refine next v S' _ vs' (ds++(bX dJ st).1) ⟨e',o',g.sub,fun i hi=>Nat.lt_of_lt_of_le (g.lt i hi) f'.n,by omega,by rw [List.length_append,JF,g.dl],by omega,?_,fun k it v d a p q=>?_,fun k it hk a=>?_,fun v2 S2z vs2 o2 l2 s2 n2 r2 e2 f2=>?_⟩
  ·have e1:all.drop (j+dJ.length)=(all.drop j).drop dJ.length:=by rw [List.drop_drop]
   rw [e1,<-hr,List.drop_left]
  ·by_cases hk:k<j
   ·rw [s' _ (.inl (by omega))]at p
    rw [List.getElem?_append_left (by rw [g.dl];exact hk)]at q;exact(g.done k it v d a p q).fr (f'.up g.sub)
   ·rw [List.getElem?_append_right (by rw [g.dl];omega),g.dl]at q
    have hk2:k-j<dJ.length:=by have:=(List.getElem?_eq_some_iff.1 q).1;rw [JF]at this;exact this
    have ek:k=j+(k-j):=by omega
    rw [ek,hat _ hk2]at a;rw [ek,<-Nat.add_assoc]at p;exact r' (k-j) it v d a p q
  ·rw [s' _ (.inr (by omega))]
   exact g.zero k it (by omega) a
  ·have hd:ds++(bX (dJ++its) st).1=ds++(bX dJ st).1++(bX its (bX dJ st).2).1:=by rw [EH];simp
   refine g.hK v2 S2z vs2 o2 (by omega) (fun q hq=>?_) (by rw [hd];exact n2) (by rw [hd];exact r2) (by rw [EH];exact e2) (f'.trans f2);rw [s2 q hq,s' q (by omega)]
end
variable{most:Nat}
def Wq (Sz:St) (C:Nat->Prop) (n0:Nat) (its:List It) (el:TypeId) (v:Value) (es:List (List D)):Prop:=
 (v= .slice none 0 0/\es=[])\/∃j vs olds,n0<=j/\j<Sz.n/\v= .slice (some ⟨j,0,some 0⟩) es.length es.length/\Sz.obj j=some (.cells vs el (.grown olds))/\vs.length=es.length*its.length/\(∀i∈olds,n0<=i/\i<Sz.n/\i≠j/\ZB Sz i)/\(∀ds∈es,ds.length=its.length)/\
  ∀(k:Nat) (ds:List D) (q:Nat) (it:It) (u:Value) (d:D),es[k]? =some ds->its[q]? =some it->vs[k*its.length+q]? =some u->ds[q]? =some d->GC Sz (fun i=>C i\/i=j\/i∈olds) it u d
def Mid (Sz:St) (C:Nat->Prop) (n0:Nat) (its:List It) (el:TypeId) (jn:Nat) (es:List (List D)):Prop:=
 ∃vs olds,n0<=jn/\jn<Sz.n/\Sz.obj jn=some (.cells vs el (.grown olds))/\vs.length=(es.length+1)*its.length/\(∀i∈olds,n0<=i/\i<Sz.n/\i≠jn/\ZB Sz i)/\(∀ds∈es,ds.length=its.length)/\
  (∀(k:Nat) (ds:List D) (q:Nat) (it:It) (u:Value) (d:D),es[k]? =some ds->its[q]? =some it->vs[k*its.length+q]? =some u->ds[q]? =some d->GC Sz (fun i=>C i\/i=jn\/i∈olds) it u d)/\
  ∀(q:Nat) (it:It),its[q]? =some it->vs[es.length*its.length+q]? =some (jM it)
theorem Wq.val{Sz:St}{C:Nat->Prop}{n0:Nat}{its:List It}{el:TypeId}{v:Value}{es:List (List D)} (h:Wq Sz C n0 its el v es):(∃a,v= .slice a es.length es.length)/\gF v v=true:=by
 rcases h with ⟨rfl,rfl⟩ | ⟨j,vs,olds,_,_,rfl,_⟩
 ·exact⟨⟨_,rfl⟩,rfl⟩
 ·refine⟨⟨_,rfl⟩,?_⟩
  show((Nat.beq j j&&Nat.beq 0 0)&&(Nat.beq es.length es.length&&Nat.beq es.length es.length))=true;simp
theorem Wq.fr{Sz S':St}{W C:Nat->Prop}{n0:Nat}{its:List It}{el:TypeId}{v:Value}{es:List (List D)} (h:Wq Sz C n0 its el v es) (f:cM W Sz S' W) (hs:∀i,W i->C i) (hC:∀i,C i->i<n0):Wq S' C n0 its el v es:=by
 rcases h with ⟨rfl,rfl⟩ | ⟨j,vs,olds,h1,h2,rfl,h3,h4,h5,h6,h7⟩
 ·exact .inl ⟨rfl,rfl⟩
 ·have hj:¬W j:=fun w=>by have:=hC j (hs j w);omega
  exact .inr ⟨j,vs,olds,h1,Nat.lt_of_lt_of_le h2 f.n,rfl,by rw [f.same j h2 hj];exact h3,h4,fun i hi=>⟨(h5 i hi).1,Nat.lt_of_lt_of_le (h5 i hi).2.1 f.n,(h5 i hi).2.2.1,(h5 i hi).2.2.2.same (f.same i (h5 i hi).2.1 fun w=>by have:=hC i (hs i w);have:=(h5 i hi).1;omega)⟩,h6,fun k ds q it u d a b c g=>(h7 k ds q it u d a b c g).fr (f.up fun i w=> .inl (hs i w))⟩
theorem Mid.fr{Sz S':St}{W C:Nat->Prop}{n0:Nat}{its:List It}{el:TypeId}{jn:Nat}{es:List (List D)} (h:Mid Sz C n0 its el jn es) (f:cM W Sz S' W) (hs:∀i,W i->C i) (hC:∀i,C i->i<n0):Mid S' C n0 its el jn es:=by
 obtain⟨vs,olds,h1,h2,h3,h4,h5,h6,h7,h8⟩:=h;have hj:¬W jn:=fun w=>by have:=hC jn (hs jn w);omega
 exact⟨vs,olds,h1,Nat.lt_of_lt_of_le h2 f.n,by rw [f.same jn h2 hj];exact h3,h4,fun i hi=>⟨(h5 i hi).1,Nat.lt_of_lt_of_le (h5 i hi).2.1 f.n,(h5 i hi).2.2.1,(h5 i hi).2.2.2.same (f.same i (h5 i hi).2.1 fun w=>by have:=hC i (hs i w);have:=(h5 i hi).1;omega)⟩,h6,fun k ds q it u d a b c g=>(h7 k ds q it u d a b c g).fr (f.up fun i w=> .inl (hs i w)),h8⟩
theorem Wq.rd{Sz:St}{C:Nat->Prop}{n0:Nat}{its:List It}{el:TypeId}{v:Value}{es:List (List D)} (h:Wq Sz C n0 its el v es) (hC:∀i,C i->i<n0) (hle:es.length<=1048576):GC Sz C (.list its) v (.l es):=by
 rcases h with ⟨rfl,rfl⟩ | ⟨j,vs,olds,h1,h2,rfl,h3,h4,h5,h6,h7⟩
 ·exact .empty
 ·exact .row h2 (fun hc=>by have:=hC j hc;omega) h3 (fun i hi=>⟨(h5 i hi).2.1,fun hc=>by have:=hC i hc;have:=(h5 i hi).1;omega,(h5 i hi).2.2⟩) h4 h6 hle h7
structure Fn (n0:Nat) (W:Nat->Prop) (Sz S':St):Prop where
 n:Sz.n<=S'.n
 same:∀i,i<n0->¬W i->S'.obj i=Sz.obj i
theorem Fn.of{n0:Nat}{W:Nat->Prop}{Sz S':St} (f:cM W Sz S' W) (h:n0<=Sz.n):Fn n0 W Sz S':=⟨f.n,fun i hi hw=>f.same i (by omega) hw⟩
theorem Fn.trans{n0:Nat}{W:Nat->Prop}{a b c:St} (f:Fn n0 W a b) (g:Fn n0 W b c):Fn n0 W a c:=⟨Nat.le_trans f.n g.n,fun i hi hw=>by rw [g.same i hi hw,f.same i hi hw]⟩
theorem Fn.fr{W:Nat->Prop}{Sz S':St} (f:Fn Sz.n W Sz S'):cM W Sz S' W:=⟨f.n,fun i hi hw=>f.same i hi hw,fun _ h=> .inl h⟩
section
variable{Sz:St}{W C:Nat->Prop}{n0 rr b q:Nat}{e0:TypeId}{gr:Bool}{vs:List Value}{its:List It}{el:TypeId}{w v:Value}{es:List (List D)}{st:RS}{n:Nat}
structure LB (Sz:St) (W C:Nat->Prop) (n0 rr b q:Nat) (e0:TypeId) (gr:Bool) (vs:List Value) (w:Value) (st:RS):Prop where
 eye:uH Sz W rr st
 own:Own Sz W rr b e0 gr (vs.set q w)
 hq:q<vs.length
 sub:∀i,W i->C i
 lt:∀i,C i->i<n0
 n0:n0<=Sz.n
theorem LB.ld (h:LB Sz W C n0 rr b q e0 gr vs w st) (K:VK):aN (pt b q) Sz K=K w Sz:=h.own.ld (by rw [List.getElem?_set_self h.hq]) K
theorem LB.read (h:LB Sz W C n0 rr b q e0 gr vs w st){S1z:St}{st1:RS} (e1:uH S1z (fun i=>i=rr) rr st1) (f1:cM (fun i=>i=rr) Sz S1z (fun i=>i=rr)):LB S1z W C n0 rr b q e0 gr vs w st1/\cM W Sz S1z W:=
 ⟨⟨h.eye.back e1 f1.n,h.own.keep (f1.same b (h.eye.lt b h.own.PK) h.own.ne) (fun i hi h1 _ hN=>hN.same (f1.same i (h.eye.lt i hi) h1)),h.hq,h.sub,h.lt,Nat.le_trans h.n0 f1.n⟩,f1.up fun i hi=>by rw [hi];exact h.eye.PK⟩
theorem LB.new (h:LB Sz W C n0 rr b q e0 gr vs w st) (o:fS):LB (Sz.new o) W C n0 rr b q e0 gr vs w st:=
 ⟨h.eye.new o,h.own.keep (aL (Nat.ne_of_lt (h.eye.lt b h.own.PK))) (fun i hi _ _ hN=>hN.same (aL (Nat.ne_of_lt (h.eye.lt i hi)))),h.hq,h.sub,h.lt,Nat.le_succ_of_le h.n0⟩
theorem LB.put (h:LB Sz W C n0 rr b q e0 gr vs w st) (v:Value) (hv:oneCell v=true):∃S',(∀k:St->Bool,cQ 1 (pt b q) v Sz k=k S')/\LB S' W C n0 rr b q e0 gr vs v st/\cM W Sz S' W:=by
 obtain⟨S',k1,k2,k3,k4⟩:=h.own.st h.eye (q:=q) (v:=v) (by rw [List.length_set];exact h.hq) hv;rw [List.set_set]at k2;exact⟨S',k1,⟨k3,k2,h.hq,h.sub,h.lt,Nat.le_trans h.n0 k4.n⟩,k4⟩
theorem LB.grow{bytes:Nat}{x:Value}{S1z:St} (h:LB Sz W C n0 rr b q e0 gr vs w st) (hl:Wq Sz C n0 its el v es) (h1:LB S1z W C n0 rr b q e0 gr vs w st) (hx:aZ Sz S1z) (hx2:Src S1z its.length x 1 (its.map jM)) (hs:cN PP el=some its.length) (hb:(es.length+1)*(bytes+1)<=1099511627776){K:VK}
 (hK:∀S' jn,LB S' W C n0 rr b q e0 gr vs w st->Mid S' C n0 its el jn es->Fn n0 W S1z S'->K (.slice (some ⟨jn,0,some 0⟩) (es.length+1) (es.length+1)) S'=true):kJ PP el its.length bytes v x S1z K=true:=by
 have hn:=hx.n;rcases hl with ⟨rfl,rfl⟩ | ⟨j,ws,olds,h2,h3,rfl,h4,h5,h6,h7,h8⟩
 ·rw [IW hx2 (by omega) (by simpa using hb)]
  refine hK _ S1z.n (h1.new _) ⟨its.map jM,[],h1.n0,Nat.lt_succ_self _,aF,by simp,fun i hi=>(nomatch hi),fun ds hd=>(nomatch hd),fun k ds q it u d a=>by simp at a,fun q it a=>?_⟩ (.of (.new W S1z _) h1.n0);simp [a]
 ·have hj1:S1z.obj j=some (.cells ws el (.grown olds)):=by rw [hx.same j h3];exact h4
  rw [IX hx2 (by omega) hb hj1 h5 hs];have hjW:¬W j:=fun c=>by have:=h.lt j (h.sub j c);omega
  have hjr:rr≠j:=fun c=>hjW (c▸h.eye.PK);have hjb:b≠j:=fun c=>hjW (c▸h.own.PK)
  have ho:∀i,i≠j->i<S1z.n->((S1z.set j (.cells ws el .stale)).new (.cells (ws++its.map jM) el (.grown (j::olds)))).obj i=S1z.obj i:=fun i hi hlt=>by
   rw [aL (by rw [gG];omega),aJ hi]
  have f:cM (fun i=>C i\/i=j\/i∈olds) S1z ((S1z.set j (.cells ws el .stale)).new (.cells (ws++its.map jM) el (.grown (j::olds)))) (fun i=>C i\/i=S1z.n\/i∈j::olds):=by
   refine⟨by rw [kM,gG];omega,fun i hi hb=>ho i (fun e=>hb (.inr (.inl e))) hi,fun i hi=>?_⟩;rcases hi with hi | hi | hi
   ·exact .inl (.inl hi)
   ·exact .inr (by omega)
   ·rcases List.mem_cons.1 hi with e | hi
    ·exact .inl (.inr (.inl e))
    ·exact .inl (.inr (.inr hi))
  have hrl:=h1.eye.WU;have hbl:=h1.eye.lt b h1.own.PK
  refine hK _ S1z.n ⟨⟨h1.eye.PK,fun i hi=>Nat.lt_succ_of_lt (h1.eye.lt i hi),by rw [ho rr hjr hrl];exact h1.eye.obj,h1.eye.len⟩,h1.own.keep (ho b hjb hbl) (fun i hi _ _ hN=>hN.same (ho i (fun e=>hjW (e▸hi)) (h1.eye.lt i hi))),h1.hq,h1.sub,h1.lt,Nat.le_succ_of_le h1.n0⟩
   ⟨ws++its.map jM,j::olds,h1.n0,Nat.lt_succ_self _,?_,?_,fun i hi=>?_,h7,fun k d q it u d' a b c g=>?_,fun q it a=>?_⟩ ⟨by rw [kM,gG];omega,fun i hi hb=>ho i (by omega) (by have:=h1.n0;omega)⟩
  ·have:S1z.n=(S1z.set j (.cells ws el .stale)).n:=rfl
   rw [this,aF]
  ·simp [h5,Nat.add_mul]
  ·have stale:ZB ((S1z.set j (.cells ws el .stale)).new (.cells (ws++its.map jM) el (.grown (j::olds)))) j:=fun vs e l=>by
    rw [aL (by rw [gG];omega),aX];intro c;injection c with c;injection c with _ _ c;cases c
   rcases List.mem_cons.1 hi with e | hi
   ·rw [e];exact⟨h2,by rw [kM,gG];omega,by omega,stale⟩
   ·obtain⟨a1,a2,a3,a4⟩:=h6 i hi
    exact⟨a1,by rw [kM,gG];omega,by omega,(a4.same (hx.same i a2)).same (ho i a3 (by omega))⟩
  ·have hk:=(List.getElem?_eq_some_iff.1 a).1
   have hq:=(List.getElem?_eq_some_iff.1 b).1
   have hlt:k*its.length+its.length<=es.length*its.length:=by
    have:(k+1)*its.length<=es.length*its.length:=Nat.mul_le_mul_right _ hk
    rwa [Nat.add_mul,Nat.one_mul]at this
   rw [List.getElem?_append_left (by omega)]at c;exact((h8 k d q it u d' a b c g).fr (hx.fr _)).fr f
  ·rw [List.getElem?_append_right (by omega),h5,Nat.add_sub_cancel_left]
   simp [a]
theorem uY (el:TypeId){k:Nat}{zero cs:List Value} (hz:zero.length=k) (hc:cs.length=k) (h1:cs.all oneCell=true) (Sz:St) (K:VK):aM el 1 zero [(0,k,.agg ⟨cs⟩)] Sz K=K (.slice (some ⟨Sz.n,0,none⟩) 1 1) (Sz.new (.cells cs el .exact)):=by
 show XF zero 1 (fun c0=>(match allB oneCell cs with | true=>(mJ cs fun m=>match Nat.beq m k with | true=>iA 0 cs c0 (fun cs=>qZ Sz (.cells cs el .exact) fun i Sz=>K (.slice (some ⟨i,0,none⟩) 1 1) Sz) | false=>false) | false=>false))=_;rw [CA,jW,h1,cV];simp only [hc,show Nat.beq k k=true from Nat.beq_refl _];rw [gS,if_pos (by simp;omega),gE]
 congr 3
 simp [splice];omega
theorem Mid.child{one:FuncId}{dp jn:Nat}{K:VK} (h:pL most one its dp) (hb:LB Sz W C n0 rr b q e0 gr vs w st) (hm:Mid Sz C n0 its el jn es)
 (hK:∀v S',LB S' W C n0 rr b q e0 gr vs w (bX its st).2->Wq S' C n0 its el (.slice (some ⟨jn,0,some 0⟩) (es.length+1) (es.length+1)) (es++[(bX its st).1])->Fn n0 W Sz S'->K v S'=true):
 (X most (n+dp)).C one [eye rr,pt jn (0+es.length*its.length)] Sz K=true:=by
 obtain⟨ws,olds,h1,h2,h3,h4,h5,h6,h7,h8⟩:=hm;have hrn:rr<n0:=hb.lt rr (hb.sub rr hb.eye.PK);have hbn:b<n0:=hb.lt b (hb.sub b hb.own.PK)
 let W1:Nat->Prop:=fun i=>i=rr\/i=jn\/i∈olds
 let C1:Nat->Prop:=fun i=>C i\/i=jn\/i∈olds
 have hs1:∀i,W1 i->C1 i:=fun i hi=>by
  rcases hi with e | e | e
  ·exact .inl (by rw [e];exact hb.sub rr hb.eye.PK)
  ·exact .inr (.inl e)
  ·exact .inr (.inr e)
 have hl1:∀i,C1 i->i<Sz.n:=fun i hi=>by
  rcases hi with e | e | e
  ·have:=hb.lt i e;have:=hb.n0;omega
  ·omega
  ·exact(h5 i e).2.1
 have e1:uH Sz W1 rr st:=⟨.inl rfl,fun i hi=>hl1 i (hs1 i hi),hb.eye.obj,hb.eye.len⟩;have o1:Own Sz W1 rr jn el true ws:=⟨.inr (.inl rfl),by omega,_,h3,olds,rfl,fun i hi=>⟨.inr (.inr hi),by have:=(h5 i hi).1;omega,(h5 i hi).2.2.1,(h5 i hi).2.2.2⟩⟩;rw [Nat.zero_add];refine h n ⟨e1,o1,hs1,hl1,by rw [h4,Nat.add_mul];omega,rfl,Nat.zero_le _,rfl,fun k it v d _ _ c=>by simp at c,fun k it _ a=>h8 k it a,fun v S' vs' o2 l2 s2 n2 r2 e2 f2=>?_⟩;simp only [List.nil_append]at n2 r2
 have Su:S'.obj b=Sz.obj b:=f2.same b (by have:=hb.n0;omega) (fun c=>by
  rcases c with e | e | e
  ·exact hb.own.ne e
  ·omega
  ·have:=(h5 b e).1;omega)
 have hb2:LB S' W C n0 rr b q e0 gr vs w (bX its st).2:=
  ⟨⟨hb.eye.PK,fun i hi=>Nat.lt_of_lt_of_le (hb.eye.lt i hi) f2.n,e2.obj,e2.len⟩,hb.own.keep Su (fun i hi _ _ hN=>hN.same (f2.same i (by have:=hb.eye.lt i hi;have:=hb.n0;omega) fun c=>by
  have hin:=hb.lt i (hb.sub i hi);rcases c with e | e | e
  ·contradiction
  ·omega
  ·have:=(h5 i e).1;omega)),hb.hq,hb.sub,hb.lt,Nat.le_trans hb.n0 f2.n⟩
 refine hK v S' hb2 ?_ ⟨f2.n,fun i hi hw=>f2.same i (by have:=hb.n0;omega) (fun c=>by
  rcases c with e | e | e
  ·exact hw (by rw [e];exact hb.eye.PK)
  ·omega
  ·have:=(h5 i e).1;omega)⟩
 obtain⟨ck,p1,olds',p2,p3⟩:=o2.obj;subst p2
 have hsub:∀i,i∈olds'->i∈olds:=fun i hi=>by
  obtain⟨a1,a2,a3,_⟩:=p3 i hi;rcases a1 with e | e | e
  ·exact absurd e a2
  ·exact absurd e a3
  ·exact e
 have less:∀{it:It} {u:Value} {d:D},GC S' C1 it u d->GC S' (fun i=>C i\/i=jn\/i∈olds') it u d:=fun hr=>hr.fr ⟨Nat.le_refl _,fun _ _ _=>rfl,fun i hi=> .inl (by
  rcases hi with e | e | e
  ·exact .inl e
  ·exact .inr (.inl e)
  ·exact .inr (.inr (hsub i e)))⟩
 refine .inr ⟨jn,vs',olds',h1,Nat.lt_of_lt_of_le h2 f2.n,by simp,p1,by simp [l2,h4],fun i hi=>⟨(h5 i (hsub i hi)).1,Nat.lt_of_lt_of_le (h5 i (hsub i hi)).2.1 f2.n,(h5 i (hsub i hi)).2.2.1,(p3 i hi).2.2.2⟩,fun d hd=>?_,fun k d q it u d' a b c g=>?_⟩
 ·rcases List.mem_append.1 hd with hd | hd
  ·exact h6 d hd
  ·simp at hd;subst hd;rw [JF]
 ·have hq:=(List.getElem?_eq_some_iff.1 b).1
  rcases Nat.lt_or_ge k es.length with hk | hk
  ·rw [List.getElem?_append_left hk]at a
   have hlt:k*its.length+its.length<=es.length*its.length:=by
    have:(k+1)*its.length<=es.length*its.length:=Nat.mul_le_mul_right _ hk
    rwa [Nat.add_mul,Nat.one_mul]at this
   rw [s2 _ (.inl (by omega))]at c;exact less ((h7 k d q it u d' a b c g).fr (f2.up hs1))
  ·have hk':k=es.length:=by
    have:=(List.getElem?_eq_some_iff.1 a).1;simp at this;omega
   subst hk';simp at a;subst a;exact less (r2 q it u d' b c g)
end
variable{most:Nat}
theorem Dd (hM:1048576<most):pL most lX bA 5:=by
 intro n Sz W C rr st b o e gr vs K g;have hm:1024<most:=by omega
 rw [aT (by rfl),UE];unfold JG;rw [cX gT];refine qP (n:=n+1) (its:=[]) g fun v Sz st vs ds g=>?_;exact g.fin _
theorem Ut (hM:1048576<most):pL most oG cO 5:=by
 intro n Sz W C rr st b o e gr vs K g;have hm:1024<most:=by omega
 rw [aT (by rfl),UF];unfold JH;rw [cX lF];refine wP (n:=n+1) (its:=[]) g fun v Sz st vs ds g=>?_;exact g.fin _
theorem De (hM:1048576<most):pL most lY aY 5:=by
 intro n Sz W C rr st b o e gr vs K g;have hm:1024<most:=by omega
 rw [aT (by rfl),UG];unfold JI;rw [aH,aB,dP uX,cX uX];refine PN (n:=n+1) (its:=[.num]) g fun v Sz st vs ds g=>?_;rw [aH,aB,dP uX,cX uX];refine PN (n:=n+1) (its:=[]) g fun v Sz st vs ds g=>?_;exact g.fin _
theorem PR (hM:1048576<most):pL most iF aV 5:=by
 intro n Sz W C rr st b o e gr vs K g;have hm:1024<most:=by omega
 rw [aT (by rfl),JJ];unfold BD;rw [aH,aB,dP GB,cX GB];refine ZE (n:=n+1) (its:=[.int,.int,.int,.int,.int,.int,.int,.int,.text,.nums]) g fun v Sz st vs ds g=>?_;rw [aH,aB,aH,aB,aH,aB,aH,aB,aH,aB,aH,aB,aH,aB,aH,aB];rw [rB8,fX,rB8];refine jN (n:=n+0) (its:=[.text,.nums]) hm 8 (by omega) g fun v Sz st vs ds g=>?_;rw [aH,aB,dP gT,cX gT];refine qP (n:=n+1) (its:=[.nums]) g fun v Sz st vs ds g=>?_;rw [aH,aB,dP lF,cX lF];refine wP (n:=n+1) (its:=[]) g fun v Sz st vs ds g=>?_;exact g.fin _
theorem Uu (hM:1048576<most):pL most oH aW 5:=by
 intro n Sz W C rr st b o e gr vs K g;have hm:1024<most:=by omega
 rw [aT (by rfl),UH];unfold JK;rw [aH,aB,aH,aB];rw [Me,fX,Me];refine jN (n:=n+0) (its:=[.kind,.int,.text]) hm 2 (by omega) g fun v Sz st vs ds g=>?_;rw [aH,aB,dP GB,cX GB];refine ZE (n:=n+1) (its:=[.int,.text]) g fun v Sz st vs ds g=>?_;rw [aH,aB];rw [rB1];refine jN (n:=n+0) (its:=[.text]) hm 1 (by omega) g fun v Sz st vs ds g=>?_;rw [aH,aB,dP gT,cX gT];refine qP (n:=n+1) (its:=[]) g fun v Sz st vs ds g=>?_;exact g.fin _
theorem Uv (hM:1048576<most):pL most oI bC 5:=by
 intro n Sz W C rr st b o e gr vs K g;have hm:1024<most:=by omega
 rw [aT (by rfl),UI];unfold JL;rw [aH,aB];rw [rB1];refine jN (n:=n+0) (its:=[.text]) hm 1 (by omega) g fun v Sz st vs ds g=>?_;rw [aH,aB,dP gT,cX gT];refine qP (n:=n+1) (its:=[]) g fun v Sz st vs ds g=>?_;exact g.fin _
theorem Df (hM:1048576<most):pL most lZ bB 5:=by
 intro n Sz W C rr st b o e gr vs K g;have hm:1024<most:=by omega
 rw [aT (by rfl),UJ];unfold JM;rw [aH,aB];rw [rB1];refine jN (n:=n+0) (its:=[.nums]) hm 1 (by omega) g fun v Sz st vs ds g=>?_;rw [aH,aB,dP lF,cX lF];refine wP (n:=n+1) (its:=[]) g fun v Sz st vs ds g=>?_;exact g.fin _
theorem Uw (hM:1048576<most):pL most oJ bE 5:=by
 intro n Sz W C rr st b o e gr vs K g;have hm:1024<most:=by omega
 rw [aT (by rfl),UK];unfold JN;rw [aH,aB,aH,aB];rw [Me,fX,Me];refine jN (n:=n+0) (its:=[.nums]) hm 2 (by omega) g fun v Sz st vs ds g=>?_;rw [aH,aB,dP lF,cX lF];refine wP (n:=n+1) (its:=[]) g fun v Sz st vs ds g=>?_;exact g.fin _
theorem aB0 (m:Nat) (st:RS):(fD m st).1<=m:=by
 unfold fD;split
 ·simp
 ·split
  ·split
   ·rename_i h;exact h
   ·simp
  ·simp
theorem Zv (f:RS->List D×RS):∀(n:Nat) (st:RS),(kK f n st).1.length<=n:=by
 intro n;induction n with
 | zero=>intro st;simp [kK]
 | succ n ih=>
  intro st;simp only [kK];split
  ·simp
  ·have:=ih (f st).2
   simp only [List.length_cons];omega
def aB1 (its:List It) (el:TypeId) (G:Value->(St->Bool)->St->Bool):Prop:=∀{Sz:St} {W C:Nat->Prop} {n0 rr b q:Nat} {e0:TypeId} {gr:Bool} {vs:List Value} {v:Value} {st:RS} {es:List (List D)} {j:St->Bool},LB Sz W C n0 rr b q e0 gr vs v st->Wq Sz C n0 its el v es->es.length<=1048576->
 (∀S' jn,LB S' W C n0 rr b q e0 gr vs (.slice (some ⟨jn,0,some 0⟩) (es.length+1) (es.length+1)) st->Mid S' C n0 its el jn es->Fn n0 W Sz S'->j S'=true)->G (pt b q) j Sz=true
theorem BE{its:List It}{zs:List Value}{el sz bytes:Nat} (hsz:its.length=sz) (hz:its.map jM=zs) (ho:zs.all oneCell=true) (hsv:gF (.agg ⟨zs⟩) (.agg ⟨zs⟩)=true) (hsT:cN PP el=some sz) (hby:bytes<=1000):aB1 its el (PS zs el sz bytes):=by
 intro Sz W C n0 rr b q e0 gr vs v st es j hb hl hle hK;subst hsz;have hzl:zs.length=its.length:=by rw [<-hz,List.length_map]
 have hdt:(zs.drop 0).take its.length=zs:=by rw [List.drop_zero,List.take_of_length_le (by omega)]
 obtain⟨⟨a,ea⟩,hsame⟩:=hl.val;unfold PS;have hb2:=hb.new (.cells zs el .exact);have hx2:aZ Sz (Sz.new (.cells zs el .exact)):= .new Sz _;rw [eB,aH,hb2.ld,fW aF (by omega),hdt,fW aF (by omega),hdt,aQ hsv,hb2.ld,aQ hsame];have hbs:∀(Sz:St) (K:VK),aM el 1 zs [(0,its.length,.agg ⟨zs⟩)] Sz K=K (.slice (some ⟨Sz.n,0,none⟩) 1 1) (Sz.new (.cells zs el .exact)):=fun Sz K=>uY el (k:=its.length) hzl hzl ho Sz K;rw [hbs,fX,hbs];have hb3:=hb2.new (.cells zs el .exact);have hx3:=hx2.trans (aZ.new (Sz.new (.cells zs el .exact)) (.cells zs el .exact))
 have hsrc:Src ((Sz.new (.cells zs el .exact)).new (.cells zs el .exact)) its.length (.slice (some ⟨(Sz.new (.cells zs el .exact)).n,0,none⟩) 1 1) 1 (its.map jM):=by
  have:=Src.row (n:=1) (o:=0) (c:=1) (size:=its.length) (aF (Sz:=Sz.new (.cells zs el .exact)) (o:= .cells zs el .exact)) (by omega) (fun v hv=>List.all_eq_true.1 ho v (by rw [List.drop_zero]at hv;exact List.mem_of_mem_take hv));rw [Nat.one_mul,hdt]at this;rw [hz];exact this
 refine LB.grow (its:=its) hb hl hb3 hx3 hsrc hsT (by have:(es.length+1)*(bytes+1)<=1048577*1001:=Nat.mul_le_mul (by omega) (by omega);omega) fun S3z jn hb4 hm4 f3=>?_;obtain⟨S4,k4,hb5,f4⟩:=hb4.put (.slice (some ⟨jn,0,some 0⟩) (es.length+1) (es.length+1)) rfl;rw [aH,k4];exact hK S4 jn hb5 (hm4.fr f4 hb4.sub hb4.lt) ((⟨hx3.n,fun i hi _=>hx3.same i (Nat.lt_of_lt_of_le hi hb.n0)⟩:Fn n0 W Sz _).trans (f3.trans (.of f4 hb4.n0)))
theorem Kc{it:It}{z:Value}{el bytes:Nat} (hz:jM it=z) (ho:oneCell z=true) (hsT:cN PP el=some 1) (hby:bytes<=1000):aB1 [it] el (Rl z el bytes):=by
 intro Sz W C n0 rr b q e0 gr vs v st es j hb hl hle hK;unfold Rl;have hbs:∀(Sz:St) (K:VK),aM el 1 [z] [(0,1,z)] Sz K=K (.slice (some ⟨Sz.n,0,none⟩) 1 1) (Sz.new (.cells [z] el .exact)):=fun Sz K=>gP el z [z] (by simp [ho]) Sz K;rw [aH,hb.ld,hbs];have hb3:=hb.new (.cells [z] el .exact);have hx3:aZ Sz (Sz.new (.cells [z] el .exact)):= .new Sz _;refine LB.grow (its:=[it]) hb hl hb3 hx3 (by rw [List.map_singleton,hz];exact Src.row (n:=1) (o:=0) (size:=1) (vs:=[z]) aF (by simp) (by simp [ho])) hsT (by have:(es.length+1)*(bytes+1)<=1048577*1001:=Nat.mul_le_mul (by omega) (by omega);omega) fun S3z jn hb4 hm4 f3=>?_;obtain⟨S4,k4,hb5,f4⟩:=hb4.put (.slice (some ⟨jn,0,some 0⟩) (es.length+1) (es.length+1)) rfl;rw [aH,k4];exact hK S4 jn hb5 (hm4.fr f4 hb4.sub hb4.lt) ((⟨hx3.n,fun i hi _=>hx3.same i (Nat.lt_of_lt_of_le hi hb.n0)⟩:Fn n0 W Sz _).trans (f3.trans (.of f4 hb4.n0)))
theorem Ob{c one:FuncId}{sz d el:Nat}{its:List It}{G} (T:EI c sz G) (hsz:its.length=sz) (hG:aB1 its el G) (hM:1048576<most) (hone:pL most one its (d+5)){n N:Nat}{W C:Nat->Prop}{n0 rr b q:Nat}{e0:TypeId}{gr:Bool}{vs:List Value} (hN:N<=1048576){K:VK}:
 ∀(r m i:Nat) (Sz:St) (st:RS) (v:Value) (es:List (List D)),r<m->es.length=i->i+r=N->LB Sz W C n0 rr b q e0 gr vs v st->Wq Sz C n0 its el v es->
  (∀u S' v',LB S' W C n0 rr b q e0 gr vs v' (kK (bX its) r st).2->Wq S' C n0 its el v' (es++(kK (bX its) r st).1)->Fn n0 W Sz S'->K u S'=true)->
  T.L (X most (n+d+5)) m (eye rr) (pt b q) (.func (.func one) #[] #[]) (.int .i64 (.ofNat N)) (.int .i64 (.ofNat i)) Sz K=true:=by
 subst hsz;intro r;induction r with
 | zero=>
  intro m i Sz st v es hm hi hr hb hl hK;obtain⟨m,rfl⟩:=Nat.exists_eq_succ_of_ne_zero (show m≠0 by omega);rw [T.LE,aG,show decide (i<N)=false from by simp;omega];simp only [cL,cG,bJ,cA];exact hK _ Sz v hb (by simpa [kK]using hl) ⟨Nat.le_refl _,fun _ _ _=>rfl⟩
 | succ r ih=>
  intro m i Sz st v es hm hi hr hb hl hK;obtain⟨m,rfl⟩:=Nat.exists_eq_succ_of_ne_zero (show m≠0 by omega);rw [T.LE,aG,show decide (i<N)=true from by simp;omega];simp only [cL,cF,cX Ka];refine Us (n:=n+d+3) hb.eye.self fun S1z e1 f1=>?_;obtain⟨hb1,f2⟩:=hb.read e1 f1;have hl1:=hl.fr f2 hb.sub hb.lt;rw [rB,bL,iX];by_cases he:st.2=0
  ·rw [if_pos (by simpa using he),aH,hb1.ld]
   obtain⟨⟨a,ea⟩,hsame⟩:=hl1.val;have hlen:∀K,bO v K=K (.int .i64 (.ofNat es.length)):=fun K=>by rw [ea,zU]
   subst hi;rw [hlen,rB,decide_eq_true rfl,bS];refine hG hb1 hl1 (by omega) fun S4 jn hb5 hm5 f4=>?_;rw [T.JE _ (by rw [bP];omega),aH,hb5.ld,YK its.length jn 0 es.length _ _ (by omega),Ke];refine hm5.child (n:=n) hone hb5 fun u S5 hb6 hl6 f5=>?_;rw [aP _ _ _ _ (by omega)];have hF:Fn n0 W Sz S5:=(Fn.of f2 hb.n0).trans (f4.trans f5);have hd:kK (bX its) (r+1) st=((bX its st).1::(kK (bX its) r (bX its st).2).1,(kK (bX its) r (bX its st).2).2):=by simp only [kK];rw [if_neg (by simp [he])]
   refine ih m (es.length+1) S5 _ _ _ (by omega) (by simp) (by omega) hb6 hl6 fun u2 S6 v6 hb7 hl7 f6=>?_;refine hK u2 S6 v6 (by rw [hd];exact hb7) ?_ (hF.trans f6);rw [hd];simpa using hl7
  ·rw [if_neg (by simpa using he)]
   have hd:kK (bX its) (r+1) st=([],st):=Zw _ _ _ he;refine hK _ S1z v (by rw [hd];exact hb1) (by rw [hd,List.append_nil];exact hl1) (.of f2 hb.n0)
theorem rE{c one:FuncId}{sz d el:Nat}{dJ:List It}{G} (T:EI c sz G) (hsz:dJ.length=sz) (hG:aB1 dJ el G) (hM:1048576<most) (hone:pL most one dJ (d+5)){n:Nat}{Sz:St}{W C:Nat->Prop}{rr:Nat}{st:RS}{b o:Nat}{e:TypeId}{gr:Bool}{vs:List Value}{all:List It}{ds:List D}{j:Nat}{its:List It}{K K0:VK}
 (g:GE Sz W C rr st b o e gr vs all ds j (.list dJ::its) K) (next:∀v S' st' vs' ds',GE S' W C rr st' b o e gr vs' all ds' (j+1) its K->K0 v S'=true):
 (X most (n+(d+6))).C c [eye rr,pt b (o+j),.func (.func one) #[] #[]] Sz K0=true:=by
 show(X most (n+d+5+1)).C _ _ _ _=true;rw [aT T.ov,T.R];obtain⟨h1,_,hj⟩:=g.at;have hz:=g.zero j _ (Nat.le_refl _) h1;have hle:=g.le;rw [aH,g.own.ld hz];show bO zL _=true;rw [zU,dP ZA,cX ZA];refine Zs (n:=n+d+2) g.eye.self _ fun S1z e1 f1=>?_;obtain⟨o1,e2,f2⟩:=g.read e1 f1;rw [o1.ld hz,aQ (show gF (jM (.list dJ)) (jM (.list dJ))=true from rfl),bP];have hcm:=aB0 1048576 st;refine Ob T hsz hG hM hone (n:=n) (n0:=S1z.n) (C:=C) (vs:=vs) hcm (fD 1048576 st).1 most 0 S1z _ zL [] (by omega) rfl (by omega) ⟨e2,by rw [set_self (by exact hz)];exact o1,by omega,g.sub,fun i hi=>Nat.lt_of_lt_of_le (g.lt i hi) f2.n,Nat.le_refl _⟩ (.inl ⟨rfl,rfl⟩) fun u S' v' hb hl f=>next u S' _ _ _ (g.next (v':=v') hb.own ?_ hb.eye (f2.trans f.fr));have hlen:=Zv (bX dJ) (fD 1048576 st).1 (fD 1048576 st).2;rw [List.nil_append]at hl;exact hl.rd hb.lt (by omega)
theorem PT (hM:1048576<most) (hone:pL most lX bA 5){n:Nat}{Sz:St}{W C:Nat->Prop}{rr:Nat}{st:RS}{b o:Nat}{e:TypeId}{gr:Bool}{vs:List Value}{all:List It}{ds:List D}{j:Nat}{its:List It}{K K0:VK}
 (g:GE Sz W C rr st b o e gr vs all ds j (.list bA::its) K) (next:∀v S' st' vs' ds',GE S' W C rr st' b o e gr vs' all ds' (j+1) its K->K0 v S'=true):
 (X most (n+6)).C fM [eye rr,pt b (o+j),.func (.func lX) #[] #[]] Sz K0=true:=
 rE (d:=0) Dg rfl (Kc rfl rfl (by kernel_rfl) (by omega)) hM hone g next
theorem PU (hM:1048576<most) (hone:pL most oG cO 5){n:Nat}{Sz:St}{W C:Nat->Prop}{rr:Nat}{st:RS}{b o:Nat}{e:TypeId}{gr:Bool}{vs:List Value}{all:List It}{ds:List D}{j:Nat}{its:List It}{K K0:VK}
 (g:GE Sz W C rr st b o e gr vs all ds j (.list cO::its) K) (next:∀v S' st' vs' ds',GE S' W C rr st' b o e gr vs' all ds' (j+1) its K->K0 v S'=true):
 (X most (n+6)).C eK [eye rr,pt b (o+j),.func (.func oG) #[] #[]] Sz K0=true:=
 rE (d:=0) JO rfl (Kc rfl rfl (by kernel_rfl) (by omega)) hM hone g next
theorem JP (hM:1048576<most) (hone:pL most lY aY 5){n:Nat}{Sz:St}{W C:Nat->Prop}{rr:Nat}{st:RS}{b o:Nat}{e:TypeId}{gr:Bool}{vs:List Value}{all:List It}{ds:List D}{j:Nat}{its:List It}{K K0:VK}
 (g:GE Sz W C rr st b o e gr vs all ds j (.list aY::its) K) (next:∀v S' st' vs' ds',GE S' W C rr st' b o e gr vs' all ds' (j+1) its K->K0 v S'=true):
 (X most (n+6)).C eP [eye rr,pt b (o+j),.func (.func lY) #[] #[]] Sz K0=true:=
 rE (d:=0) UL rfl (BE rfl rfl rfl rfl (by kernel_rfl) (by omega)) hM hone g next
theorem MJ (hM:1048576<most) (hone:pL most iF aV 5){n:Nat}{Sz:St}{W C:Nat->Prop}{rr:Nat}{st:RS}{b o:Nat}{e:TypeId}{gr:Bool}{vs:List Value}{all:List It}{ds:List D}{j:Nat}{its:List It}{K K0:VK}
 (g:GE Sz W C rr st b o e gr vs all ds j (.list aV::its) K) (next:∀v S' st' vs' ds',GE S' W C rr st' b o e gr vs' all ds' (j+1) its K->K0 v S'=true):
 (X most (n+6)).C eZ [eye rr,pt b (o+j),.func (.func iF) #[] #[]] Sz K0=true:=
 rE (d:=0) ZF rfl (BE rfl rfl rfl rfl (by kernel_rfl) (by omega)) hM hone g next
theorem SD (hM:1048576<most) (hone:pL most oH aW 5){n:Nat}{Sz:St}{W C:Nat->Prop}{rr:Nat}{st:RS}{b o:Nat}{e:TypeId}{gr:Bool}{vs:List Value}{all:List It}{ds:List D}{j:Nat}{its:List It}{K K0:VK}
 (g:GE Sz W C rr st b o e gr vs all ds j (.list aW::its) K) (next:∀v S' st' vs' ds',GE S' W C rr st' b o e gr vs' all ds' (j+1) its K->K0 v S'=true):
 (X most (n+6)).C eT [eye rr,pt b (o+j),.func (.func oH) #[] #[]] Sz K0=true:=
 rE (d:=0) MK rfl (BE rfl rfl rfl rfl (by kernel_rfl) (by omega)) hM hone g next
theorem SE (hM:1048576<most) (hone:pL most oI bC 5){n:Nat}{Sz:St}{W C:Nat->Prop}{rr:Nat}{st:RS}{b o:Nat}{e:TypeId}{gr:Bool}{vs:List Value}{all:List It}{ds:List D}{j:Nat}{its:List It}{K K0:VK}
 (g:GE Sz W C rr st b o e gr vs all ds j (.list bC::its) K) (next:∀v S' st' vs' ds',GE S' W C rr st' b o e gr vs' all ds' (j+1) its K->K0 v S'=true):
 (X most (n+6)).C eU [eye rr,pt b (o+j),.func (.func oI) #[] #[]] Sz K0=true:=
 rE (d:=0) ML rfl (BE rfl rfl rfl rfl (by kernel_rfl) (by omega)) hM hone g next
theorem GX (hM:1048576<most) (hone:pL most lZ bB 5){n:Nat}{Sz:St}{W C:Nat->Prop}{rr:Nat}{st:RS}{b o:Nat}{e:TypeId}{gr:Bool}{vs:List Value}{all:List It}{ds:List D}{j:Nat}{its:List It}{K K0:VK}
 (g:GE Sz W C rr st b o e gr vs all ds j (.list bB::its) K) (next:∀v S' st' vs' ds',GE S' W C rr st' b o e gr vs' all ds' (j+1) its K->K0 v S'=true):
 (X most (n+6)).C eE [eye rr,pt b (o+j),.func (.func lZ) #[] #[]] Sz K0=true:=
 rE (d:=0) PV rfl (BE rfl rfl rfl rfl (by kernel_rfl) (by omega)) hM hone g next
theorem VO (hM:1048576<most) (hone:pL most oJ bE 5){n:Nat}{Sz:St}{W C:Nat->Prop}{rr:Nat}{st:RS}{b o:Nat}{e:TypeId}{gr:Bool}{vs:List Value}{all:List It}{ds:List D}{j:Nat}{its:List It}{K K0:VK}
 (g:GE Sz W C rr st b o e gr vs all ds j (.list bE::its) K) (next:∀v S' st' vs' ds',GE S' W C rr st' b o e gr vs' all ds' (j+1) its K->K0 v S'=true):
 (X most (n+6)).C fC [eye rr,pt b (o+j),.func (.func oJ) #[] #[]] Sz K0=true:=
 rE (d:=0) PW rfl (BE rfl rfl rfl rfl (by kernel_rfl) (by omega)) hM hone g next
theorem PX (hM:1048576<most):pL most iG aD 7:=by
 intro n Sz W C rr st b o e gr vs K g;have hm:1024<most:=by omega
 rw [aT (by rfl),JQ];unfold BF;rw [aH,aB,aH,aB];rw [Me,fX,Me];refine jN (n:=n+2) (its:=[.list cO,.nums,.list bB,.list bB,.nums,.is]) hm 2 (by omega) g fun v Sz st vs ds g=>?_;rw [aH,aB];refine PU (n:=n+0) (its:=[.nums,.list bB,.list bB,.nums,.is]) hM (Ut hM) g fun v Sz st vs ds g=>?_;rw [aH,aB,dP lF,cX lF];refine wP (n:=n+3) (its:=[.list bB,.list bB,.nums,.is]) g fun v Sz st vs ds g=>?_;rw [aH,aB];refine GX (n:=n+0) (its:=[.list bB,.nums,.is]) hM (Df hM) g fun v Sz st vs ds g=>?_;rw [aH,aB];refine GX (n:=n+0) (its:=[.nums,.is]) hM (Df hM) g fun v Sz st vs ds g=>?_;rw [aH,aB,dP lF,cX lF];refine wP (n:=n+3) (its:=[.is]) g fun v Sz st vs ds g=>?_;rw [aH,aB,dP sE,cX sE];refine JD (n:=n+3) (its:=[]) g fun v Sz st vs ds g=>?_;exact g.fin _
theorem Kf (hM:1048576<most):pL most xD bQ 7:=by
 intro n Sz W C rr st b o e gr vs K g;have hm:1024<most:=by omega
 rw [aT (by rfl),MM];unfold DF;rw [aH,aB,aH,aB,aH,aB,aH,aB,aH,aB,aH,aB,aH,aB];rw [rB7,fX,rB7];refine jN (n:=n+2) (its:=[.text,.text,.int,.int,.is,.is,.text,.list aW]) hm 7 (by omega) g fun v Sz st vs ds g=>?_;rw [aH,aB,dP gT,cX gT];refine qP (n:=n+3) (its:=[.text,.int,.int,.is,.is,.text,.list aW]) g fun v Sz st vs ds g=>?_;rw [aH,aB,dP gT,cX gT];refine qP (n:=n+3) (its:=[.int,.int,.is,.is,.text,.list aW]) g fun v Sz st vs ds g=>?_;rw [aH,aB,aH,aB];rw [Me,fX,Me];refine jN (n:=n+2) (its:=[.is,.is,.text,.list aW]) hm 2 (by omega) g fun v Sz st vs ds g=>?_;rw [aH,aB,dP sE,cX sE];refine JD (n:=n+3) (its:=[.is,.text,.list aW]) g fun v Sz st vs ds g=>?_;rw [aH,aB,dP sE,cX sE];refine JD (n:=n+3) (its:=[.text,.list aW]) g fun v Sz st vs ds g=>?_;rw [aH,aB,dP gT,cX gT];refine qP (n:=n+3) (its:=[.list aW]) g fun v Sz st vs ds g=>?_;rw [aH,aB];refine SD (n:=n+0) (its:=[]) hM (Uu hM) g fun v Sz st vs ds g=>?_;exact g.fin _
theorem Ux (hM:1048576<most):pL most CH bZ 8:=by
 intro n Sz W C rr st b o e gr vs K g;have hm:1024<most:=by omega
 rw [aT (by rfl),UM];unfold JR;rw [aH,aB];rw [rB1];refine jN (n:=n+3) (its:=[.text,.is,.int,.int,.int,.int,.int,.int,.int,.text,.text,.int,.int,.is,.is,.text,.list aW,.list bC,.list aV]) hm 1 (by omega) g fun v Sz st vs ds g=>?_;rw [aH,aB,dP gT,cX gT];refine qP (n:=n+4) (its:=[.is,.int,.int,.int,.int,.int,.int,.int,.text,.text,.int,.int,.is,.is,.text,.list aW,.list bC,.list aV]) g fun v Sz st vs ds g=>?_;rw [aH,aB,dP sE,cX sE];refine JD (n:=n+4) (its:=[.int,.int,.int,.int,.int,.int,.int,.text,.text,.int,.int,.is,.is,.text,.list aW,.list bC,.list aV]) g fun v Sz st vs ds g=>?_;rw [aH,aB];refine Dc (n:=n+0) (dJ:=bQ) (its:=[.list bC,.list aV]) (Kf hM) g fun v Sz st vs ds g=>?_;rw [aH,aB];refine SE (n:=n+1) (its:=[.list aV]) hM (Uv hM) g fun v Sz st vs ds g=>?_;rw [aH,aB];refine MJ (n:=n+1) (its:=[]) hM (PR hM) g fun v Sz st vs ds g=>?_;exact g.fin _
theorem EJ (hM:1048576<most) (hone:pL most iG aD 7){n:Nat}{Sz:St}{W C:Nat->Prop}{rr:Nat}{st:RS}{b o:Nat}{e:TypeId}{gr:Bool}{vs:List Value}{all:List It}{ds:List D}{j:Nat}{its:List It}{K K0:VK}
 (g:GE Sz W C rr st b o e gr vs all ds j (.list aD::its) K) (next:∀v S' st' vs' ds',GE S' W C rr st' b o e gr vs' all ds' (j+1) its K->K0 v S'=true):
 (X most (n+8)).C dQ [eye rr,pt b (o+j),.func (.func iG) #[] #[]] Sz K0=true:=
 rE (d:=2) MN rfl (BE rfl rfl rfl rfl (by kernel_rfl) (by omega)) hM hone g next
theorem Zx (hM:1048576<most):pL most wQ bN 9:=by
 intro n Sz W C rr st b o e gr vs K g;have hm:1024<most:=by omega
 rw [aT (by rfl),ZG];unfold NM;rw [aH,aB];rw [rB1];refine jN (n:=n+4) (its:=[.list bA,.int,.text,.is,.int,.int,.int,.int,.int,.int,.int,.text,.text,.int,.int,.is,.is,.text,.list aW,.list bC,.list aV,.list bA,.list aY,.list aY,.is,.list aD,.list bE,.list aV,.list aD]) hm 1 (by omega) g fun v Sz st vs ds g=>?_;rw [aH,aB];refine PT (n:=n+2) (its:=[.int,.text,.is,.int,.int,.int,.int,.int,.int,.int,.text,.text,.int,.int,.is,.is,.text,.list aW,.list bC,.list aV,.list bA,.list aY,.list aY,.is,.list aD,.list bE,.list aV,.list aD]) hM (Dd hM) g fun v Sz st vs ds g=>?_;rw [aH,aB];refine Dc (n:=n+0) (dJ:=bZ) (its:=[.list bA,.list aY,.list aY,.is,.list aD,.list bE,.list aV,.list aD]) (Ux hM) g fun v Sz st vs ds g=>?_;rw [aH,aB];refine PT (n:=n+2) (its:=[.list aY,.list aY,.is,.list aD,.list bE,.list aV,.list aD]) hM (Dd hM) g fun v Sz st vs ds g=>?_;rw [aH,aB];refine JP (n:=n+2) (its:=[.list aY,.is,.list aD,.list bE,.list aV,.list aD]) hM (De hM) g fun v Sz st vs ds g=>?_;rw [aH,aB];refine JP (n:=n+2) (its:=[.is,.list aD,.list bE,.list aV,.list aD]) hM (De hM) g fun v Sz st vs ds g=>?_;rw [aH,aB,dP sE,cX sE];refine JD (n:=n+5) (its:=[.list aD,.list bE,.list aV,.list aD]) g fun v Sz st vs ds g=>?_;rw [aH,aB];refine EJ (n:=n+0) (its:=[.list bE,.list aV,.list aD]) hM (PX hM) g fun v Sz st vs ds g=>?_;rw [aH,aB];refine VO (n:=n+2) (its:=[.list aV,.list aD]) hM (Uw hM) g fun v Sz st vs ds g=>?_;rw [aH,aB];refine MJ (n:=n+2) (its:=[.list aD]) hM (PR hM) g fun v Sz st vs ds g=>?_;rw [aH,aB];refine EJ (n:=n+0) (its:=[]) hM (PX hM) g fun v Sz st vs ds g=>?_;exact g.fin _
variable{most:Nat}
def bU (f:Nat->List D->Nat):List (List D)->Nat->Nat
 | [],n=>n
 | ds::es,n=>if n<9000 then bU f es (f n ds)else n
def By:D->Nat
 | .s l=>l.length
 | _=>0
def bH:D->Nat
 | .l es=>es.length
 | _=>0
def ats (ds:List D) (j:Nat):D:=(ds[j]?).getD (.b false)
def yT (n:Nat) (ds:List D):Nat:=n+1+By (ats ds 0) / 8
def vV (n:Nat) (ds:List D):Nat:=n+3+bH (ats ds 1)
def HP (n:Nat) (ds:List D):Nat:=n+10+bH (ats ds 10)+By (ats ds 9) / 8
theorem qO.at{Sz:St}{C:Nat->Prop}{its:List It}{b o:Nat}{ds:List D} (h:qO Sz C its b o ds) (j:Nat){it:It} (hj:its[j]? =some it):∃v,Rd Sz C it v (ats ds j)/\∀K,aN (pt b (o+j)) Sz K=K v Sz:=by
 obtain⟨d,hd,hc⟩:=h.cell j hj;obtain⟨v,hv,hld⟩:=hc.ld;have:ats ds j=d:=by unfold ats;rw [hd];rfl
 exact⟨v,by rw [this];exact hv,hld⟩
theorem Rd.CV{Sz:St}{C:Nat->Prop}{v:Value}{d:D} (h:Rd Sz C .text v d):By d<=140737488355328/\∀K,nI v K=K (.int .i64 (.ofNat (By d))):=by
 obtain⟨l,rfl,rfl,hl⟩:=h.uU;exact⟨hl,fun K=>zV l K⟩
theorem Rd.bD{Sz:St}{C:Nat->Prop}{its:List It}{v:Value}{d:D} (h:Rd Sz C (.list its) v d):bH d<=140737488355328/\∀K,bO v K=K (.int .i64 (.ofNat (bH d))):=by
 obtain⟨es,rfl⟩:=h.iW;obtain⟨⟨b,c,rfl⟩,hN⟩:=h.len;exact⟨hN,fun K=>rfl⟩
theorem Rd.numsL{Sz:St}{C:Nat->Prop}{v:Value}{d:D} (h:Rd Sz C .nums v d):bH d<=140737488355328/\∀K,bO v K=K (.int .i64 (.ofNat (bH d))):=by
 cases h with | nums h=>exact h.bD
theorem Rd.at{Sz:St}{C:Nat->Prop}{its:List It}{v:Value}{es:List (List D)} (h:Rd Sz C (.list its) v (.l es)){i:Nat} (hi:i<es.length) (sz:Nat) (hsz:its.length=sz):
 ∃b o,qO Sz C its b o es[i]/\∀K,dC sz v (.int .i64 (.ofNat i)) K=K (pt b o):=by
 obtain⟨b,o,sp,c,rfl,hsp,hst⟩:=h.elem (k:=i) (List.getElem?_eq_getElem hi);subst hsz;exact⟨b,o+i*its.length,hst,fun K=>Fc _ b o i _ c sp hsp hi K⟩
theorem Ap{n:Nat}{Sz:St}{C:Nat->Prop}{v:Value}{es:List (List D)} (hv:Rd Sz C (.list bA) v (.l es)) (K:VK):
 ∀(r i m N:Nat),i+r=es.length->r<m->kH (X most n) m v (.int .i64 (.ofNat N)) (.int .i64 (.ofNat i)) Sz K=K (.int .i64 (.ofNat (bU yT (es.drop i) N))) Sz:=by
 obtain⟨hN,hlen⟩:=hv.bD;intro r;induction r with
 | zero=>
  intro i m N hi hm;obtain⟨m,rfl⟩:=Nat.exists_eq_succ_of_ne_zero (show m≠0 by omega);rw [sR];unfold mQ;rw [hlen,aG,show decide (i<bH (.l es))=false from decide_eq_false (show ¬i<es.length by omega)];simp only [cL,cG,bJ,cA];rw [List.drop_of_length_le (by omega)];rfl
 | succ r ih=>
  intro i m N hi hm;obtain⟨m,rfl⟩:=Nat.exists_eq_succ_of_ne_zero (show m≠0 by omega);have hlt:i<es.length:=by omega
  rw [sR];unfold mQ;rw [hlen,aG,show decide (i<bH (.l es))=true from decide_eq_true (show i<es.length from hlt)];simp only [cL,cF,bL,aG,iX];rw [List.drop_eq_getElem_cons hlt];unfold bU;by_cases h9:N<9000
  ·rw [if_pos h9,if_pos (by simpa using h9)]
   obtain⟨b,o,hst,hix⟩:=hv.at hlt 1 rfl;obtain⟨u,hu,hld⟩:=hst.at 0 (it:= .text) rfl;obtain⟨hL,hlt'⟩:=hu.CV;have hlen2:bH (.l es)=es.length:=rfl;rw [Nat.add_zero]at hld;rw [aP _ _ _ _ (by omega),hix,hld,hlt',EA _ _ _ _ (by omega) (by omega),aP _ _ _ _ (by omega),aP _ _ _ _ (by omega)];exact ih (i+1) m _ (by omega) (by omega)
  ·rw [if_neg h9,if_neg (by simpa using h9)]
theorem UW{n:Nat} (hm:140737488355328<most){Sz:St}{C:Nat->Prop}{v:Value}{es:List (List D)} (hv:Rd Sz C (.list bA) v (.l es)) (K:VK):
 (X most (n+1)).C mI [v] Sz K=K (.int .i64 (.ofNat (bU yT es 0))) Sz:=by
 rw [aT (by rfl),RI];unfold DA;obtain⟨hN,hlen⟩:=hv.bD;have hlen2:bH (.l es)=es.length:=rfl;rw [bP];exact Ap hv K es.length 0 most 0 (by omega) (by omega)
theorem Cc{n:Nat}{Sz:St}{C:Nat->Prop}{v:Value}{es:List (List D)} (hv:Rd Sz C (.list bB) v (.l es)) (K:VK):
 ∀(r i m N:Nat),i+r=es.length->r<m->kV (X most n) m v (.int .i64 (.ofNat N)) (.int .i64 (.ofNat i)) Sz K=K (.int .i64 (.ofNat (bU vV (es.drop i) N))) Sz:=by
 obtain⟨hN,hlen⟩:=hv.bD;intro r;induction r with
 | zero=>
  intro i m N hi hm;obtain⟨m,rfl⟩:=Nat.exists_eq_succ_of_ne_zero (show m≠0 by omega);rw [uE];unfold oA;rw [hlen,aG,show decide (i<bH (.l es))=false from decide_eq_false (show ¬i<es.length by omega)];simp only [cL,cG,bJ,cA];rw [List.drop_of_length_le (by omega)];rfl
 | succ r ih=>
  intro i m N hi hm;obtain⟨m,rfl⟩:=Nat.exists_eq_succ_of_ne_zero (show m≠0 by omega);have hlt:i<es.length:=by omega
  rw [uE];unfold oA;rw [hlen,aG,show decide (i<bH (.l es))=true from decide_eq_true (show i<es.length from hlt)];simp only [cL,cF,bL,aG,iX];rw [List.drop_eq_getElem_cons hlt];unfold bU;by_cases h9:N<9000
  ·rw [if_pos h9,if_pos (by simpa using h9)]
   obtain⟨b,o,hst,hix⟩:=hv.at hlt 2 rfl;obtain⟨u,hu,hld⟩:=hst.at 1 (it:= .nums) rfl;obtain⟨hL,hlt'⟩:=hu.numsL;have hlen2:bH (.l es)=es.length:=rfl;rw [aP _ _ _ _ (by omega),hix,aB,hld,hlt',aP _ _ _ _ (by omega),aP _ _ _ _ (by omega)];exact ih (i+1) m _ (by omega) (by omega)
  ·rw [if_neg h9,if_neg (by simpa using h9)]
theorem Ag{n:Nat} (hm:140737488355328<most){Sz:St}{C:Nat->Prop}{v:Value}{es:List (List D)} (hv:Rd Sz C (.list bB) v (.l es)) (K:VK):
 (X most (n+1)).C oB [v] Sz K=K (.int .i64 (.ofNat (bU vV es 0))) Sz:=by
 rw [aT (by rfl),TH];unfold FH;obtain⟨hN,hlen⟩:=hv.bD;have hlen2:bH (.l es)=es.length:=rfl;rw [bP];exact Cc hv K es.length 0 most 0 (by omega) (by omega)
theorem Cd{n:Nat}{Sz:St}{C:Nat->Prop}{v:Value}{es:List (List D)} (hv:Rd Sz C (.list aV) v (.l es)) (K:VK):
 ∀(r i m N:Nat),i+r=es.length->r<m->kW (X most n) m v (.int .i64 (.ofNat N)) (.int .i64 (.ofNat i)) Sz K=K (.int .i64 (.ofNat (bU HP (es.drop i) N))) Sz:=by
 obtain⟨hN,hlen⟩:=hv.bD;intro r;induction r with
 | zero=>
  intro i m N hi hm;obtain⟨m,rfl⟩:=Nat.exists_eq_succ_of_ne_zero (show m≠0 by omega);rw [uF];unfold oC;rw [hlen,aG,show decide (i<bH (.l es))=false from decide_eq_false (show ¬i<es.length by omega)];simp only [cL,cG,bJ,cA];rw [List.drop_of_length_le (by omega)];rfl
 | succ r ih=>
  intro i m N hi hm;obtain⟨m,rfl⟩:=Nat.exists_eq_succ_of_ne_zero (show m≠0 by omega);have hlt:i<es.length:=by omega
  rw [uF];unfold oC;rw [hlen,aG,show decide (i<bH (.l es))=true from decide_eq_true (show i<es.length from hlt)];simp only [cL,cF,bL,aG,iX];rw [List.drop_eq_getElem_cons hlt];unfold bU;by_cases h9:N<9000
  ·rw [if_pos h9,if_pos (by simpa using h9)]
   obtain⟨b,o,hst,hix⟩:=hv.at hlt 11 rfl;obtain⟨u,hu,hld⟩:=hst.at 10 (it:= .nums) rfl;obtain⟨hL,hlt'⟩:=hu.numsL;obtain⟨u2,hu2,Kz⟩:=hst.at 9 (it:= .text) rfl;obtain⟨hL2,hlt2⟩:=hu2.CV;have hlen2:bH (.l es)=es.length:=rfl;rw [aP _ _ _ _ (by omega),hix,aB,hld,hlt',aP _ _ _ _ (by omega),hix,aB,Kz,hlt2,EA _ _ _ _ (by omega) (by omega),aP _ _ _ _ (by omega),aP _ _ _ _ (by omega)];exact ih (i+1) m _ (by omega) (by omega)
  ·rw [if_neg h9,if_neg (by simpa using h9)]
theorem Ah{n:Nat} (hm:140737488355328<most){Sz:St}{C:Nat->Prop}{v:Value}{es:List (List D)} (hv:Rd Sz C (.list aV) v (.l es)) (K:VK):
 (X most (n+1)).C oD [v] Sz K=K (.int .i64 (.ofNat (bU HP es 0))) Sz:=by
 rw [aT (by rfl),TI];unfold FI;obtain⟨hN,hlen⟩:=hv.bD;have hlen2:bH (.l es)=es.length:=rfl;rw [bP];exact Cd hv K es.length 0 most 0 (by omega) (by omega)
variable{most:Nat}
def bT:D->List (List D)
 | .l es=>es
 | _=>[]
def HF (n:Nat) (ds:List D):Nat:=n+1+bH (ats ds 0)
def pD (n:Nat) (ds:List D):Nat:=bU HF (bT (ats ds 2)) (n+9+bH (ats ds 3)+bH (ats ds 6)+bU vV (bT (ats ds 4)) 0+bU vV (bT (ats ds 5)) 0)
theorem KN (f:Nat->List D->Nat) (M:Nat):∀(es:List (List D)) (n:Nat),(∀ds∈es,∀n,n<9000->f n ds<=9000+M)->n<=9000+M->bU f es n<=9000+M:=by
 intro es;induction es with
 | nil=>intro n _ h;exact h
 | cons ds es ih=>
  intro n h hn;unfold bU;split
  ·rename_i h9
   exact ih _ (fun d hd=>h d (.tail _ hd)) (h ds (.head _) n h9)
  ·exact hn
theorem Rd.mem{Sz:St}{C:Nat->Prop}{its:List It}{v:Value}{es:List (List D)} (h:Rd Sz C (.list its) v (.l es)){ds:List D} (hd:ds∈es):∃b o,qO Sz C its b o ds:=by
 obtain⟨i,hi⟩:=List.getElem?_of_mem hd;obtain⟨b,o,sp,c,_,_,hst⟩:=h.elem hi;exact⟨b,_,hst⟩
theorem XB{Sz:St}{C:Nat->Prop}{v:Value}{es:List (List D)} (h:Rd Sz C (.list bB) v (.l es)):bU vV es 0<=9000+140737488355332:=by
 refine KN _ _ es 0 (fun ds hd n hn=>?_) (by omega);obtain⟨b,o,hst⟩:=h.mem hd;obtain⟨u,hu,_⟩:=hst.at 1 (it:= .nums) rfl;have:=hu.numsL.1;unfold vV;omega
theorem Ln{Sz:St}{C:Nat->Prop}{v:Value}{es:List (List D)} (h:Rd Sz C (.list bA) v (.l es)):bU yT es 0<=9000+140737488355332:=by
 refine KN _ _ es 0 (fun ds hd n hn=>?_) (by omega);obtain⟨b,o,hst⟩:=h.mem hd;obtain⟨u,hu,_⟩:=hst.at 0 (it:= .text) rfl;have:=hu.CV.1;unfold yT;omega
theorem Sh{Sz:St}{C:Nat->Prop}{v:Value}{es:List (List D)} (h:Rd Sz C (.list aV) v (.l es)):bU HP es 0<=9000+422212465065990:=by
 refine KN _ _ es 0 (fun ds hd n hn=>?_) (by omega);obtain⟨b,o,hst⟩:=h.mem hd;obtain⟨u,hu,_⟩:=hst.at 10 (it:= .nums) rfl;obtain⟨u2,hu2,_⟩:=hst.at 9 (it:= .text) rfl;have:=hu.numsL.1;have:=hu2.CV.1;unfold HP;omega
theorem aCA{Sz:St}{C:Nat->Prop}{v:Value}{es:List (List D)} (h:Rd Sz C (.list cO) v (.l es)) (N:Nat) (hN:N<=9000+1125899906842624):bU HF es N<=9000+1125899906842624:=by
 refine KN _ _ es N (fun ds hd n hn=>?_) hN;obtain⟨b,o,hst⟩:=h.mem hd;obtain⟨u,hu,_⟩:=hst.at 0 (it:= .nums) rfl;have:=hu.numsL.1;unfold HF;omega
theorem dL{Sz:St}{C:Nat->Prop}{its:List It}{v:Value}{d:D} (h:Rd Sz C (.list its) v d):d= .l (bT d):=by
 obtain⟨es,rfl⟩:=h.iW;rfl
theorem Lp{Sz:St}{C:Nat->Prop}{v:Value}{es:List (List D)} (h:Rd Sz C (.list aD) v (.l es)):bU pD es 0<=9000+1125899906842624:=by
 refine KN _ _ es 0 (fun ds hd n hn=>?_) (by omega);obtain⟨b,o,hst⟩:=h.mem hd;obtain⟨u2,h2,_⟩:=hst.at 2 (it:= .list cO) rfl;obtain⟨u3,h3,_⟩:=hst.at 3 (it:= .nums) rfl;obtain⟨u4,h4,_⟩:=hst.at 4 (it:= .list bB) rfl;obtain⟨u5,h5,_⟩:=hst.at 5 (it:= .list bB) rfl;obtain⟨u6,h6,_⟩:=hst.at 6 (it:= .nums) rfl;have a3:=h3.numsL.1;have a6:=h6.numsL.1;rw [dL h4]at h4;rw [dL h5]at h5;rw [dL h2]at h2;have a4:=XB h4;have a5:=XB h5;unfold pD;exact aCA h2 _ (by omega)
theorem GO{Sz:St}{C:Nat->Prop}{v:Value}{d:D} (h:Rd Sz C .nums v d):gF v v=true:=by
 cases h with | nums h=>exact cW h
theorem Vz{n:Nat}{Sz:St}{C:Nat->Prop}{v:Value}{es:List (List D)} (hv:Rd Sz C (.list aD) v (.l es)){i:Nat} (hi:i<es.length) (m0:Nat) (K:VK):
 ∀(r k m N:Nat),k+r=bH (ats es[i] 2)->r<m->gC (X most n) m m0 v (.int .i64 (.ofNat N)) (.int .i64 (.ofNat i)) (.int .i64 (.ofNat k)) Sz K=
  gY (X most n) m0 v (.int .i64 (.ofNat (bU HF ((bT (ats es[i] 2)).drop k) N))) (.int .i64 (.ofNat (i+1))) Sz K:=by
 obtain⟨hN,_⟩:=hv.bD;obtain⟨b,o,hst,hix⟩:=hv.at hi 8 rfl;obtain⟨u,hu,hld⟩:=hst.at 2 (it:= .list cO) rfl;have hes:bH (.l es)=es.length:=rfl;have hu':=hu;rw [dL hu]at hu';obtain⟨hL,hlen⟩:=hu.bD
 have hLe:bH (ats es[i] 2)=(bT (ats es[i] 2)).length:=by conv=>lhs;rw [dL hu]
                                                         rfl
 intro r;induction r with
 | zero=>
  intro k m N hk hm;obtain⟨m,rfl⟩:=Nat.exists_eq_succ_of_ne_zero (show m≠0 by omega);rw [mU];unfold iU;rw [hix,aB,hld,hlen,aG,show decide (k<bH (ats es[i] 2))=false from decide_eq_false (by omega)];simp only [cL,cG,bJ,cA];rw [List.drop_of_length_le (by omega),aP _ _ _ _ (by omega)];rfl
 | succ r ih=>
  intro k m N hk hm;obtain⟨m,rfl⟩:=Nat.exists_eq_succ_of_ne_zero (show m≠0 by omega);have hlt:k<(bT (ats es[i] 2)).length:=by omega
  rw [mU];unfold iU;rw [hix,aB,hld,hlen,aG,show decide (k<bH (ats es[i] 2))=true from decide_eq_true (by omega)];simp only [cL,cF,bL,aG,iX];rw [List.drop_eq_getElem_cons hlt];unfold bU;by_cases h9:N<9000
  ·rw [if_pos h9,if_pos (by simpa using h9)]
   obtain⟨b2,o2,hst2,hix2⟩:=hu'.at hlt 1 rfl;obtain⟨u2,hu2,Kz⟩:=hst2.at 0 (it:= .nums) rfl;obtain⟨hL2,hlt2⟩:=hu2.numsL;rw [Nat.add_zero]at Kz;rw [aP _ _ _ _ (by omega),hix,aB,hld,hix2,Kz,hlt2,aP _ _ _ _ (by omega),aP _ _ _ _ (by omega)];exact ih (k+1) m _ (by omega) (by omega)
  ·rw [if_neg h9,if_neg (by simpa using h9),aP _ _ _ _ (by omega)]
theorem Af{n:Nat} (tU:140737488355328<most){Sz:St}{C:Nat->Prop}{v:Value}{es:List (List D)} (hv:Rd Sz C (.list aD) v (.l es)) (K:VK):
 ∀(r i m N:Nat),i+r=es.length->r<m->gY (X most (n+1)) m v (.int .i64 (.ofNat N)) (.int .i64 (.ofNat i)) Sz K=K (.int .i64 (.ofNat (bU pD (es.drop i) N))) Sz:=by
 obtain⟨hN,hlen⟩:=hv.bD;intro r;induction r with
 | zero=>
  intro i m N hi hm;obtain⟨m,rfl⟩:=Nat.exists_eq_succ_of_ne_zero (show m≠0 by omega);rw [sO];unfold mO;rw [hlen,aG,show decide (i<bH (.l es))=false from decide_eq_false (show ¬i<es.length by omega)];simp only [cL,cG,bJ,cA];rw [List.drop_of_length_le (by omega)];rfl
 | succ r ih=>
  intro i m N hi hm;obtain⟨m,rfl⟩:=Nat.exists_eq_succ_of_ne_zero (show m≠0 by omega);have hlt:i<es.length:=by omega
  rw [sO];unfold mO;rw [hlen,aG,show decide (i<bH (.l es))=true from decide_eq_true (show i<es.length from hlt)];simp only [cL,cF,bL,aG,iX];rw [List.drop_eq_getElem_cons hlt];unfold bU;by_cases h9:N<9000
  ·rw [if_pos h9,if_pos (by simpa using h9)]
   obtain⟨b,o,hst,hix⟩:=hv.at hlt 8 rfl;obtain⟨u2,h2,l2⟩:=hst.at 2 (it:= .list cO) rfl;obtain⟨u3,h3,l3⟩:=hst.at 3 (it:= .nums) rfl;obtain⟨u4,h4,l4⟩:=hst.at 4 (it:= .list bB) rfl;obtain⟨u5,h5,l5⟩:=hst.at 5 (it:= .list bB) rfl;obtain⟨u6,h6,l6⟩:=hst.at 6 (it:= .nums) rfl;obtain⟨a3,b3⟩:=h3.numsL;obtain⟨a6,b6⟩:=h6.numsL;have h4':=h4;have h5':=h5;rw [dL h4]at h4';rw [dL h5]at h5';have a4:=XB h4';have a5:=XB h5';have hlen2:bH (.l es)=es.length:=rfl;have a2:=h2.bD.1;rw [aP _ _ _ _ (by omega),hix,aB,l3,b3,aP _ _ _ _ (by omega),hix,aB,l6,b6,aP _ _ _ _ (by omega),hix,aB,l4,hix,aB,l5];rw [Ag (n:=n) tU h4',l5,aQ (cW h5),l6,aQ (GO h6),l3,aQ (GO h3),aP _ _ _ _ (by omega)];rw [Ag (n:=n) tU h5',l6,aQ (GO h6),l3,aQ (GO h3),aP _ _ _ _ (by omega),bP];rw [Vz hv hlt m K (bH (ats es[i] 2)) 0 most _ (by omega) (by omega),List.drop_zero];exact ih (i+1) m _ (by omega) (by omega)
  ·rw [if_neg h9,if_neg (by simpa using h9)]
theorem UV{n:Nat} (hm:140737488355328<most){Sz:St}{C:Nat->Prop}{v:Value}{es:List (List D)} (hv:Rd Sz C (.list aD) v (.l es)) (K:VK):
 (X most (n+2)).C kD [v] Sz K=K (.int .i64 (.ofNat (bU pD es 0))) Sz:=by
 rw [aT (by rfl),RC];unfold CW;obtain⟨hN,hlen⟩:=hv.bD;have hlen2:bH (.l es)=es.length:=rfl;rw [bP];exact Af hm hv K es.length 0 most 0 (by omega) (by omega)
variable{most:Nat}
def nQ (n:Nat) (ds:List D):Nat:=n+3+bH (ats ds 2)
def rX (n:Nat) (ds:List D):Nat:=n+4+By (ats ds 4) / 8
def BI (n:Nat) (ds:List D):Nat:=n+2+By (ats ds 1) / 8
def N1 (ds:List D):Nat:=bU yT (bT (ats ds 1)) 0+bU yT (bT (ats ds 22)) 0+2*bH (ats ds 23)+2*bH (ats ds 24)+bU pD (bT (ats ds 26)) 0+bU pD (bT (ats ds 29)) 0+bU HP (bT (ats ds 28)) 0+bU HP (bT (ats ds 21)) 0
def N3 (ds:List D) (n:Nat):Nat:=n+(By (ats ds 3)+By (ats ds 12)+By (ats ds 13)+By (ats ds 18)) / 8
def KD (ds:List D):Nat:=bU BI (bT (ats ds 20)) (bU rX (bT (ats ds 19)) (N3 ds (bU nQ (bT (ats ds 27)) (N1 ds))))
theorem EO{f:Nat->List D->Nat}{ds:List D}{es:List (List D)}{n:Nat} (h:n<9000):bU f (ds::es) n=bU f es (f n ds):=if_pos h
theorem EP{f:Nat->List D->Nat}{ds:List D}{es:List (List D)}{n:Nat} (h:¬n<9000):bU f (ds::es) n=n:=if_neg h
theorem kR{Sz:St}{i:Nat}{vs cs:List Value}{e:TypeId} (h:Sz.obj i=some (.cells vs e .exact)) (hl:cs.length=vs.length) (h1:cs.all oneCell=true) (n:Nat) (hn:n=cs.length) (k:St->Bool):
 cQ n (pt i 0) (.agg ⟨cs⟩) Sz k=k (Sz.set i (.cells cs e .exact)):=by
 show(match allB oneCell cs with | true=>(mJ cs fun m=>match Nat.beq m n with | true=>eX Sz i 0 cs k | false=>false) | false=>false)=_;rw [jW,h1,cV,hn];simp only [show Nat.beq cs.length cs.length=true from Nat.beq_refl _];unfold eX;rw [iY h];show iA 0 cs vs (fun vs=>uG Sz i (.cells vs e .exact) k)=_;rw [gS,if_pos (by omega),jX]
 have:splice 0 cs vs=cs:=by
  unfold splice;rw [List.take_zero,List.nil_append,List.drop_of_length_le (by omega),List.append_nil]
 rw [this]
theorem Do{n:Nat}{Sz:St}{C:Nat->Prop}{b:Nat}{ds:List D} (hs:qO Sz C bN b 0 ds) (K:VK):
 ∀(r i m N:Nat),i+r=bH (ats ds 20)->r<m->N<=72057594037927936->kE (X most n) m (pt b 0) (.int .i64 (.ofNat N)) (.int .i64 (.ofNat i)) Sz K=K (.bool (decide (9000<=bU BI ((bT (ats ds 20)).drop i) N))) Sz:=by
 obtain⟨u,hu,hld⟩:=hs.at 20 (it:= .list bC) rfl;have hu':=hu;rw [dL hu]at hu';obtain⟨hL,hlen⟩:=hu.bD
 have hLe:bH (ats ds 20)=(bT (ats ds 20)).length:=by
  conv=>lhs;rw [dL hu]
  rfl
 have hld:∀K,aN (pt b (0+2+18)) Sz K=K u Sz:=hld;intro r;induction r with
 | zero=>
  intro i m N hi hm _;obtain⟨m,rfl⟩:=Nat.exists_eq_succ_of_ne_zero (show m≠0 by omega);rw [sP];unfold mP;rw [aB,aB,hld,hlen,aG,show decide (i<bH (ats ds 20))=false from decide_eq_false (by omega)];simp only [cL,cG,bJ,cA];rw [List.drop_of_length_le (by omega),RX];rfl
 | succ r ih=>
  intro i m N hi hm hNb;obtain⟨m,rfl⟩:=Nat.exists_eq_succ_of_ne_zero (show m≠0 by omega);have hlt:i<(bT (ats ds 20)).length:=by omega
  rw [sP];unfold mP;rw [aB,aB,hld,hlen,aG,show decide (i<bH (ats ds 20))=true from decide_eq_true (by omega)];simp only [cL,cF,bL,aG,iX];rw [List.drop_eq_getElem_cons hlt];unfold bU;by_cases h9:N<9000
  ·rw [if_pos h9,if_pos (by simpa using h9)]
   obtain⟨b2,o2,hst2,hix2⟩:=hu'.at hlt 2 rfl;obtain⟨u2,hu2,Kz⟩:=hst2.at 1 (it:= .text) rfl;obtain⟨hL2,hlt2⟩:=hu2.CV;rw [aP _ _ _ _ (by omega),aB,aB,hld,hix2,aB,Kz,hlt2,EA _ _ _ _ (by omega) (by omega),aP _ _ _ _ (by omega),aP _ _ _ _ (by omega)];exact ih (i+1) m _ (by omega) (by omega) (by omega)
  ·rw [if_neg h9,if_neg (by simpa using h9),RX]
theorem Pn{n:Nat}{Sz:St}{C:Nat->Prop}{b b2:Nat}{ds vs:List D} (hs:qO Sz C bN b 0 ds) (hv:qO Sz C bQ b2 0 vs) (tU:140737488355328<most) (K:VK):
 ∀(r i m N:Nat),i+r=bH (ats vs 14)->r<m->N<=72057594037927936->iM (X most n) m (pt b 0) (.int .i64 (.ofNat N)) (pt b2 0) (.int .i64 (.ofNat i)) Sz K=K (.bool (decide (9000<=bU BI (bT (ats ds 20)) (bU rX ((bT (ats vs 14)).drop i) N)))) Sz:=by
 obtain⟨u,hu,hld⟩:=hv.at 14 (it:= .list aW) rfl;obtain⟨us,hus,_⟩:=hs.at 20 (it:= .list bC) rfl;have hu':=hu;rw [dL hu]at hu';obtain⟨hL,hlen⟩:=hu.bD
 have hLe:bH (ats vs 14)=(bT (ats vs 14)).length:=by
  conv=>lhs;rw [dL hu]
  rfl
 have hLs:=hus.bD.1;intro r;induction r with
 | zero=>
  intro i m N hi hm hNb;obtain⟨m,rfl⟩:=Nat.exists_eq_succ_of_ne_zero (show m≠0 by omega);rw [uB];unfold nY;rw [aB,hld,hlen,aG,show decide (i<bH (ats vs 14))=false from decide_eq_false (by omega)];simp only [cL,cG,bJ,cA];rw [List.drop_of_length_le (by omega),bP,Do hs K (bH (ats ds 20)) 0 most N (by omega) (by omega) hNb,List.drop_zero];rfl
 | succ r ih=>
  intro i m N hi hm hNb;obtain⟨m,rfl⟩:=Nat.exists_eq_succ_of_ne_zero (show m≠0 by omega);have hlt:i<(bT (ats vs 14)).length:=by omega
  rw [uB];unfold nY;rw [aB,hld,hlen,aG,show decide (i<bH (ats vs 14))=true from decide_eq_true (by omega)];simp only [cL,cF,bL,aG,iX];rw [List.drop_eq_getElem_cons hlt];by_cases h9:N<9000
  ·rw [if_pos (by simpa using h9),EO h9]
   obtain⟨b3,o3,hst3,hix3⟩:=hu'.at hlt 5 rfl;obtain⟨u3,hu3,aAq⟩:=hst3.at 4 (it:= .text) rfl;obtain⟨hL3,hlt3⟩:=hu3.CV;rw [aP _ _ _ _ (by omega),aB,hld,hix3,aB,aAq,hlt3,EA _ _ _ _ (by omega) (by omega),aP _ _ _ _ (by omega),aP _ _ _ _ (by omega)];exact ih (i+1) m _ (by omega) (by omega) (by omega)
  ·rw [if_neg (by simpa using h9),EP h9,bP,Do hs K (bH (ats ds 20)) 0 most N (by omega) (by omega) hNb,List.drop_zero]
theorem bV (ds:List D) (k m j:Nat) (h:j<m):ats ((ds.drop k).take m) j=ats ds (k+j):=by
 unfold ats;rw [List.getElem?_take,if_pos h,List.getElem?_drop]
theorem Po{n:Nat}{Sz:St}{C:Nat->Prop}{b:Nat}{ds:List D} (hs:qO Sz C bN b 0 ds) (tU:140737488355328<most){K:VK}:
 ∀(r i m N:Nat),i+r=bH (ats ds 27)->r<m->N<=36028797018963968->(∀S',aZ Sz S'->K (.bool (decide (9000<=bU BI (bT (ats ds 20)) (bU rX (bT (ats ds 19)) (N3 ds (bU nQ ((bT (ats ds 27)).drop i) N)))))) S'=true)->
  nE (X most n) m (pt b 0) (.int .i64 (.ofNat N)) (.int .i64 (.ofNat i)) Sz K=true:=by
 obtain⟨u,hu,hld⟩:=hs.at 27 (it:= .list bE) rfl;obtain⟨v3,h3,l3⟩:=hs.at 3 (it:= .text) rfl;obtain⟨v12,h12,l12⟩:=hs.at 12 (it:= .text) rfl;obtain⟨v13,h13,l13⟩:=hs.at 13 (it:= .text) rfl;obtain⟨v18,h18,l18⟩:=hs.at 18 (it:= .text) rfl;obtain⟨v19,h19,l19⟩:=hs.at 19 (it:= .list aW) rfl;have a3:=h3.CV.1;have a12:=h12.CV.1;have a13:=h13.CV.1;have a18:=h18.CV.1;have a19:=h19.bD.1;have hu':=hu;rw [dL hu]at hu';obtain⟨hL,hlen⟩:=hu.bD
 have hLe:bH (ats ds 27)=(bT (ats ds 27)).length:=by
  conv=>lhs;rw [dL hu]
  rfl
 have behind:∀N,N<=36028797018963968->(∀S',aZ Sz S'->K (.bool (decide (9000<=bU BI (bT (ats ds 20)) (bU rX (bT (ats ds 19)) (N3 ds N))))) S'=true)->
  (aC 2 (pt b 0) fun v17=>aC 3 v17 fun v18=>aR 15 v18 Sz fun v19 Sz=>
   cC [zI,zI,zI,zI,zI,zI,zI,zS,zS,zI,zI,zF,zF,zS,zL] 25 Sz fun v20 Sz=>
   cQ 15 v20 v19 Sz fun Sz=>aC 2 (pt b 0) fun v21=>aC 1 v21 fun v22=>aN v22 Sz fun v23 Sz=>nI v23 fun v24=>aC 7 v20 fun v25=>aN v25 Sz fun v26 Sz=>nI v26 fun v27=>aK PP .add 3 v24 v27 fun v28=>
   aC 8 v20 fun v29=>aN v29 Sz fun v30 Sz=>nI v30 fun v31=>aK PP .add 3 v28 v31 fun v32=>aC 13 v20 fun v33=>aN v33 Sz fun v34 Sz=>nI v34 fun v35=>aK PP .add 3 v32 v35 fun v36=>
   aK PP .quo 3 v36 (.int .i64 (.ofNat 8)) fun v37=>aK PP .add 3 (.int .i64 (.ofNat N)) v37 fun v38=>iM (X most n) (X most n).most (pt b 0) v38 v20 zI Sz K)=true:=by
  intro N hN hKN;obtain⟨vs,e,ck,g1,g2,g3,g4⟩:=hs.row;have g3:0+30<=vs.length:=g3
  have hone:((vs.drop 5).take 15).all oneCell=true:=by
   refine List.all_eq_true.2 fun v hv=>?_;obtain⟨j,hj⟩:=List.getElem?_of_mem hv;rw [List.getElem?_take]at hj;split at hj
   ·rename_i aHC
    rw [List.getElem?_drop]at hj;have hlt:5+j<bN.length:=by show 5+j<30;omega
    exact(g4 (5+j) _ v _ (List.getElem?_eq_getElem hlt) (by rw [Nat.zero_add];exact hj) (List.getElem?_eq_getElem (by rw [hs.len];exact hlt))).one
   ·cases hj
  rw [aB,aB,fW (n:=15) (o:=0+2+3) g1 (by omega),eB,kR aF (by simp;omega) hone 15 (by simp;omega)]
  let S2z:=(Sz.new (.cells [zI,zI,zI,zI,zI,zI,zI,zS,zS,zI,zI,zF,zF,zS,zL] 25 .exact)).set Sz.n (.cells ((vs.drop (0+2+3)).take 15) 25 .exact)
  have hx:aZ Sz S2z:=⟨Nat.le_succ _,fun i hi=>by rw [aJ (show i≠Sz.n by omega),aL (by omega)]⟩;have f:cM C Sz S2z (fun _=>False):=⟨hx.n,fun i hi _=>hx.same i hi,fun _ h=>h.elim⟩;have hs2:=hs.fr f
  have hv2:qO S2z (fun _=>False) bQ Sz.n 0 ((ds.drop 5).take 15):=by
   refine⟨⟨_,25,.exact,aX,.inr (.inl rfl),by show 0+15<=_;rw [List.length_take,List.length_drop];omega,fun j it v d a1 a2 a3=>?_⟩,by show Sz.n<Sz.n+1;omega,fun h=>h,by rw [List.length_take,List.length_drop,hs.len];rfl⟩;have hj:j<15:=(List.getElem?_eq_some_iff.1 a1).1
   have a1':bN[5+j]? =some it:=by
    have:bQ=(bN.drop 5).take 15:=rfl;rw [this,List.getElem?_take,if_pos hj,List.getElem?_drop]at a1;exact a1
   have a2:((vs.drop 5).take 15)[0+j]? =some v:=a2;rw [Nat.zero_add,List.getElem?_take,if_pos hj,List.getElem?_drop]at a2;rw [List.getElem?_take,if_pos hj,List.getElem?_drop]at a3;exact(g4 (5+j) it v d a1' (by rw [Nat.zero_add];exact a2) a3).fr f
  obtain⟨w3,k3,m3⟩:=hs2.at 3 (it:= .text) rfl;obtain⟨w7,k7,m7⟩:=hv2.at 7 (it:= .text) rfl;obtain⟨w8,k8,m8⟩:=hv2.at 8 (it:= .text) rfl;obtain⟨HA,k13,m13⟩:=hv2.at 13 (it:= .text) rfl;have e14:ats ((ds.drop 5).take 15) 14=ats ds 19:=bV ds 5 15 14 (by omega);rw [bV ds 5 15 7 (by omega)]at k7;rw [bV ds 5 15 8 (by omega)]at k8;rw [bV ds 5 15 13 (by omega)]at k13;obtain⟨p3,q3⟩:=k3.CV;obtain⟨p7,q7⟩:=k7.CV;obtain⟨p8,q8⟩:=k8.CV;obtain⟨p13,q13⟩:=k13.CV;have m3:∀K,aN (pt b (0+2+1)) S2z K=K w3 S2z:=m3;rw [aB,aB,m3,q3,aB,m7,q7,aP _ _ _ _ (by omega),aB,m8,q8,aP _ _ _ _ (by omega),aB,m13,q13,aP _ _ _ _ (by omega),EA _ _ _ _ (by omega) (by omega),aP _ _ _ _ (by omega),bP];rw [Pn hs2 hv2 tU K (bH (ats ds 19)) 0 most _ (by rw [e14];omega) (by omega) (by omega),List.drop_zero,e14];exact hKN S2z hx
 intro r;induction r with
 | zero=>
  intro i m N hi hm hNb hKN;obtain⟨m,rfl⟩:=Nat.exists_eq_succ_of_ne_zero (show m≠0 by omega);rw [yJ];unfold qX;rw [aB,hld,hlen,aG,show decide (i<bH (ats ds 27))=false from decide_eq_false (by omega)];simp only [cL,cG,bJ,cA];rw [List.drop_of_length_le (by omega)]at hKN;exact behind N hNb hKN
 | succ r ih=>
  intro i m N hi hm hNb hKN;obtain⟨m,rfl⟩:=Nat.exists_eq_succ_of_ne_zero (show m≠0 by omega);have hlt:i<(bT (ats ds 27)).length:=by omega
  rw [yJ];unfold qX;rw [aB,hld,hlen,aG,show decide (i<bH (ats ds 27))=true from decide_eq_true (by omega)];simp only [cL,cF,bL,aG,iX];rw [List.drop_eq_getElem_cons hlt]at hKN;by_cases h9:N<9000
  ·rw [if_pos (by simpa using h9)]
   rw [EO h9]at hKN;obtain⟨b3,o3,hst3,hix3⟩:=hu'.at hlt 3 rfl;obtain⟨u3,hu3,aAq⟩:=hst3.at 2 (it:= .nums) rfl;obtain⟨hL3,hlt3⟩:=hu3.numsL;rw [aP _ _ _ _ (by omega),aB,hld,hix3,aB,aAq,hlt3,aP _ _ _ _ (by omega),aP _ _ _ _ (by omega)];exact ih (i+1) m _ (by omega) (by omega) (by omega) hKN
  ·rw [if_neg (by simpa using h9)]
   rw [EP h9]at hKN;exact behind N hNb hKN
theorem aCy{n:Nat} (tU:140737488355328<most){Sz:St}{C:Nat->Prop}{cs:List Value}{ds:List D} (h:lL Sz C bN cs ds){K:VK}
 (hK:∀S',aZ Sz S'->K (.bool (decide (9000<=KD ds))) S'=true):(X most (n+3)).C pS [.agg ⟨cs⟩] Sz K=true:=by
 rw [aT (by rfl),Bz];unfold MT;rw [eI (List.all_eq_true.2 h.one)];have hs:=h.Hl 34;obtain⟨u1,h1,l1⟩:=hs.at 1 (it:= .list bA) rfl;obtain⟨u21,h21,l21⟩:=hs.at 21 (it:= .list aV) rfl;obtain⟨u22,h22,l22⟩:=hs.at 22 (it:= .list bA) rfl;obtain⟨u23,h23,l23⟩:=hs.at 23 (it:= .list aY) rfl;obtain⟨u24,h24,l24⟩:=hs.at 24 (it:= .list aY) rfl;obtain⟨u26,Oj,l26⟩:=hs.at 26 (it:= .list aD) rfl;obtain⟨u27,h27,l27⟩:=hs.at 27 (it:= .list bE) rfl;obtain⟨u28,h28,l28⟩:=hs.at 28 (it:= .list aV) rfl;obtain⟨u29,Ok,l29⟩:=hs.at 29 (it:= .list aD) rfl;have l21:∀K,aN (pt Sz.n (0+2+19)) (Sz.new (.cells cs 34 .exact)) K=K u21 (Sz.new (.cells cs 34 .exact)):=l21;obtain⟨a23,b23⟩:=h23.bD;obtain⟨a24,b24⟩:=h24.bD;have a27:=h27.bD.1;have s1:=cW h1;have s21:=aQ (cW h21);have s22:=aQ (cW h22);have s23:=aQ (cW h23);have s24:=aQ (cW h24);have s26:=aQ (cW Oj);have s28:=aQ (cW h28);have s29:=aQ (cW Ok);rw [dL h1]at h1;rw [dL h21]at h21;rw [dL h22]at h22;rw [dL Oj]at Oj;rw [dL h28]at h28;rw [dL Ok]at Ok;have e1:=Ln h1;have e22:=Ln h22;have e21:=Sh h21;have e28:=Sh h28;have e26:=Lp Oj;have e29:=Lp Ok;rw [aB,l1,aB,l22,aB,l23,b23,Ji _ _ _ _ (by omega),aB,l24,b24,Ji _ _ _ _ (by omega),aB,l26,aB,l29,aB,l28,aB,aB,l21];rw [UW (n:=n+1) tU h1,l21,s21,l28,s28,l29,s29,l26,s26,l24,s24,l23,s23,l22,s22];rw [UW (n:=n+1) tU h22,l21,s21,l28,s28,l29,s29,l26,s26,l24,s24,l23,s23,aP _ _ _ _ (by omega),aP _ _ _ _ (by omega),aP _ _ _ _ (by omega)];rw [UV (n:=n) tU Oj,l21,s21,l28,s28,l29,s29,l24,s24,l23,s23,aP _ _ _ _ (by omega)];rw [UV (n:=n) tU Ok,l21,s21,l28,s28,l24,s24,l23,s23,aP _ _ _ _ (by omega)];rw [Ah (n:=n+1) tU h28,l21,s21,l24,s24,l23,s23,aP _ _ _ _ (by omega)];rw [Ah (n:=n+1) tU h21,l24,s24,l23,s23,aP _ _ _ _ (by omega),bP];refine Po hs tU (bH (ats ds 27)) 0 most _ (by omega) (by omega) (by omega) fun S' hx=>?_;exact hK S' ((aZ.new Sz _).trans hx)
def tP:List It->List D->Nat->Nat
 | [],_,_=>0
 | it::its,ds,j=>cost it (ats ds j)+tP its ds (j+1)
theorem Pp:∀(its:List It) (ds:List D) (j:Nat),j+its.length=ds.length->costs its (ds.drop j)=tP its ds j:=by
 intro its;induction its with
 | nil=>intro ds j _;rfl
 | cons it its ih=>
  intro ds j h;have hlt:j<ds.length:=by rw [List.length_cons]at h;omega
  rw [List.drop_eq_getElem_cons hlt];simp only [costs,tP];rw [ih ds (j+1) (by rw [List.length_cons]at h;omega)]
  congr 2
  unfold ats;rw [List.getElem?_eq_getElem hlt];rfl
theorem sQ{its:List It}{ds:List D} (h:ds.length=its.length):costs its ds=tP its ds 0:=by
 have:=Pp its ds 0 (by omega)
 rwa [List.drop_zero]at this
theorem aAK (d:D):cost .num d=8:=by cases d<;>rfl
theorem LI (d:D):cost .kind d=1:=by cases d<;>rfl
theorem jP (d:D):cost .int d=8:=by cases d<;>rfl
theorem LH (d:D):cost .is d=8:=by cases d<;>rfl
theorem nR (d:D):cost .text d=2050:=by cases d<;>rfl
theorem nT (d:D):cost .nums d=8194:=by cases d<;>rfl
theorem Dp (its:List It) (d:D):cost (.list its) d=8+(bT d).foldl (fun c x=>c+costs its x) 0:=by
 rw [<-mN];cases d<;>simp [cost,bT]
theorem uC (f:Nat->List D->Nat) (its:List It) (M:Nat):∀(es:List (List D)),(∀ds∈es,∀n,n<=f n ds/\(f n ds<9000->M*n+costs its ds<=M*f n ds))->
 ∀n,n<=bU f es n/\(bU f es n<9000->M*n+es.foldl (fun c x=>c+costs its x) 0<=M*bU f es n):=by
 intro es;induction es with
 | nil=>intro _ n;exact⟨Nat.le_refl _,fun _=>Nat.le_refl _⟩
 | cons ds es ih=>
  intro h n;obtain⟨h1,h2⟩:=h ds (.head _) n;obtain⟨i1,i2⟩:=ih (fun d hd=>h d (.tail _ hd)) (f n ds);by_cases h9:n<9000
  ·rw [EO h9]
   refine⟨Nat.le_trans h1 i1,fun hl=>?_⟩;have a:=i2 hl;have b:=h2 (by omega);rw [List.foldl_cons,mN];omega
  ·rw [EP h9]
   exact⟨Nat.le_refl _,fun hl=>absurd hl h9⟩
section
variable{Sz:St}{C:Nat->Prop}{v:Value}{es:List (List D)}
theorem Ai (h:Rd Sz C (.list bA) v (.l es)) (n:Nat):n<=bU yT es n/\(bU yT es n<9000->10400*n+es.foldl (fun c x=>c+costs bA x) 0<=10400*bU yT es n):=by
 refine uC yT bA 10400 es (fun ds hd n=>?_) n;obtain⟨b,o,hst⟩:=h.mem hd;refine⟨by unfold yT;omega,fun _=>?_⟩;rw [sQ hst.len];simp only [bA,tP,nR,yT];omega
theorem Wa (h:Rd Sz C (.list cO) v (.l es)) (n:Nat):n<=bU HF es n/\(bU HF es n<9000->10400*n+es.foldl (fun c x=>c+costs cO x) 0<=10400*bU HF es n):=by
 refine uC HF cO 10400 es (fun ds hd n=>?_) n;obtain⟨b,o,hst⟩:=h.mem hd;refine⟨by unfold HF;omega,fun _=>?_⟩;rw [sQ hst.len];simp only [cO,tP,nT,HF];omega
theorem Dq (h:Rd Sz C (.list bB) v (.l es)) (n:Nat):n<=bU vV es n/\(bU vV es n<9000->10400*n+es.foldl (fun c x=>c+costs bB x) 0<=10400*bU vV es n):=by
 refine uC vV bB 10400 es (fun ds hd n=>?_) n;obtain⟨b,o,hst⟩:=h.mem hd;refine⟨by unfold vV;omega,fun _=>?_⟩;rw [sQ hst.len];simp only [bB,tP,jP,nT,vV];omega
theorem Wb (h:Rd Sz C (.list bC) v (.l es)) (n:Nat):n<=bU BI es n/\(bU BI es n<9000->10400*n+es.foldl (fun c x=>c+costs bC x) 0<=10400*bU BI es n):=by
 refine uC BI bC 10400 es (fun ds hd n=>?_) n;obtain⟨b,o,hst⟩:=h.mem hd;refine⟨by unfold BI;omega,fun _=>?_⟩;rw [sQ hst.len];simp only [bC,tP,jP,nR,BI];omega
theorem Pq (h:Rd Sz C (.list aW) v (.l es)) (n:Nat):n<=bU rX es n/\(bU rX es n<9000->10400*n+es.foldl (fun c x=>c+costs aW x) 0<=10400*bU rX es n):=by
 refine uC rX aW 10400 es (fun ds hd n=>?_) n;obtain⟨b,o,hst⟩:=h.mem hd;refine⟨by unfold rX;omega,fun _=>?_⟩;rw [sQ hst.len];simp only [aW,tP,LI,jP,nR,rX];omega
theorem Pr (h:Rd Sz C (.list bE) v (.l es)) (n:Nat):n<=bU nQ es n/\(bU nQ es n<9000->10400*n+es.foldl (fun c x=>c+costs bE x) 0<=10400*bU nQ es n):=by
 refine uC nQ bE 10400 es (fun ds hd n=>?_) n;obtain⟨b,o,hst⟩:=h.mem hd;refine⟨by unfold nQ;omega,fun _=>?_⟩;rw [sQ hst.len];simp only [bE,tP,jP,nT,nQ];omega
theorem Dr (h:Rd Sz C (.list aV) v (.l es)) (n:Nat):n<=bU HP es n/\(bU HP es n<9000->10400*n+es.foldl (fun c x=>c+costs aV x) 0<=10400*bU HP es n):=by
 refine uC HP aV 10400 es (fun ds hd n=>?_) n;obtain⟨b,o,hst⟩:=h.mem hd;refine⟨by unfold HP;omega,fun _=>?_⟩;rw [sQ hst.len];simp only [aV,tP,LI,jP,nR,nT,HP];omega
theorem Aj (h:Rd Sz C (.list aD) v (.l es)) (n:Nat):n<=bU pD es n/\(bU pD es n<9000->10400*n+es.foldl (fun c x=>c+costs aD x) 0<=10400*bU pD es n):=by
 refine uC pD aD 10400 es (fun ds hd n=>?_) n;obtain⟨b,o,hst⟩:=h.mem hd;obtain⟨u2,h2,_⟩:=hst.at 2 (it:= .list cO) rfl;obtain⟨u4,h4,_⟩:=hst.at 4 (it:= .list bB) rfl;obtain⟨u5,h5,_⟩:=hst.at 5 (it:= .list bB) rfl;rw [dL h4]at h4;rw [dL h5]at h5;rw [dL h2]at h2;obtain⟨a4,b4⟩:=Dq h4 0;obtain⟨a5,b5⟩:=Dq h5 0;obtain⟨a2,b2⟩:=Wa h2 (n+9+bH (ats ds 3)+bH (ats ds 6)+bU vV (bT (ats ds 4)) 0+bU vV (bT (ats ds 5)) 0);refine⟨by unfold pD;omega,fun hl=>?_⟩;unfold pD at hl ⊢;have c2:=b2 hl;have c4:=b4 (by omega);have c5:=b5 (by omega);rw [sQ hst.len];simp only [aD,tP,Dp,jP,LH,nT,Nat.zero_add,Nat.reduceAdd];omega
theorem Ak (h:Rd Sz C (.list aY) v (.l es)):es.foldl (fun c x=>c+costs aY x) 0=16*es.length:=by
 have:∀(es:List (List D)),(∀ds∈es,ds.length=2)->es.foldl (fun c x=>c+costs aY x) 0=16*es.length:=by
  intro es;induction es with
  | nil=>intro _;rfl
  | cons ds es ih=>
   intro h;rw [List.foldl_cons,mN,ih fun d hd=>h d (.tail _ hd),sQ (its:=aY) (h ds (.head _))];simp only [aY,tP,aAK,List.length_cons];omega
 exact this es fun ds hd=>by obtain⟨b,o,hst⟩:=h.mem hd;exact hst.len
end
theorem Wc (ds:List D):tP bN ds 0=8*11+8*4+4*2050+(cost (.list bA) (ats ds 1)+cost (.list aW) (ats ds 19)+cost (.list bC) (ats ds 20)+cost (.list aV) (ats ds 21)+cost (.list bA) (ats ds 22)+cost (.list aY) (ats ds 23)+cost (.list aY) (ats ds 24)+cost (.list aD) (ats ds 26)+cost (.list bE) (ats ds 27)+cost (.list aV) (ats ds 28)+cost (.list aD) (ats ds 29)):=by
 simp only [bN,tP,LH,jP,nR,Nat.zero_add,Nat.reduceAdd];omega
theorem small{Sz:St}{C:Nat->Prop}{cs:List Value}{ds:List D} (h:lL Sz C bN cs ds) (hl:KD ds<9000):costs bN ds<=vO:=by
 have hs:=h.Hl 34;obtain⟨u1,h1,_⟩:=hs.at 1 (it:= .list bA) rfl;obtain⟨u19,h19,_⟩:=hs.at 19 (it:= .list aW) rfl;obtain⟨u20,h20,_⟩:=hs.at 20 (it:= .list bC) rfl;obtain⟨u21,h21,_⟩:=hs.at 21 (it:= .list aV) rfl;obtain⟨u22,h22,_⟩:=hs.at 22 (it:= .list bA) rfl;obtain⟨u23,h23,_⟩:=hs.at 23 (it:= .list aY) rfl;obtain⟨u24,h24,_⟩:=hs.at 24 (it:= .list aY) rfl;obtain⟨u26,Oj,_⟩:=hs.at 26 (it:= .list aD) rfl;obtain⟨u27,h27,_⟩:=hs.at 27 (it:= .list bE) rfl;obtain⟨u28,h28,_⟩:=hs.at 28 (it:= .list aV) rfl;obtain⟨u29,Ok,_⟩:=hs.at 29 (it:= .list aD) rfl
 have e23:bH (ats ds 23)=(bT (ats ds 23)).length:=by
  conv=>lhs;rw [dL h23]
  rfl
 have e24:bH (ats ds 24)=(bT (ats ds 24)).length:=by
  conv=>lhs;rw [dL h24]
  rfl
 rw [dL h1]at h1;rw [dL h19]at h19;rw [dL h20]at h20;rw [dL h21]at h21;rw [dL h22]at h22;rw [dL h23]at h23;rw [dL h24]at h24;rw [dL Oj]at Oj;rw [dL h27]at h27;rw [dL h28]at h28;rw [dL Ok]at Ok;unfold KD at hl;obtain⟨a20,b20⟩:=Wb h20 (bU rX (bT (ats ds 19)) (N3 ds (bU nQ (bT (ats ds 27)) (N1 ds))));obtain⟨a19,b19⟩:=Pq h19 (N3 ds (bU nQ (bT (ats ds 27)) (N1 ds)));obtain⟨a27,b27⟩:=Pr h27 (N1 ds);have fin:∀(n F L:Nat),(10400*n+F<=10400*L)->L<9000->F<=93600000:=fun n F L h1 h2=>by omega
 have l19:bU rX (bT (ats ds 19)) (N3 ds (bU nQ (bT (ats ds 27)) (N1 ds)))<9000:=Nat.lt_of_le_of_lt a20 hl;have l3:N3 ds (bU nQ (bT (ats ds 27)) (N1 ds))<9000:=Nat.lt_of_le_of_lt a19 l19;have hN3:bU nQ (bT (ats ds 27)) (N1 ds)<=N3 ds (bU nQ (bT (ats ds 27)) (N1 ds)):=by unfold N3;exact Nat.le_add_right _ _
 have l27:bU nQ (bT (ats ds 27)) (N1 ds)<9000:=Nat.lt_of_le_of_lt hN3 l3;have hN1:N1 ds<9000:=Nat.lt_of_le_of_lt a27 l27;have d20:=fin _ _ _ (b20 hl) hl;have Vq:=fin _ _ _ (b19 l19) l19;have d27:=fin _ _ _ (b27 l27) l27;unfold N1 at hN1;obtain⟨_,b1⟩:=Ai h1 0;obtain⟨_,b22⟩:=Ai h22 0;obtain⟨_,b26⟩:=Aj Oj 0;obtain⟨_,b29⟩:=Aj Ok 0;obtain⟨_,b28⟩:=Dr h28 0;obtain⟨_,b21⟩:=Dr h21 0;have c23:=Ak h23;have c24:=Ak h24;have split:∀a b c d e f g i:Nat,a+b+c+d+e+f+g+i<9000->a<9000/\b<9000/\c<9000/\d<9000/\e<9000/\f<9000/\g<9000/\i<9000:=fun a b c d e f g i h=>by omega
 obtain⟨q1,q2,q3,q4,q5,q6,q7,q8⟩:=split _ _ _ _ _ _ _ _ hN1;have d1:=fin _ _ _ (b1 q1) q1;have d22:=fin _ _ _ (b22 q2) q2;have d26:=fin _ _ _ (b26 q5) q5;have d29:=fin _ _ _ (b29 q6) q6;have d28:=fin _ _ _ (b28 q7) q7;have d21:=fin _ _ _ (b21 q8) q8;have d23:16*(bT (ats ds 23)).length<=93600000:=by rw [<-e23];omega
 have d24:16*(bT (ats ds 24)).length<=93600000:=by rw [<-e24];omega
 rw [sQ h.jK,Wc];simp only [Dp,c23,c24]
 have tot:∀a b c d e f g i j k l:Nat,a<=93600000->b<=93600000->c<=93600000->d<=93600000->e<=93600000->f<=93600000->g<=93600000->i<=93600000->j<=93600000->k<=93600000->l<=93600000->
  8*11+8*4+4*2050+(8+a+(8+b)+(8+c)+(8+d)+(8+e)+(8+f)+(8+g)+(8+i)+(8+j)+(8+k)+(8+l))<=vO:=by
  intro a b c d e f g i j k l;unfold vO;omega
 exact tot _ _ _ _ _ _ _ _ _ _ _ d1 Vq d20 d21 d22 d23 d24 d26 d27 d28 d29
variable{most:Nat}
def ZH (st:RS):RS:=if st.2≠0 then st else if st.1=[]then([],0)else([],10)
theorem aB2 (st:RS) (h0:st.2=0) (ok:Value->List UInt8->Bool) (no:Int->Bool):endP st.1 st.1.length ok no=if(ZH st).2=0 then ok (.bool true) (ZH st).1 else no (.ofNat (ZH st).2):=by
 unfold endP ZH;have e0:¬st.2≠0:=by simp [h0]
 simp only [if_neg e0];cases hl:st.1 with
 | nil=>simp
 | cons a l=>simp
theorem aE5{n:Nat}{Sz:St}{W:Nat->Prop}{rr:Nat}{st:RS}{K:VK} (h:uH Sz W rr st) (hK:∀S',uH S' W rr (ZH st)->cM W Sz S' W->K (.int .i64 (.ofNat (ZH st).2)) S'=true):
 (X most (n+2)).C uZ [pt rr 0] Sz K=true:=by
 rw [aT (by rfl),PY];unfold CI;rw [Bl (show Kg EK=some (VI mX zF endP)from by kernel_rfl)];show VI mX zF endP [pt rr 0,.func (.func mX) ⟨[]⟩ ⟨[]⟩] Sz _=true;unfold VI;simp only [];refine Jz h (v:= .bool (decide ((ZH st).2=0))) (st':=ZH st) (fun he=>?_) (fun h0 ok no=>?_) (fun hz=>by rw [decide_eq_false hz]) (fun h0 hz=>?_) ?_ fun S' h1 f=>?_
 ·have:ZH st=st:=by unfold ZH;rw [if_pos he]
  rw [this,decide_eq_false he];exact⟨rfl,rfl⟩
 ·rw [aB2 st h0]
  by_cases hz:(ZH st).2=0
  ·rw [if_pos hz,if_pos hz,decide_eq_true hz]
  ·rw [if_neg hz,if_neg hz]
 ·unfold ZH at hz ⊢
  have e0:¬st.2≠0:=by simp [h0]
  rw [if_neg e0]at hz ⊢;split<;>rfl
 ·unfold ZH
  split
  ·exact Nat.le_refl _
  ·split<;>simp
 ·exact hK S' h1 f
def JS:It->D
 | .num=> .n 0
 | .kind=> .n 0
 | .int=> .n 0
 | .is=> .b false
 | .text=> .s []
 | .nums=> .l []
 | .list _=> .l []
theorem aB3 (Sz:St) (C:Nat->Prop) (it:It):Rd Sz C it (jM it) (JS it):=by
 cases it with
 | num=>exact .num (z:=0) (by omega)
 | kind=>exact .kind (z:=0) (by omega)
 | int=>exact .int (by decide) (by decide)
 | is=>exact .is
 | text=>exact .text (by simp)
 | nums=>exact .nums .empty
 | list its=>exact .empty
theorem sF (Sz:St) (C:Nat->Prop) (its:List It):lL Sz C its (its.map jM) (its.map JS):=by
 refine⟨by simp,by simp,fun j it v d a b c=>?_⟩;rw [List.getElem?_map,a]at b c;injection b with b;injection c with c;subst b c;exact aB3 Sz C it
theorem Zy (Sz:St) (C:Nat->Prop) (it:It):GC Sz C it (jM it) (JS it):=by
 cases it with
 | num=>exact .num (z:=0) (by omega)
 | kind=>exact .kind (z:=0) (by omega)
 | int=>exact .int (by decide) (by decide)
 | is=>exact .is
 | text=>exact .text (by simp)
 | nums=>exact .EG
 | list its=>exact .empty
def aDJ (Sz:St) (C:Nat->Prop) (its:List It) (cs:List Value) (ds:List D):Prop:=∀(k:Nat) (it:It) (v:Value) (d:D),its[k]? =some it->cs[k]? =some v->ds[k]? =some d->GC Sz C it v d
theorem Uy (Sz:St) (C:Nat->Prop) (its:List It):aDJ Sz C its (its.map jM) (its.map JS):=by
 intro k it v d a b c;rw [List.getElem?_map,a]at b c;injection b with b;injection c with c;subst b c;exact Zy Sz C it
def decode (l:List UInt8):List D×Nat:=if(ZH (bX bN (l,0)).2).2=0 then((bX bN (l,0)).1,0)else(bN.map JS,(ZH (bX bN (l,0)).2).2)
theorem aB4{Sz:St}{i:Nat}{u v:Value}{e:TypeId} (h:Sz.obj i=some (.cells [u] e .exact)) (h1:oneCell v=true) (k:St->Bool):cQ 1 (pt i 0) (.agg ⟨[v]⟩) Sz k=k (Sz.set i (.cells [v] e .exact)):=
 kR (cs:=[v]) h rfl (by simp [h1]) 1 rfl k
def tL:List Value:=bN.map jM
theorem SF:([zI,zL,zI,zS,zF,zI,zI,zI,zI,zI,zI,zI,zS,zS,zI,zI,zF,zF,zS,zL,zL,zL,zL,zL,zL,zF,zL,zL,zL,zL]:List Value)=tL:=rfl
theorem xY:tL.length=30:=rfl
theorem Kh:tL.all oneCell=true:=rfl
theorem dR (z:List Value) (K:Value->Bool):dK z [] K=K (.agg ⟨z⟩):=rfl
theorem Zz (hM:1048576<most){n:Nat}{Sz:St}{l:List UInt8} (hl:l.length<9223372036854775808){K:VK}
 (hK:∀S' cs,aZ Sz S'->lL S' (fun _=>False) bN cs (decode l).1->aDJ S' (fun i=>i<Sz.n) bN cs (decode l).1->K (.tuple ⟨[.agg ⟨cs⟩,.int .i64 (.ofNat (decode l).2)]⟩) S'=true):(X most (n+10)).C DG [.string ⟨⟨l⟩⟩] Sz K=true:=by
 rw [aT (by rfl),Bn];unfold MO;rw [SF,eB]
 let S1z:=Sz.new (.cells tL 34 .exact)
 have hop:∀(Sz:St) (K:VK),(X most (n+9)).C JT [.string ⟨⟨l⟩⟩] Sz K=K (pt Sz.n 0) (Sz.new (.cells [.string ⟨⟨l⟩⟩,.int .i64 (.ofNat 0)] 168 .exact)):=fun Sz K=>by
  rw [aT (by rfl),Ki];unfold UN;have hb:∀K:Value->Bool,dK [.string ⟨⟨[]⟩⟩,.int .i64 (.ofNat 0)] [(0,1,.string ⟨⟨l⟩⟩)] K=K (.agg ⟨[.string ⟨⟨l⟩⟩,.int .i64 (.ofNat 0)]⟩):=fun K=>rfl;rw [hb,eI rfl]
 rw [hop]
 have hb:∀(a:Value) (K:Value->Bool),oneCell a=true->dK [.pointer none] [(0,1,a)] K=K (.agg ⟨[a]⟩):=fun a K ha=>by
  show iB a (fun new=>mJ new fun m=>match Nat.beq m 1 with | true=>iA 0 new [.pointer none] (fun cs=>K (.agg ⟨cs⟩)) | false=>false)=_;rw [lW ha];rfl
 rw [hb _ _ rfl,eB,aB4 aF rfl,eB]
 let S2z:=S1z.new (.cells [.string ⟨⟨l⟩⟩,.int .i64 (.ofNat 0)] 168 .exact)
 let S3z:=(S2z.new (.cells [.pointer none] 103 .exact)).set S2z.n (.cells [pt S1z.n 0] 103 .exact)
 let S4:=S3z.new (.cells tL 34 .exact)
 have n1:S1z.n=Sz.n+1:=rfl;have n2:S2z.n=Sz.n+2:=rfl;have n3:S3z.n=Sz.n+3:=rfl;have n4:S4.n=Sz.n+4:=rfl
 have o3:S4.obj S2z.n=some (.cells [pt S1z.n 0] 103 .exact):=by
  show(S3z.new _).obj S2z.n=_;rw [aL (by omega)];exact aX
 have o1:S4.obj Sz.n=some (.cells tL 34 .exact):=by
  show(S3z.new _).obj Sz.n=_;rw [aL (by omega)];show((S2z.new _).set S2z.n _).obj Sz.n=_;rw [aJ (by omega),aL (by omega)];show(S1z.new _).obj Sz.n=_;rw [aL (by omega)];exact aF
 have o2:S4.obj S1z.n=some (.cells [.string ⟨⟨l⟩⟩,.int .i64 (.ofNat 0)] 168 .exact):=by
  show(S3z.new _).obj S1z.n=_;rw [aL (by omega)];show((S2z.new _).set S2z.n _).obj S1z.n=_;rw [aJ (by omega),aL (by omega)];exact aF
 have x4:aZ Sz S4:=⟨by omega,fun i hi=>by
  show(S3z.new _).obj i=_;rw [aL (by omega)];show((S2z.new _).set S2z.n _).obj i=_;rw [aJ (by omega),aL (by omega)];show(S1z.new _).obj i=_;rw [aL (by omega)];exact aL (by omega)⟩
 let W:Nat->Prop:=fun i=>i=S1z.n\/i=S3z.n
 let C:Nat->Prop:=fun i=>i<S4.n
 have e4:uH S4 W S1z.n (l,0):=⟨.inl rfl,fun i hi=>by rcases hi with h | h<;>omega,o2,hl⟩;have w4:Own S4 W S1z.n S3z.n 34 false tL:=⟨.inr rfl,by omega,.exact,aF,rfl⟩;have hC4:∀i,C i->i<S4.n:=fun i hi=>hi;show(aR 1 (pt S2z.n 0) S4 fun v5 Sz=>(X most (n+9)).C wQ [.iface 103 v5,pt S3z.n 0] Sz _)=true;rw [fW o3 (by simp)];refine Zx hM n (W:=W) (C:=C) (b:=S3z.n) (o:=0) (gr:=false) ⟨e4,w4,e4.lt,hC4,by rw [xY];exact Nat.le_refl 30,rfl,Nat.zero_le _,rfl,fun k it v d _ _ c=>by simp at c,fun k it _ a=>by unfold tL;rw [Nat.zero_add,List.getElem?_map,a];rfl,fun v S5 vs o5 l5 _ n5 r5 e5 f5=>?_⟩;simp only [List.nil_append]at n5 r5;have x5:aZ Sz S5:=f5.ext x4 fun i hi=>by rcases hi with h | h<;>omega
 have hW2:∀i,i<S4.n->i≠S1z.n->i≠S3z.n->S5.obj i=S4.obj i:=fun i hi h1 h2=>f5.same i hi (fun c=>by rcases c with c | c<;>contradiction);rw [aB,Nat.zero_add];show aN (pt S2z.n 0) S5 _=true;rw [cB ((hW2 S2z.n (by omega) (by omega) (by omega)).trans o3) rfl];refine aE5 (n:=n+7) e5.self fun S6 e6 f6=>?_;have x6:aZ Sz S6:=f6.ext x5 fun i hi=>by omega
 have q5:=f5.n;have q6:=f6.n
 have hv0:S6.obj Sz.n=some (.cells tL 34 .exact):=by
  rw [f6.same Sz.n (by omega) (by show ¬Sz.n=S1z.n;omega),hW2 Sz.n (by omega) (by omega) (by omega)];exact o1
 obtain⟨ck,p1,p2⟩:=o5.obj;have p2:ck= .exact:=p2;subst p2
 have hv4:S6.obj S3z.n=some (.cells vs 34 .exact):=by
  rw [f6.same S3z.n (by omega) (by show ¬S3z.n=S1z.n;omega)];exact p1
 have hvl:vs.length=30:=by rw [l5,xY]
 rw [dM];have fE:∀cs:List Value,cM C S6 (S6.set Sz.n (.cells cs 34 .exact)) (fun i=>i<Sz.n):=fun cs=>⟨Nat.le_refl _,fun i _ hi=>aJ fun c=>hi (show i<S4.n by omega),fun i h=> .inl (show i<S4.n by have h:i<Sz.n:=h;omega)⟩
 have hfin:∀(cs:List Value) (ds:List D),lL S6 C bN cs ds->lL (S6.set Sz.n (.cells cs 34 .exact)) (fun _=>False) bN cs ds/\aZ Sz (S6.set Sz.n (.cells cs 34 .exact)):=fun cs ds h=>
  ⟨(h.fr (fE cs)).fr ⟨Nat.le_refl _,fun _ _ _=>rfl,fun _ h=>h.elim⟩,⟨x6.n,fun i hi=>by rw [aJ (by omega)];exact x6.same i hi⟩⟩
 unfold decode at hK;by_cases he:(ZH (bX bN (l,0)).2).2=0
 ·rw [decide_eq_true he]
  show gD zF _ _=true;rw [cA];rw [if_pos he]at hK;have hro:aDJ S6 C bN vs (bX bN (l,0)).1:=fun k it v d a b c=>(r5 k it v d a (by rw [Nat.zero_add];exact b) c).fr (f6.up fun i hi=>by have hi:i=S1z.n:=hi;show i<S4.n;omega);have hra:lL S6 C bN vs (bX bN (l,0)).1:=⟨by rw [hvl];rfl,by rw [n5],fun k it v d a b c=>(hro k it v d a b c).rd⟩;show aR 30 (pt S3z.n 0) S6 _=true;rw [fW hv4 (by omega),List.drop_zero,List.take_of_length_le (by omega),kR hv0 (by rw [hvl,xY]) (List.all_eq_true.2 hra.one) 30 hvl.symm,fW aX (by omega),List.drop_zero,List.take_of_length_le (by omega)];obtain⟨a1,a2⟩:=hfin vs _ hra;exact hK _ vs a2 a1 fun k it v d p q r=>(hro k it v d p q r).fr (fE vs)
 ·rw [decide_eq_false he]
  show gD (.bool true) _ _=true;rw [bS];rw [if_neg he]at hK;rw [dR];have h30:tL.length=30:=xY;have h1c:tL.all oneCell=true:=Kh;rw [kR (cs:=tL) hv0 (by rw [h30]) h1c 30 h30.symm,fW aX (by omega),List.drop_zero,List.take_of_length_le (by omega)];obtain⟨a1,a2⟩:=hfin tL (bN.map JS) (sF S6 C bN);have hk:=hK _ tL a2 (by simp only;exact a1) (Uy _ _ bN);simp only at hk;exact hk
end Go.Am
set_option linter.unusedVariables false
set_option maxRecDepth 100000
namespace Go.Am
noncomputable def eY (x:EV) (m:Nat) (t1 t2 t5 t7:Value) (Sz:St) (K:VK):Bool:=gJ PP dD fG (x.E PP) [.r,.r,.r,.l,.r,.d] m [] [t1,t2,t5,t7] Sz K
noncomputable def eG (x:EV) (m:Nat) (m0:Nat) (t1 t2 t5 t7 t12 t16:Value) (Sz:St) (K:VK):Bool:=gJ PP dD fG (x.E PP) [.r,.r,.r,.l,.r,.d,.d,.r,.l,.d,.r,.r,.r,.r,.r,.l,.r,.d] m [m0] [t1,t2,t5,t7,t12,t16] Sz K
noncomputable def dA (x:EV) (m:Nat) (m0:Nat) (t1 t2 t5 t7 t12 t17:Value) (Sz:St) (K:VK):Bool:=gJ PP dD fG (x.E PP) [.r,.r,.r,.l,.r,.d,.d,.r,.l,.d,.r,.r,.r,.r,.r,.r,.l,.r,.d] m [m0] [t1,t2,t5,t7,t12,t17] Sz K
noncomputable def cK (x:EV) (m:Nat) (m0:Nat) (t1 t2 t5 t7 t12 Mc:Value) (Sz:St) (K:VK):Bool:=gJ PP dD fG (x.E PP) [.r,.r,.r,.l,.r,.d,.d,.r,.l,.d,.r,.r,.r,.r,.r,.r,.r,.r,.d] m [m0] [t1,t2,t5,t7,t12,Mc] Sz K
noncomputable def dB (x:EV) (m:Nat) (m0:Nat) (m1:Nat) (t1 t2 t5 t7 t12 Mc t19:Value) (Sz:St) (K:VK):Bool:=gJ PP dD fG (x.E PP) [.r,.r,.r,.l,.r,.d,.d,.r,.l,.d,.r,.r,.r,.r,.r,.r,.r,.r,.d,.d,.r,.l,.d,.r,.d] m [m0,m1] [t1,t2,t5,t7,t12,Mc,t19] Sz K
noncomputable def CU (x:EV) (a0 a1:Value) (Sz:St) (K:VK):Bool:=
 iP 34 a0 Sz fun v0 Sz=>
 aR 30 v0 Sz fun v1 Sz=>
 x.C pS [v1] Sz fun v2 Sz=>
 shut x.most (aA false v2 (fun k=>k a1 Sz) Sz fun v3 Sz=>
 shut x.most (aA false v2 (fun k=>nI v3 fun v4=>
 k v4 Sz) Sz fun v5 Sz=>
 shut x.most (aA false v2 (fun k=>aK PP .gtr 3 v5 (.int .i64 (.ofNat 40000)) fun v6=>
 k v6 Sz) Sz fun v7 Sz=>
 shut x.most (bY v2 (.bool true) v7 fun v8=>
 gD v8 (x.C DH [] Sz fun v9 Sz=>
 K v9 Sz) (aR 30 v0 Sz fun v10 Sz=>
 x.C pC [v10] Sz fun v11 Sz=>
 x.C nV [v11] Sz fun v12 Sz=>
 fB 0 v12 fun v13=>
 fB 1 v12 fun v14=>
 eY x x.most a1 v0 v13 zI Sz K)))))
theorem RB (x:EV) (a0 a1:Value) (Sz:St) (K:VK):hZ PP dD fG (x.E PP) [a0,a1] Sz K=CU x a0 a1 Sz K:=by kernel_rfl
noncomputable def lP (x:EV) (m0:Nat) (t1 t2 t5 t7:Value) (Sz:St) (K:VK):Bool:=
 aK PP .lss 3 t7 (.int .i64 (.ofNat 2)) fun v0=>
 gD v0 (aR 30 t2 Sz fun v1 Sz=>
 x.C DM [v1] Sz fun v2 Sz=>
 fB 0 v2 fun v3=>
 fB 1 v2 fun v4=>
 aR 30 t2 Sz fun v5 Sz=>
 x.C pC [v5] Sz fun v6 Sz=>
 x.C nV [v6] Sz fun v7 Sz=>
 fB 0 v7 fun v8=>
 fB 1 v7 fun v9=>
 x.C DG [t1] Sz fun v10 Sz=>
 fB 0 v10 fun v11=>
 fB 1 v10 fun v12=>
 cC [zI,zL,zI,zS,zF,zI,zI,zI,zI,zI,zI,zI,zS,zS,zI,zI,zF,zF,zS,zL,zL,zL,zL,zL,zL,zF,zL,zL,zL,zL] 34 Sz fun v13 Sz=>
 cQ 30 v13 v11 Sz fun Sz=>
 x.C vK [t1] Sz fun v14 Sz=>
 fB 0 v14 fun v15=>
 fB 1 v14 fun v16=>
 cC [zI,zL,zI,zS,zF,zI,zI,zI,zI,zI,zI,zI,zS,zS,zI,zI,zF,zF,zS,zL,zL,zL,zL,zL,zL,zF,zL,zL,zL,zL] 49 Sz fun v17 Sz=>
 cQ 30 v17 v15 Sz fun Sz=>
 aK PP .neq 9 v3 v8 fun v18=>
 shut x.most (aA false v18 (fun k=>k v4 Sz) Sz fun v19 Sz=>
 shut x.most (aA false v18 (fun k=>k v9 Sz) Sz fun v20 Sz=>
 shut x.most (aA false v18 (fun k=>aK PP .neq 37 v19 v20 fun v21=>
 k v21 Sz) Sz fun v22 Sz=>
 shut x.most (bY v18 (.bool true) v22 fun v23=>
 shut x.most (aA false v23 (fun k=>k v12 Sz) Sz fun v24 Sz=>
 shut x.most (aA false v23 (fun k=>k v16 Sz) Sz fun v25 Sz=>
 shut x.most (aA false v23 (fun k=>aK PP .neq 37 v24 v25 fun v26=>
 k v26 Sz) Sz fun v27 Sz=>
 shut x.most (bY v23 (.bool true) v27 fun v28=>
 shut x.most (aA false v28 (fun k=>aR 30 v13 Sz fun v29 Sz=>
 k v29 Sz) Sz fun v30 Sz=>
 shut x.most (aA false v28 (fun k=>aR 30 v17 Sz fun v31 Sz=>
 k v31 Sz) Sz fun v32 Sz=>
 shut x.most (aA false v28 (fun k=>x.C pC [v30] Sz fun v33 Sz=>
 k v33 Sz) Sz fun v34 Sz=>
 shut x.most (sW false v28 v32 (fun k=>aR 30 v17 Sz fun v35 Sz=>
 aU v35 v32 k) (shut x.most (aA false v28 (fun k=>x.C AC [v34,v32] Sz fun v36 Sz=>
 k v36 Sz) Sz fun v37 Sz=>
 shut x.most (aA false v28 (fun k=>Ar .not v37 fun v38=>
 k v38 Sz) Sz fun v39 Sz=>
 shut x.most (bY v28 (.bool true) v39 fun v40=>
 gD v40 (K zF Sz) (eG x x.most m0 t1 t2 t5 t7 v13 zI Sz K)))))))))))))))))) (aR 30 t2 Sz fun v41 Sz=>
 x.C pC [v41] Sz fun v42 Sz=>
 x.C nV [v42] Sz fun v43 Sz=>
 fB 0 v43 fun v44=>
 fB 1 v43 fun v45=>
 aK PP .eql 9 v44 t5 fun v46=>
 shut x.most (aA true v46 (fun k=>x.C DH [] Sz fun v47 Sz=>
 k v47 Sz) Sz fun v48 Sz=>
 shut x.most (bY v46 v48 zF fun v49=>
 K v49 Sz)))
theorem rJ (x:EV) (m0:Nat) (t1 t2 t5 t7:Value) (Sz:St) (K:VK):eY x (m0+1) t1 t2 t5 t7 Sz K=lP x m0 t1 t2 t5 t7 Sz K:=by kernel_rfl
noncomputable def gB (x:EV) (m1:Nat) (m0:Nat) (t1 t2 t5 t7 t12 t16:Value) (Sz:St) (K:VK):Bool:=
 aC 1 t12 fun v0=>
 aN v0 Sz fun v1 Sz=>
 bO v1 fun v2=>
 aK PP .lss 3 t16 v2 fun v3=>
 gD v3 (aC 1 t12 fun v4=>
 aN v4 Sz fun v5 Sz=>
 dC 1 v5 t16 fun v6=>
 cQ 1 v6 (.string ⟨⟨[115,112,111,105,108,116]⟩⟩) Sz fun Sz=>
 aK PP .add 3 t16 (.int .i64 (.ofNat 1)) fun v7=>
 eG x m1 m0 t1 t2 t5 t7 t12 v7 Sz K) (dA x x.most m0 t1 t2 t5 t7 t12 zI Sz K)
theorem kC (x:EV) (m1:Nat) (m0:Nat) (t1 t2 t5 t7 t12 t16:Value) (Sz:St) (K:VK):eG x (m1+1) m0 t1 t2 t5 t7 t12 t16 Sz K=gB x m1 m0 t1 t2 t5 t7 t12 t16 Sz K:=by kernel_rfl
noncomputable def fQ (x:EV) (m1:Nat) (m0:Nat) (t1 t2 t5 t7 t12 t17:Value) (Sz:St) (K:VK):Bool:=
 aC 24 t12 fun v0=>
 aN v0 Sz fun v1 Sz=>
 bO v1 fun v2=>
 aK PP .lss 3 t17 v2 fun v3=>
 gD v3 (aC 24 t12 fun v4=>
 aN v4 Sz fun v5 Sz=>
 dC 2 v5 t17 fun v6=>
 aC 0 v6 fun v7=>
 cQ 1 v7 (.int .u64 (.ofNat 77)) Sz fun Sz=>
 aK PP .add 3 t17 (.int .i64 (.ofNat 1)) fun v8=>
 dA x m1 m0 t1 t2 t5 t7 t12 v8 Sz K) (cK x x.most m0 t1 t2 t5 t7 t12 zI Sz K)
theorem jT (x:EV) (m1:Nat) (m0:Nat) (t1 t2 t5 t7 t12 t17:Value) (Sz:St) (K:VK):dA x (m1+1) m0 t1 t2 t5 t7 t12 t17 Sz K=fQ x m1 m0 t1 t2 t5 t7 t12 t17 Sz K:=by kernel_rfl
noncomputable def fR (x:EV) (m1:Nat) (m0:Nat) (t1 t2 t5 t7 t12 Mc:Value) (Sz:St) (K:VK):Bool:=
 aC 28 t12 fun v0=>
 aN v0 Sz fun v1 Sz=>
 bO v1 fun v2=>
 aK PP .lss 3 Mc v2 fun v3=>
 gD v3 (dB x x.most m0 m1 t1 t2 t5 t7 t12 Mc zI Sz K) (aK PP .add 3 t7 (.int .i64 (.ofNat 1)) fun v4=>
 eY x m0 t1 t2 t5 v4 Sz K)
theorem jU (x:EV) (m1:Nat) (m0:Nat) (t1 t2 t5 t7 t12 Mc:Value) (Sz:St) (K:VK):cK x (m1+1) m0 t1 t2 t5 t7 t12 Mc Sz K=fR x m1 m0 t1 t2 t5 t7 t12 Mc Sz K:=by kernel_rfl
noncomputable def eO (x:EV) (m2:Nat) (m0:Nat) (m1:Nat) (t1 t2 t5 t7 t12 Mc t19:Value) (Sz:St) (K:VK):Bool:=
 aC 28 t12 fun v0=>
 aN v0 Sz fun v1 Sz=>
 dC 11 v1 Mc fun v2=>
 aC 10 v2 fun v3=>
 aN v3 Sz fun v4 Sz=>
 bO v4 fun v5=>
 aK PP .lss 3 t19 v5 fun v6=>
 gD v6 (aC 28 t12 fun v7=>
 aN v7 Sz fun v8 Sz=>
 dC 11 v8 Mc fun v9=>
 aC 10 v9 fun v10=>
 aN v10 Sz fun v11 Sz=>
 dC 1 v11 t19 fun v12=>
 cQ 1 v12 (.int .u64 (.ofNat 77)) Sz fun Sz=>
 aK PP .add 3 t19 (.int .i64 (.ofNat 1)) fun v13=>
 dB x m2 m0 m1 t1 t2 t5 t7 t12 Mc v13 Sz K) (aK PP .add 3 Mc (.int .i64 (.ofNat 1)) fun v14=>
 cK x m1 m0 t1 t2 t5 t7 t12 v14 Sz K)
theorem gX (x:EV) (m2:Nat) (m0:Nat) (m1:Nat) (t1 t2 t5 t7 t12 Mc t19:Value) (Sz:St) (K:VK):dB x (m2+1) m0 m1 t1 t2 t5 t7 t12 Mc t19 Sz K=eO x m2 m0 m1 t1 t2 t5 t7 t12 Mc t19 Sz K:=by kernel_rfl
end Go.Am
set_option maxRecDepth 100000
namespace Go.Am
open Go.RowKit Go.MapKept Go.Proofs Go.Proofs.jB
variable{most:Nat}
def Gw (Sz:St) (n0 m0 b len:Nat):Prop:=∃vs e olds,n0<=b/\b<m0/\Sz.obj b=some (.cells vs e (.grown olds))/\len<=vs.length/\∀i∈olds,n0<=i/\i<m0/\i≠b/\ZB Sz i
structure Sp (n0 m0:Nat) (B:Nat->Prop) (Sz S':St):Prop where
 n:S'.n=Sz.n
 out:∀i,(i<n0\/m0<=i)->S'.obj i=Sz.obj i
 gw:∀b len,Gw Sz n0 m0 b len->Gw S' n0 m0 b len
 same:∀i vs e olds,¬B i->Sz.obj i=some (.cells vs e (.grown olds))->S'.obj i=Sz.obj i
theorem Sp.refl (n0 m0:Nat) (B:Nat->Prop) (Sz:St):Sp n0 m0 B Sz Sz:=⟨rfl,fun _ _=>rfl,fun _ _ h=>h,fun _ _ _ _ _ _=>rfl⟩
theorem Sp.trans{n0 m0:Nat}{B:Nat->Prop}{a b c:St} (h:Sp n0 m0 B a b) (k:Sp n0 m0 B b c):Sp n0 m0 B a c:=
 ⟨by rw [k.n,h.n],fun i hi=>by rw [k.out i hi,h.out i hi],fun b l g=>k.gw b l (h.gw b l g),fun i vs e olds hb o=>by
  have h1:=h.same i vs e olds hb o;rw [k.same i vs e olds hb (by rw [h1];exact o),h1]⟩
theorem Sp.up{n0 m0:Nat}{B B':Nat->Prop}{a b:St} (h:Sp n0 m0 B a b) (hs:∀i,B i->B' i):Sp n0 m0 B' a b:=⟨h.n,h.out,h.gw,fun i vs e olds hb o=>h.same i vs e olds (fun c=>hb (hs i c)) o⟩
theorem Gw.st{Sz:St}{n0 m0 b len o:Nat} (g:Gw Sz n0 m0 b len) (ho:o<len){v:Value} (h1:oneCell v=true):∃S',(∀k:St->Bool,cQ 1 (pt b o) v Sz k=k S')/\Sp n0 m0 (fun i=>i=b) Sz S':=by
 obtain⟨vs,e,olds,a1,a2,a3,a4,a5⟩:=g
 have hst:∀k:St->Bool,cQ 1 (pt b o) v Sz k=match asIs [v] (vs.drop o)with
  | true=>k Sz
  | false=>k ⟨(olds.foldl (fun h i=>h.put i .dead) Sz.h).put b (.cells (vs.set o v) e (.grown [])),Sz.n⟩:=by
  intro k;show iB v (fun cs=>mJ cs fun m=>match Nat.beq m 1 with | true=>eX Sz b o cs k | false=>false)=_;rw [lW h1,cV];show eX Sz b o [v] k=_;unfold eX;rw [iY a3];show oE o vs _=_;rw [eH,if_pos (by omega)];cases asIs [v] (vs.drop o)with
  | true=>rfl
  | false=>
   simp only;rw [gS,if_pos (by simp;omega),XS,FP,ZC (by omega)];rfl
 cases hA:asIs [v] (vs.drop o)with
 | true=>exact⟨Sz,fun k=>by rw [hst,hA],.refl _ _ _ _⟩
 | false=>
  have hob:∀i,(⟨(olds.foldl (fun h i=>h.put i .dead) Sz.h).put b (.cells (vs.set o v) e (.grown [])),Sz.n⟩:St).obj i=if i=b then some (.cells (vs.set o v) e (.grown []))else if i∈olds then some .dead else Sz.obj i:=by
   intro i;show((olds.foldl (fun h i=>h.put i .dead) Sz.h).put b (.cells (vs.set o v) e (.grown []))).get i=_;rw [get_put,Da];rfl
  refine⟨⟨(olds.foldl (fun h i=>h.put i .dead) Sz.h).put b (.cells (vs.set o v) e (.grown [])),Sz.n⟩,fun k=>by rw [hst,hA],rfl,fun i hi=>?_,fun b2 l2 g2=>?_,fun i ws t l hb hw=>?_⟩
  ·rw [hob,if_neg (by omega),if_neg (fun c=>by have:=a5 i c;omega)]
  ·obtain⟨ws,t,os,c1,c2,c3,c4,c5⟩:=g2
   by_cases hb:b2=b
   ·subst hb
    rw [a3]at c3;injection c3 with c3;injection c3 with c3 c3' aHA;exact⟨vs.set o v,e,[],c1,c2,by rw [hob,if_pos rfl],by rw [List.length_set,c3];exact c4,fun i hi=>nomatch hi⟩
   ·have hno:¬b2∈olds:=fun c=>(a5 b2 c).2.2.2 ws t os c3
    refine⟨ws,t,os,c1,c2,by rw [hob,if_neg hb,if_neg hno];exact c3,c4,fun i hi=>?_⟩;obtain⟨d1,d2,d3,d4⟩:=c5 i hi;refine⟨d1,d2,d3,fun us u q=>?_⟩;rw [hob];by_cases h2:i=b
    ·exact absurd a3 (by rw [h2]at d4;exact d4 vs e olds)
    ·rw [if_neg h2]
     by_cases h3:i∈olds
     ·rw [if_pos h3];intro c;injection c with c;cases c
     ·rw [if_neg h3];exact d4 us u q
  ·rw [hob,if_neg hb,if_neg (fun c=>(a5 i c).2.2.2 ws t l hw)]
def Kd (Sz:St) (i:Nat):Prop:=∃vs e olds z,Sz.obj i=some (.cells vs e (.grown olds))/\vs[0]? =some (.int .u8 z)
def Lo (B:Nat->Prop) (Sz:St) (n0 m0 sz:Nat) (v:Value) (len:Nat):Prop:=(v= .slice none 0 0/\len=0)\/∃b,v= .slice (some ⟨b,0,some 0⟩) len len/\Gw Sz n0 m0 b (len*sz)/\(len≠0->B b)
theorem Lo.sp{B:Nat->Prop}{Sz S':St}{n0 m0 sz:Nat}{v:Value}{len:Nat} (h:Lo B Sz n0 m0 sz v len) (s:Sp n0 m0 B Sz S'):Lo B S' n0 m0 sz v len:=by
 rcases h with h | ⟨b,h1,h2,h3⟩
 ·exact .inl h
 ·exact .inr ⟨b,h1,s.gw _ _ h2,h3⟩
theorem Gw.ext{Sz S':St}{n0 m0 b len:Nat} (g:Gw Sz n0 m0 b len) (x:aZ Sz S') (hm:m0<=Sz.n):Gw S' n0 m0 b len:=by
 obtain⟨vs,e,olds,a1,a2,a3,a4,a5⟩:=g;exact⟨vs,e,olds,a1,a2,by rw [x.same b (by omega)];exact a3,a4,fun i hi=>⟨(a5 i hi).1,(a5 i hi).2.1,(a5 i hi).2.2.1,(a5 i hi).2.2.2.same (x.same i (by have:=(a5 i hi).2.1;omega))⟩⟩
theorem Lo.ext{B:Nat->Prop}{Sz S':St}{n0 m0 sz:Nat}{v:Value}{len:Nat} (h:Lo B Sz n0 m0 sz v len) (x:aZ Sz S') (hm:m0<=Sz.n):Lo B S' n0 m0 sz v len:=by
 rcases h with h | ⟨b,h1,h2,h3⟩
 ·exact .inl h
 ·exact .inr ⟨b,h1,h2.ext x hm,h3⟩
theorem GC.u8{Sz:St}{C:Nat->Prop}{it:It}{z:Int}{d:D} (h:GC Sz C it (.int .u8 z) d):it= .kind:=by cases h;rfl
theorem GC.lo{Sz:St}{n0:Nat}{it0:It}{its:List It}{v:Value}{d:D} (h0:it0≠ .kind) (h:GC Sz (fun i=>i<n0) (.list (it0::its)) v d):∃len,len<=1048576/\Lo (fun i=>¬(Kd Sz i/\i<Sz.n)) Sz n0 Sz.n (it0::its).length v len:=by
 cases h with
 | empty=>exact⟨0,by simp,.inl ⟨rfl,rfl⟩⟩
 | @row _ _ b vs e olds es hb hC ho hold hl hd hN hr=>
  have hC:¬b<n0:=hC;refine⟨es.length,hN,.inr ⟨b,rfl,⟨vs,e,olds,by omega,hb,ho,by omega,fun i hi=>?_⟩,fun hne kd=>?_⟩⟩
  ·obtain⟨q1,q2,q3,q4⟩:=hold i hi
   have q2:¬i<n0:=q2;exact⟨by omega,q1,q3,q4⟩
  ·obtain⟨⟨ws,t,os,z,k1,k2⟩,_⟩:=kd
   rw [ho]at k1;injection k1 with k1;injection k1 with k1 _ _;subst k1;have hk:0<es.length:=by omega
   have hdk:=hd es[0] (List.getElem_mem hk);have hlen:(it0::its).length=its.length+1:=rfl;have r:=hr 0 es[0] 0 it0 (.int .u8 z) (es[0][0]'(by omega)) (List.getElem?_eq_getElem hk) rfl (by rw [Nat.zero_mul];exact k2) (List.getElem?_eq_getElem _);exact h0 r.u8
def Lm (B:Nat->Prop) (Sz:St) (n0 m0:Nat) (v:Value) (len:Nat):Prop:=(len=0/\∃a,v= .slice a 0 0)\/∃b vs e olds,v= .slice (some ⟨b,0,some 0⟩) len len/\¬B b/\Sz.obj b=some (.cells vs e (.grown olds))/\vs.length=len*11/\
 ∀k,k<len->∃(u:Value) (ln:Nat),vs[k*11+10]? =some u/\ln<=1048576/\Lo B Sz n0 m0 1 u ln
theorem Lm.sp{B:Nat->Prop}{Sz S':St}{n0 m0:Nat}{v:Value}{len:Nat} (h:Lm B Sz n0 m0 v len) (s:Sp n0 m0 B Sz S'):Lm B S' n0 m0 v len:=by
 rcases h with h | ⟨b,vs,e,olds,h1,h2,h3,h4,h5⟩
 ·exact .inl h
 ·refine .inr ⟨b,vs,e,olds,h1,h2,by rw [s.same b vs e olds h2 h3];exact h3,h4,fun k hk=>?_⟩
  obtain⟨u,ln,a1,a2,a3⟩:=h5 k hk;exact⟨u,ln,a1,a2,a3.sp s⟩
theorem Lm.ext{B:Nat->Prop}{Sz S':St}{n0 m0:Nat}{v:Value}{len:Nat} (h:Lm B Sz n0 m0 v len) (x:aZ Sz S') (hm:m0<=Sz.n) (hlt:∀b,¬B b->b<Sz.n):Lm B S' n0 m0 v len:=by
 rcases h with h | ⟨b,vs,e,olds,h1,h2,h3,h4,h5⟩
 ·exact .inl h
 ·refine .inr ⟨b,vs,e,olds,h1,h2,by rw [x.same b (hlt b h2)];exact h3,h4,fun k hk=>?_⟩
  obtain⟨u,ln,a1,a2,a3⟩:=h5 k hk;exact⟨u,ln,a1,a2,a3.ext x hm⟩
theorem GC.lm{Sz:St}{n0:Nat}{v:Value}{d:D} (h:GC Sz (fun i=>i<n0) (.list aV) v d):∃len,len<=1048576/\Lm (fun i=>¬(Kd Sz i/\i<Sz.n)) Sz n0 Sz.n v len:=by
 cases h with
 | empty=>exact⟨0,by simp,.inl ⟨rfl,_,rfl⟩⟩
 | @row _ _ b vs e olds es hb hC ho hold hl hd hN hr=>
  by_cases h0:es.length=0
  ·exact⟨es.length,hN,.inl ⟨h0,_,by rw [h0]⟩⟩
  have hl:vs.length=es.length*11:=hl;refine⟨es.length,hN,.inr ⟨b,vs,e,olds,rfl,?_,ho,hl,fun k hk=>?_⟩⟩
  ·intro c
   refine c ⟨?_,hb⟩;have hk:0<es.length:=by omega
   have hdk:es[0].length=11:=hd es[0] (List.getElem_mem hk);have r:=hr 0 es[0] 0 .kind (vs[0]'(by omega)) (es[0][0]'(by omega)) (List.getElem?_eq_getElem hk) rfl (by rw [Nat.zero_mul];exact List.getElem?_eq_getElem _) (List.getElem?_eq_getElem _);generalize he:vs[0]'(by omega)=u at r;generalize es[0][0]'(by omega)=dd at r;have hu:vs[0]? =some u:=by rw [List.getElem?_eq_getElem (by omega),he]
   cases r with
   | kind h=>exact⟨vs,e,olds,_,ho,hu⟩
  ·have hdk:es[k].length=11:=hd es[k] (List.getElem_mem hk)
   have r:=hr k es[k] 10 .nums (vs[k*11+10]'(by omega)) (es[k][10]'(by omega)) (List.getElem?_eq_getElem hk) rfl (List.getElem?_eq_getElem _) (List.getElem?_eq_getElem _);generalize he:vs[k*11+10]'(by omega)=u at r;generalize es[k][10]'(by omega)=dd at r;have hu:vs[k*11+10]? =some u:=by rw [List.getElem?_eq_getElem (by omega),he]
   cases r with
   | EG=>exact⟨_,0,hu,by simp,.inl ⟨rfl,rfl⟩⟩
   | @nums _ b2 ns hb2 hC2 ho2 hz hN2=>
    have h3:¬b2<n0:=fun c=>hC2 (.inl c);refine⟨_,ns.length,hu,by omega,.inr ⟨b2,rfl,⟨_,57,[],by omega,hb2,ho2,by simp,fun i hi=>nomatch hi⟩,fun hne c=>?_⟩⟩;obtain⟨⟨ws,t,os,z,k1,k2⟩,_⟩:=c;rw [ho2]at k1;injection k1 with k1;injection k1 with k1 _ _;subst k1;rw [List.getElem?_map]at k2;cases hq:ns[0]? with
    | none=>rw [hq]at k2;cases k2
    | some q=>rw [hq]at k2;injection k2 with k2;injection k2 with k2;cases k2
variable{most:Nat}
structure Own3 (B:Nat->Prop) (Sz:St) (n0 m0 b:Nat) (cs:List Value) (u1 u2 u3:Value) (l1 l2 l3:Nat):Prop where
 ob:Sz.obj b=some (.cells cs 34 .exact)
 hb:m0<=b
 c1:cs[1]? =some u1
 c2:cs[24]? =some u2
 c3:cs[28]? =some u3
 h1:Lo B Sz n0 m0 1 u1 l1
 h2:Lo B Sz n0 m0 2 u2 l2
 h3:Lm B Sz n0 m0 u3 l3
 k1:l1<=1048576
 k2:l2<=1048576
 k3:l3<=1048576
theorem Own3.sp{B:Nat->Prop}{Sz S':St}{n0 m0 b:Nat}{cs:List Value}{u1 u2 u3:Value}{l1 l2 l3:Nat} (h:Own3 B Sz n0 m0 b cs u1 u2 u3 l1 l2 l3) (s:Sp n0 m0 B Sz S'):Own3 B S' n0 m0 b cs u1 u2 u3 l1 l2 l3:=
 ⟨by rw [s.out b (.inr h.hb)];exact h.ob,h.hb,h.c1,h.c2,h.c3,h.h1.sp s,h.h2.sp s,h.h3.sp s,h.k1,h.k2,h.k3⟩
theorem Lo.len{B:Nat->Prop}{Sz:St}{n0 m0 sz:Nat}{v:Value}{len:Nat} (h:Lo B Sz n0 m0 sz v len) (K:Value->Bool):bO v K=K (.int .i64 (.ofNat len)):=by
 rcases h with ⟨rfl,rfl⟩ | ⟨b,rfl,_⟩<;>rfl
theorem Lo.put{B:Nat->Prop}{Sz:St}{n0 m0 sz:Nat}{v:Value}{len i:Nat} (h:Lo B Sz n0 m0 sz v len) (hi:i<len) (hz:0<sz){w:Value} (hw:oneCell w=true):∃b S',(∀K:Value->Bool,dC sz v (.int .i64 (.ofNat i)) K=K (pt b (0+i*sz)))/\(∀k:St->Bool,cQ 1 (pt b (0+i*sz)) w Sz k=k S')/\Sp n0 m0 B Sz S':=by
 rcases h with ⟨rfl,rfl⟩ | ⟨b,rfl,g,hB⟩
 ·omega
 ·have hlt:i*sz+sz<=len*sz:=by
   have:(i+1)*sz<=len*sz:=Nat.mul_le_mul_right _ hi
   rwa [Nat.add_mul,Nat.one_mul]at this
  obtain⟨S',k1,k2⟩:=g.st (o:=0+i*sz) (by omega) hw;exact⟨b,S',fun K=>YK sz b 0 i _ _ hi K,k1,k2.up fun j hj=>by rw [hj];exact hB (by omega)⟩
section
variable{n:Nat}{B:Nat->Prop}{n0 m0 b:Nat}{cs:List Value}{u1 u2 u3:Value}{l1 l2 l3:Nat}{K:VK}{t1 t2 t5 t7:Value}{mm:Nat}
theorem aD4 (hM:2000000<most):∀(r i m:Nat) (Sz:St),i+r=l1->r<m->Own3 B Sz n0 m0 b cs u1 u2 u3 l1 l2 l3->
 (∀S',Sp n0 m0 B Sz S'->dA (X most n) most mm t1 t2 t5 t7 (pt b 0) zI S' K=true)->
 eG (X most n) m mm t1 t2 t5 t7 (pt b 0) (.int .i64 (.ofNat i)) Sz K=true:=by
 intro r;induction r with
 | zero=>
  intro i m Sz hi hm h k;obtain⟨m,rfl⟩:=Nat.exists_eq_succ_of_ne_zero (show m≠0 by omega);rw [kC];unfold gB;rw [aB,Nat.zero_add,cB h.ob h.c1,h.h1.len,aG,show decide (i<l1)=false from decide_eq_false (by omega),cA,bP];exact k Sz (.refl _ _ _ _)
 | succ r ih=>
  intro i m Sz hi hm h k;obtain⟨m,rfl⟩:=Nat.exists_eq_succ_of_ne_zero (show m≠0 by omega);rw [kC];unfold gB;obtain⟨b1,S1z,q1,q2,s1⟩:=h.h1.put (i:=i) (w:= .string ⟨#[115,112,111,105,108,116]⟩) (by omega) (by omega) rfl;have hk1:=h.k1;rw [aB,Nat.zero_add,cB h.ob h.c1,h.h1.len,aG,show decide (i<l1)=true from decide_eq_true (by omega),bS,aB,Nat.zero_add,cB h.ob h.c1,q1,q2,aP _ _ _ _ (by omega)];exact ih (i+1) m S1z (by omega) (by omega) (h.sp s1) fun S' s=>k S' (s1.trans s)
theorem aD5 (hM:2000000<most):∀(r i m:Nat) (Sz:St),i+r=l2->r<m->Own3 B Sz n0 m0 b cs u1 u2 u3 l1 l2 l3->
 (∀S',Sp n0 m0 B Sz S'->cK (X most n) most mm t1 t2 t5 t7 (pt b 0) zI S' K=true)->
 dA (X most n) m mm t1 t2 t5 t7 (pt b 0) (.int .i64 (.ofNat i)) Sz K=true:=by
 intro r;induction r with
 | zero=>
  intro i m Sz hi hm h k;obtain⟨m,rfl⟩:=Nat.exists_eq_succ_of_ne_zero (show m≠0 by omega);rw [jT];unfold fQ;rw [aB,Nat.zero_add,cB h.ob h.c2,h.h2.len,aG,show decide (i<l2)=false from decide_eq_false (by omega),cA,bP];exact k Sz (.refl _ _ _ _)
 | succ r ih=>
  intro i m Sz hi hm h k;obtain⟨m,rfl⟩:=Nat.exists_eq_succ_of_ne_zero (show m≠0 by omega);rw [jT];unfold fQ;obtain⟨b1,S1z,q1,q2,s1⟩:=h.h2.put (i:=i) (w:= .int .u64 (.ofNat 77)) (by omega) (by omega) rfl;have hk1:=h.k2;rw [aB,Nat.zero_add,cB h.ob h.c2,h.h2.len,aG,show decide (i<l2)=true from decide_eq_true (by omega),bS,aB,Nat.zero_add,cB h.ob h.c2,q1,aB,Nat.add_zero,q2,aP _ _ _ _ (by omega)];exact ih (i+1) m S1z (by omega) (by omega) (h.sp s1) fun S' s=>k S' (s1.trans s)
theorem Lm.len{Sz:St}{v:Value}{len:Nat} (h:Lm B Sz n0 m0 v len) (K:Value->Bool):bO v K=K (.int .i64 (.ofNat len)):=by
 rcases h with ⟨rfl,a,rfl⟩ | ⟨b,vs,e,olds,rfl,_⟩<;>rfl
theorem Lm.at{Sz:St}{v:Value}{len i:Nat} (h:Lm B Sz n0 m0 v len) (hi:i<len):∃b2 u ln,(∀K:Value->Bool,dC 11 v (.int .i64 (.ofNat i)) K=K (pt b2 (0+i*11)))/\(∀K:VK,aN (pt b2 (0+i*11+10)) Sz K=K u Sz)/\ln<=1048576/\Lo B Sz n0 m0 1 u ln:=by
 rcases h with ⟨h0,_⟩ | ⟨b2,vs,e,olds,rfl,h2,h3,h4,h5⟩
 ·omega
 ·obtain⟨u,ln,a1,a2,a3⟩:=h5 i hi
  exact⟨b2,u,ln,fun K=>YK 11 b2 0 i _ _ hi K,fun K=>cB h3 (by rw [Nat.zero_add];exact a1) K,a2,a3⟩
theorem aD6 (hM:2000000<most){q ln m3:Nat} (hq:q<l3):∀(r i m:Nat) (Sz:St),i+r=ln->r<m->Own3 B Sz n0 m0 b cs u1 u2 u3 l1 l2 l3->(∀S',Sp n0 m0 B Sz S'->Own3 B S' n0 m0 b cs u1 u2 u3 l1 l2 l3->∃b2 u,(∀K:Value->Bool,dC 11 u3 (.int .i64 (.ofNat q)) K=K (pt b2 (0+q*11)))/\(∀K:VK,aN (pt b2 (0+q*11+10)) S' K=K u S')/\Lo B S' n0 m0 1 u ln)->ln<=1048576->
 (∀S',Sp n0 m0 B Sz S'->cK (X most n) m3 mm t1 t2 t5 t7 (pt b 0) (.int .i64 (.ofNat (q+1))) S' K=true)->
 dB (X most n) m mm m3 t1 t2 t5 t7 (pt b 0) (.int .i64 (.ofNat q)) (.int .i64 (.ofNat i)) Sz K=true:=by
 intro r;induction r with
 | zero=>
  intro i m Sz hi hm h hat hln k;obtain⟨m,rfl⟩:=Nat.exists_eq_succ_of_ne_zero (show m≠0 by omega);rw [gX];unfold eO;have hk3:=h.k3;obtain⟨b2,u,a1,a2,a3⟩:=hat Sz (.refl _ _ _ _) h;rw [aB,Nat.zero_add,cB h.ob h.c3,a1,aB,a2,a3.len,aG,show decide (i<ln)=false from decide_eq_false (by omega),cA,aP _ _ _ _ (by omega)];exact k Sz (.refl _ _ _ _)
 | succ r ih=>
  intro i m Sz hi hm h hat hln k;obtain⟨m,rfl⟩:=Nat.exists_eq_succ_of_ne_zero (show m≠0 by omega);rw [gX];unfold eO;obtain⟨b2,u,a1,a2,a3⟩:=hat Sz (.refl _ _ _ _) h;obtain⟨b1,S1z,q1,q2,s1⟩:=a3.put (i:=i) (w:= .int .u64 (.ofNat 77)) (by omega) (by omega) rfl;rw [aB,Nat.zero_add,cB h.ob h.c3,a1,aB,a2,a3.len,aG,show decide (i<ln)=true from decide_eq_true (by omega),bS,aB,Nat.zero_add,cB h.ob h.c3,a1,aB,a2,q1,q2,aP _ _ _ _ (by omega)];exact ih (i+1) m S1z (by omega) (by omega) (h.sp s1) (fun S' s o=>hat S' (s1.trans s) o) hln fun S' s=>k S' (s1.trans s)
theorem aD7 (hM:2000000<most){i7:Nat} (h7:i7<2):∀(r i m:Nat) (Sz:St),i+r=l3->r<m->Own3 B Sz n0 m0 b cs u1 u2 u3 l1 l2 l3->
 (∀S',Sp n0 m0 B Sz S'->eY (X most n) mm t1 t2 t5 (.int .i64 (.ofNat (i7+1))) S' K=true)->
 cK (X most n) m mm t1 t2 t5 (.int .i64 (.ofNat i7)) (pt b 0) (.int .i64 (.ofNat i)) Sz K=true:=by
 intro r;induction r with
 | zero=>
  intro i m Sz hi hm h k;obtain⟨m,rfl⟩:=Nat.exists_eq_succ_of_ne_zero (show m≠0 by omega);rw [jU];unfold fR;rw [aB,Nat.zero_add,cB h.ob h.c3,h.h3.len,aG,show decide (i<l3)=false from decide_eq_false (by omega),cA,aP _ _ _ _ (by omega)];exact k Sz (.refl _ _ _ _)
 | succ r ih=>
  intro i m Sz hi hm h k;obtain⟨m,rfl⟩:=Nat.exists_eq_succ_of_ne_zero (show m≠0 by omega);rw [jU];unfold fR;have hlt:i<l3:=by omega
  rw [aB,Nat.zero_add,cB h.ob h.c3,h.h3.len,aG,show decide (i<l3)=true from decide_eq_true (by omega),bS,bP];obtain⟨b2,u,ln,a1,a2,a3,a4⟩:=h.h3.at hlt;refine aD6 (n:=n) hM hlt ln 0 most Sz (by omega) (by omega) h (fun S' s o=>?_) a3 fun S' s=>ih (i+1) m S' (by omega) (by omega) (h.sp s) fun S2z s2=>k S2z (s.trans s2);have hh:=h.h3;rcases hh with ⟨h0,_⟩ | ⟨b3,vs,e,olds,e1,e2,e3,e4,e5⟩
  ·omega
  ·have p1:b2=b3:=by
    have:=a1 fun v=>match v with | .pointer (some ⟨x,_,_⟩)=>decide (x=b2) | _=>false
    rw [e1,YK 11 b3 0 i _ _ hlt]at this;simpa [eq_comm]using this
   subst p1;refine⟨b2,u,a1,fun K=>?_,a4.sp s⟩;obtain⟨u',ln',f1,f2,f3⟩:=e5 i hlt
   have p2:u=u':=by
    by_cases h:u=u'
    ·exact h
    ·have g1:=a2 fun v _=> @decide (v=u) (Classical.propDecidable _)
     rw [cB e3 (v:=u') (by rw [Nat.zero_add];exact f1)]at g1;simp at g1;exact g1.symm
   rw [cB (v:=u) (by rw [s.same b2 vs e olds e2 e3];exact e3) (by rw [Nat.zero_add,p2];exact f1)]
end
mutual
def pI:D->D->Bool
 | .n a,.n b=>decide (a=b)
 | .b a,.b b=>decide (a=b)
 | .s a,.s b=>decide (a=b)
 | .l a,.l b=>kN a b
 | _,_=>false
def BG:List D->List D->Bool
 | [],[]=>true
 | a::l,b::m=>pI a b&&BG l m
 | _,_=>false
def kN:List (List D)->List (List D)->Bool
 | [],[]=>true
 | a::l,b::m=>BG a b&&kN l m
 | _,_=>false
end
mutual
theorem dZ:∀a b:D,pI a b=true↔a=b
 | .n a,.n b=>by simp [pI]
 | .b a,.b b=>by simp [pI]
 | .s a,.s b=>by simp [pI]
 | .l a,.l b=>by simp only [pI,D.l.injEq];exact gK a b
 | .n _,.b _=>by simp [pI]
 | .n _,.s _=>by simp [pI]
 | .n _,.l _=>by simp [pI]
 | .b _,.n _=>by simp [pI]
 | .b _,.s _=>by simp [pI]
 | .b _,.l _=>by simp [pI]
 | .s _,.n _=>by simp [pI]
 | .s _,.b _=>by simp [pI]
 | .s _,.l _=>by simp [pI]
 | .l _,.n _=>by simp [pI]
 | .l _,.b _=>by simp [pI]
 | .l _,.s _=>by simp [pI]
theorem cI:∀a b:List D,BG a b=true↔a=b
 | [],[]=>by simp [BG]
 | [],_::_=>by simp [BG]
 | _::_,[]=>by simp [BG]
 | a::l,b::m=>by simp only [BG,Bool.and_eq_true,List.cons.injEq];rw [dZ a b,cI l m]
theorem gK:∀a b:List (List D),kN a b=true↔a=b
 | [],[]=>by simp [kN]
 | [],_::_=>by simp [kN]
 | _::_,[]=>by simp [kN]
 | a::l,b::m=>by simp only [kN,Bool.and_eq_true,List.cons.injEq];rw [cI a b,gK l m]
end
variable{most:Nat}
theorem ZI{n:Nat} (Sz:St) (K:VK):(X most (n+1)).C DH [] Sz K=K (.bool true) Sz:=(Bl (by rfl) [] Sz K).trans rfl
theorem Dh{P:Program} (t:TypeId) (a b:List UInt8) (K:Value->Bool):aK P .eql t (.string ⟨⟨a⟩⟩) (.string ⟨⟨b⟩⟩) K=K (.bool (decide (a=b))):=by
 rw [FZ];show nG (VD a b) K=_;rw [lE,FU]
 congr 2
 by_cases h:a=b
 ·subst h;simp
 ·rw [decide_eq_false h];simpa using h
theorem SG{P:Program} (t:TypeId) (a b:List UInt8) (K:Value->Bool):aK P .neq t (.string ⟨⟨a⟩⟩) (.string ⟨⟨b⟩⟩) K=K (.bool (!decide (a=b))):=by
 rw [FZ];show nG (!VD a b) K=_;rw [lE,FU]
 congr 3
 by_cases h:a=b
 ·subst h;simp
 ·rw [decide_eq_false h];simpa using h
theorem Oc{P:Program} (t:TypeId) (a b:Nat) (hb:b≠0) (K:Value->Bool):aK P .rem t (.int .u64 (.ofNat a)) (.int .u64 (.ofNat b)) K=K (.int .u64 (.ofNat (a%b))):=by
 rw [tG _ _ _ _ _ _ (by simp) (by simp)];show(match RK (.ofNat b) 0 with | true=>false | false=>vZ (Int.tmod (.ofNat a) (.ofNat b)) fun n=>K (.int .u64 n))=_;rw [EC,decide_eq_false hb];simp only;rw [iO];rfl
theorem Kj{P:Program}{t:TypeId} (ht:P.underlying t=some .string) (l:List UInt8) (m:Nat) (hm:m<=l.length) (j:IntKind) (Sz:St) (K:Value->Bool):wA P t (.string ⟨⟨l⟩⟩) none (some (.int j (.ofNat m))) none Sz K=K (.string ⟨⟨l.take m⟩⟩):=by
 unfold wA;simp only [ht];rw [cV];unfold BY Mi;simp only [ED hm,ED (Nat.le_refl l.length),ED (Nat.zero_le m)];rw [fL,if_pos hm,eH,if_pos (Nat.zero_le _),List.drop_zero]
theorem aB5:PP.underlying 9=some .string:=by kernel_rfl
end Go.Am
