/- The program, and tables of its functions' live temporaries (written by a program). -/
import Derived.Test.YtbdlooaoeegbgaaGreatDoorGd
import Derived.Test.YtbdlooaoeegbgaaGreatDoorChecked
import Derived.Shelf.Bits.Mul64
import Derived.WalkKit
import Derived.Below
import Derived.BigCall
import Derived.Laws.Bits64
import Derived.Lib.Hide
import Derived.Deep.QuietTactic
import Derived.BigQuiet
import Derived.WalkSmall
import Derived.RegionTactic
import Derived.Test.YtbdlooaoeegbgaaGreatDoorGb

set_option linter.unusedVariables false
set_option maxRecDepth 100000
namespace Go.Am
noncomputable abbrev PP:Program:=Go.Proofs.Tryz.prog
abbrev iK:FuncId:=5
abbrev uW:FuncId:=6
abbrev mB:FuncId:=7
abbrev lS:FuncId:=8
abbrev wO:FuncId:=9
abbrev mA:FuncId:=10
abbrev rW:FuncId:=11
abbrev lK:FuncId:=12
abbrev oX:FuncId:=14
abbrev lT:FuncId:=16
abbrev jM:FuncId:=18
abbrev sR:FuncId:=20
abbrev jH:FuncId:=21
abbrev sB:FuncId:=22
abbrev kC:FuncId:=23
abbrev kF:FuncId:=24
abbrev CU:FuncId:=25
abbrev nL:FuncId:=26
abbrev rT:FuncId:=27
abbrev fU:FuncId:=28
abbrev lQ:FuncId:=29
abbrev uX:FuncId:=30
abbrev oW:FuncId:=31
abbrev yR:FuncId:=32
abbrev lH:FuncId:=33
abbrev mX:FuncId:=34
abbrev xC:FuncId:=35
abbrev bN:FuncId:=39
abbrev xA:FuncId:=40
abbrev yN:FuncId:=41
abbrev bP:FuncId:=42
abbrev qY:FuncId:=43
abbrev aQ:FuncId:=44
abbrev gC:FuncId:=45
abbrev gE:FuncId:=46
abbrev fA:FuncId:=47
abbrev nU:FuncId:=48
abbrev cQ:FuncId:=49
abbrev dU:FuncId:=50
abbrev lI:FuncId:=51
abbrev qU:FuncId:=52
abbrev qN:FuncId:=53
abbrev wC:FuncId:=54
abbrev aU:FuncId:=55
abbrev jZ:FuncId:=56
abbrev bJ:FuncId:=57
abbrev gY:FuncId:=58
abbrev lJ:FuncId:=59
abbrev qG:FuncId:=60
abbrev mC:FuncId:=61
abbrev aK:FuncId:=62
abbrev BB:FuncId:=66
abbrev bX:FuncId:=67
abbrev rU:FuncId:=68
abbrev kS:FuncId:=69
abbrev uZ:FuncId:=72
abbrev pT:FuncId:=73
abbrev wW:FuncId:=74
abbrev zW:FuncId:=75
abbrev bD:FuncId:=76
abbrev eS:FuncId:=77
abbrev sD:FuncId:=78
abbrev HD:FuncId:=89
abbrev eY:FuncId:=94
abbrev eG:FuncId:=95
abbrev qX:FuncId:=96
abbrev sF:FuncId:=97
abbrev fV:FuncId:=98
abbrev jI:FuncId:=99
abbrev vA:FuncId:=100
abbrev cC:FuncId:=102
abbrev cV:FuncId:=103
abbrev kJ:FuncId:=104
abbrev cB:FuncId:=105
abbrev xU:FuncId:=106
abbrev tU:FuncId:=107
abbrev uQ:FuncId:=111
abbrev OJ:FuncId:=114
abbrev dG:FuncId:=115
abbrev CI:FuncId:=117
abbrev rX:FuncId:=118
abbrev bV:FuncId:=120
abbrev dE:FuncId:=121
abbrev BR:FuncId:=122
abbrev fQ:FuncId:=123
abbrev cN:FuncId:=124
abbrev fK:FuncId:=125
abbrev dQ:FuncId:=126
abbrev iW:FuncId:=127
abbrev rY:FuncId:=128
abbrev dK:FuncId:=130
abbrev oR:FuncId:=136
abbrev fC:FuncId:=137
noncomputable def bH:FuncId->mE:=aFE [(3,⟨cD [(10,[15,16,17,18,21,23,24],[],[14])],cE []⟩),
 (4,⟨cD [(12,[6,7,17,18,19,24,25,26],[],[16])],cE []⟩),
 (5,⟨cD [(19,[30,32,35,36,163,164,165],[30,32,163,164,165],[18]),(16,[30,32,163,164,165],[],[18])],cE []⟩),
 (8,⟨cD [(8,[1,2,5,6,7,8,9],[1,2,5,6,7,8],[]),(3,[1,2,5,6],[5],[])],cE [(4,[1,2,5,6])]⟩),
 (11,⟨cD [(4,[0,1,5],[],[4])],cE []⟩),
 (12,⟨cD [(4,[3,7,8,9,10],[9],[])],cE []⟩),
 (13,⟨cD [(2,[0,1,5],[],[4])],cE []⟩),
 (14,⟨cD [(4,[0,1,5],[],[4])],cE []⟩),
 (15,⟨cD [(4,[1,2,3,4,9,11,12],[11],[])],cE []⟩),
 (16,⟨cD [(3,[0,1,2,7,10,11],[7],[])],cE []⟩),
 (17,⟨cD [(8,[2,7,8,26,27,28,33,34,35],[2,7,26,27,28],[]),(5,[2,7,26,27,28],[7],[])],cE []⟩),
 (18,⟨cD [(4,[0,1,5],[],[4])],cE []⟩),
 (19,⟨cD [(3,[2,3,7,13,14,15],[2,3,7],[])],cE []⟩),
 (21,⟨cD [(5,[0,2,7,22,23],[7],[])],cE []⟩),
 (22,⟨cD [(7,[5,6,7,15,17,18,71,72,73],[6,15,18],[])],cE []⟩),
 (23,⟨cD [(8,[2,6,7,44,45,46],[6,7],[])],cE []⟩),
 (24,⟨cD [(16,[2,4,8,10,11,14,15,16,17,75,76],[2,4,8,10,11,14,15,16,17],[]),(12,[2,4,8,10,11,14,15],[8,14],[]),(5,[2,3,4,8,10,11,38,39,40],[2,4,8,10,11],[])],cE []⟩),
 (26,⟨cD [(4,[0,1,5],[],[4])],cE []⟩),
 (28,⟨cD [(5,[2,3,5,13,14,15],[5],[])],cE []⟩),
 (29,⟨cD [(16,[3,10,11,14,15,63,64,68,69],[3,10,11,14,63,64],[]),(13,[3,10,11,14,63,64],[3,10,11,14],[]),(6,[3,9,10,11,29,30,31],[3,10,11],[])],cE []⟩),
 (30,⟨cD [(4,[0,1,5],[],[4])],cE []⟩),
 (32,⟨cD [(5,[1,6,7,8,9],[6,8],[])],cE []⟩),
 (38,⟨cD [(5,[3,7,8,9,10],[9],[])],cE []⟩),
 (39,⟨cD [(8,[0,1],[],[4])],cE []⟩),
 (43,⟨cD [(5,[1,2,7,16,17,18],[7],[])],cE []⟩),
 (44,⟨cD [(1000005,[3,7,8],[],[])],cE []⟩),
 (1280005,⟨cD [(1000000,[3,7,8],[],[])],cE []⟩),
 (49,⟨cD [(9,[0,3,4,5],[0,3],[]),(4,[0,3],[0],[2])],cE [(10,[0,3,4,5])]⟩),
 (52,⟨cD [(8,[1,2,7,8,9,32,33,34,39,40,41],[1,2,7,32,33,34],[]),(5,[1,2,7,32,33,34],[7],[])],cE []⟩),
 (54,⟨cD [(5,[7,8,9,26,27],[9],[])],cE []⟩),
 (55,⟨cD [(1000005,[3,7],[],[])],cE []⟩),
 (1230005,⟨cD [(1000000,[3,7],[],[])],cE []⟩),
 (56,⟨cD [(3,[0,1,5,11,12],[5],[])],cE []⟩),
 (57,⟨cD [(1000005,[4,5,7],[],[])],cE []⟩),
 (1250005,⟨cD [(1000000,[4,5,7],[],[])],cE []⟩),
 (58,⟨cD [(3,[1,2,7,13,14,15],[7],[])],cE []⟩),
 (59,⟨cD [(3,[0,5,8,9,10],[5],[])],cE []⟩),
 (61,⟨cD [(3,[2,3,9,14,15],[9],[])],cE []⟩),
 (62,⟨cD [(1000005,[3,7],[],[])],cE []⟩),
 (1360005,⟨cD [(1000000,[3,7],[],[]),(1000009,[3,10],[],[])],cE []⟩),
 (1360009,⟨cD [(1000000,[3,10],[],[])],cE []⟩),
 (69,⟨cD [(2,[2,7,8,9],[],[4])],cE []⟩),
 (71,⟨cD [(2,[0,2,3,5,8,9,10],[5],[])],cE []⟩),
 (76,⟨cD [(9,[0,1,2,3,4,7,13,14,15,38,39,40],[0,1,2,3,4,13,14,15],[]),(4,[0,1,2,3,4,7,13,14,15,21,22,23],[0,1,2,3,4,7,13,14,15],[]),(1,[0,1,2,3,4,13,14,15],[],[])],cE []⟩),
 (77,⟨cD [(2,[0,1,2,3,8,9],[],[])],cE [(17,[0,1,2,3,8,9,10,11]),(15,[0,1,2,3,8,9,10,11,12]),(10,[0,1,2,3,8,9,10])]⟩),
 (89,⟨cD [(12,[0,3,6,16,17,36,37],[0,3,16,17],[]),(5,[0,3,16,17],[],[2])],cE []⟩),
 (94,⟨cD [(2,[0,1,7,8],[],[4])],cE []⟩),
 (96,⟨cD [(3,[3,6,7,8],[3],[])],cE []⟩),
 (101,⟨cD [(24,[2,8,9,10,14,15,16,17,18],[2,8,14,15,17,18],[]),(17,[2,8,9,10,11,13,14,15,16],[2,8,9,10,11,13,14,15],[])],cE [(28,[2,8,14,15,17,18]),(21,[2,8,9,10,11,13,14,15]),(5,[0,1,2]),(3,[0,1,2])]⟩),
 (102,⟨cD [(2,[0,1,7,8],[],[4])],cE []⟩),
 (105,⟨cD [(4,[0,1,2,6,7],[0,1,2,6],[]),(1,[0,1,2,6],[],[])],cE []⟩),
 (106,⟨cD [(8,[0,6,7,10],[],[]),(4,[0,6,7,8,9],[0,6,7,8],[])],cE []⟩),
 (107,⟨cD [(5,[0,1,6,7,8,9],[],[])],cE [(10,[0,1,6,7,8,9,10])]⟩),
 (108,⟨cD [],cE [(12,[9,11]),(11,[0,9,10,11,12])]⟩),
 (109,⟨cD [(2,[0,6,7],[],[])],cE []⟩),
 (110,⟨cD [(20,[0,1,2,7,8,10],[0,1,2,7,8],[]),(14,[0,1,2,7,8,9],[0,1,2,7,8],[]),(5,[0,1,2,7,8],[0,1,2,7,8],[]),(3,[0,1,2,7,8],[],[6])],cE [(4,[0,1,2,7,8]),(18,[0,1,2,7,8])]⟩),
 (112,⟨cD [(5,[0,1,9,10],[0,1,9,10],[]),(3,[0,1,9,10],[0,1,9,10],[]),(3,[0,1,9,10],[9],[])],cE []⟩),
 (113,⟨cD [(15,[0,1,10,11],[0,1,10,11],[]),(13,[0,1,10,11],[0,1,10,11],[]),(13,[0,1,10,11],[0,1,11],[]),(5,[0,1,10,11],[0,1,10,11],[]),(3,[0,1,10,11],[0,1,10,11],[])],cE []⟩),
 (114,⟨cD [],cE [(7,[0,2]),(4,[0,2])]⟩),
 (115,⟨cD [],cE [(10,[0,2]),(7,[0,2]),(4,[0,2])]⟩),
 (117,⟨cD [(4,[0,1,2,7],[7],[])],cE [(8,[0,1,2,7])]⟩),
 (119,⟨cD [(2,[0,1,7,8],[],[4])],cE []⟩),
 (120,⟨cD [(1,[0,1,2,9,10],[],[])],cE []⟩),
 (123,⟨cD [(5,[0,1,2,4,5,8,9,13,14],[0,1,2,4,5,8,9],[]),(1,[0,1,2,8,9],[],[])],cE []⟩),
 (124,⟨cD [(1,[0,1,2,9,10],[],[])],cE []⟩),
 (126,⟨cD [(1,[0,1,2,9,10],[],[])],cE []⟩),
 (128,⟨cD [(3,[2,5,11,12,13],[5],[])],cE []⟩),
 (130,⟨cD [(2,[0,1,7,8],[],[4])],cE []⟩),
 (131,⟨cD [(1,[0,2,3,8],[],[])],cE [(5,[0,2,3,8,9])]⟩)]
end Go.Am
namespace Go.Proofs.JQ
open Go Go.RowKit Go.Proofs Go.Shelf
def aD1:Go.Shelf.Ren:=⟨fun | 264=>64 | n=>n,fun | 46=>122 | 53=>22 | n=>n,fun n=>n⟩
theorem lays264:Lays.n264 Tryz.prog aD1:={
 mixed:=by kernel_rfl
 f264:=Tryz.func64.trans (congrArg some (by kernel_rfl))
 t46:=Tryz.underlying122
 a46:=Tryz.isAgg122
 z46:=Tryz.sizeOf122
 v46:=Tryz.zeroValue122
 t53:=Tryz.underlying22
 a53:=Tryz.isAgg22
 z53:=Tryz.sizeOf22
 v53:=Tryz.zeroValue22}
theorem UU (m:Nat) (w:World) (h0:0<m) (h1:m<=4294967296):Calls Tryz.prog 63 #[.int .u64 m] w fun e w'=>e= .returned (.bool true)/\w=w':=by
 have h2:m<=2305843009213693952:=by omega
 have h3:decide ((m:Int)<=2305843009213693952)=true:=by simp;omega
 go_enter Tryz.func63,Tryz.ntmps63
 go_wp2
 go_ret
 exact⟨rfl,rfl⟩
theorem aD2 (lo y:Nat) (w:World) (h0:0<y) (h1:y<18446744073709551616) (h2:lo<18446744073709551616):Calls Tryz.prog 101 #[.int .u64 0,.int .u64 lo,.int .u64 y] w fun e w'=>e= .returned (.tuple #[.int .u64 ((lo / y:Nat):Int),.int .u64 ((lo%y:Nat):Int)])/\Below w.heap.size w w':=by
 have g1:((y:Int)==0)=false:=by rw [beq_eq_false_iff_ne];omega
 have g2:decide (y=0)=false:=by simp;omega
 go_enter Tryz.func101,Tryz.ntmps101
 go_wp2
 go_quiet (fail)
 go_wp2
 go_ret2
 refine⟨?_,below_drewN (Below.refl _ _) _⟩;show Ending.returned (.tuple #[.int .u64 (IntKind.u64.wrap ((lo / y:Nat):Int)),.int .u64 ((lo%y:Nat):Int)])=_;rw [Mul64.wrapN _ (Nat.lt_of_le_of_lt (Nat.div_le_self _ _) h2)]
theorem aD3 (lo y:Nat) (w:World) (h0:0<y) (h1:y<18446744073709551616) (h2:lo<18446744073709551616):Calls Tryz.prog 65 #[.int .u64 0,.int .u64 lo,.int .u64 y] w fun e w'=>e= .returned (.int .u64 ((lo%y:Nat):Int))/\Below w.heap.size w w':=by
 have g1:((y:Int)==0)=false:=by rw [beq_eq_false_iff_ne];omega
 have C:=aD2 lo y w h0 h1 h2
 go_enter Tryz.func65,Tryz.ntmps65
 go_wp2_with fail
 refine C.mono ?_
 rintro e W1 ⟨rfl,hb⟩
 go_wp2
 go_ret
 exact⟨rfl,hb⟩
set_option maxHeartbeats 1000000 in
theorem UV (a b m:Nat) (w:World) (ha:a<18446744073709551616) (hb:b<18446744073709551616) (hm:m<=4294967296) (h0:0<m):
 Calls Tryz.prog 33 #[.int .u64 a,.int .u64 b,.int .u64 m] w fun e w'=>e= .returned (.int .u64 ((a*b%m:Nat):Int))/\Below w.heap.size w w':=by
 have g1:((m:Int)==0)=false:=by rw [beq_eq_false_iff_ne];omega
 have la:a%m<m:=Nat.mod_lt _ h0;have lb:b%m<m:=Nat.mod_lt _ h0
 have lab:a%m*(b%m)<18446744073709551616:=by
  have:a%m*(b%m)<=4294967295*4294967295:=Nat.mul_le_mul (by omega) (by omega);omega
 have C1:∀w,Calls Tryz.prog 64 #[.int .u64 ((a%m:Nat):Int),.int .u64 ((b%m:Nat):Int)] w fun e w'=>e= .returned (.tuple #[.int .u64 0,.int .u64 ((a%m*(b%m):Nat):Int)])/\w'=w:=by
  intro w;have C:=Any.bits_Mul64 lays264 (a%m) (b%m) (by omega) (by omega) w;rw [Nat.div_eq_of_lt lab,Nat.mod_eq_of_lt lab]at C;exact C
 have C2:∀w,Calls Tryz.prog 65 #[.int .u64 0,.int .u64 ((a%m*(b%m):Nat):Int),.int .u64 m] w fun e w'=>e= .returned (.int .u64 ((a*b%m:Nat):Int))/\Below w.heap.size w w':=by
  intro w;have C:=aD3 (a%m*(b%m)) m w h0 (by omega) lab;rw [<-Nat.mul_mod]at C;exact C
 have hM:=UU m w h0 hm;clear la lb lab
 go_enter Tryz.func33,Tryz.ntmps33
 go_wp2_with fail
 refine hM.mono ?_
 rintro e W1 ⟨rfl,rfl⟩
 go_wp2_with fail
 go_quiet ((go_at_call 64;exact Calls.quiet_of_same (C1 _)))
 go_wp2_with fail
 refine(C2 _).mono ?_
 rintro e W2 ⟨rfl,hb2⟩
 go_wp2
 go_ret
 exact⟨rfl,(below_drewN (Below.refl _ _) _).trans hb2⟩
theorem aD4 (a b m:Nat) (w:World) (ha:a<18446744073709551616) (hb:b<18446744073709551616) (hm:m<=4294967296) (h0:0<m):
 Calls Tryz.prog 34 #[.int .u64 a,.int .u64 b,.int .u64 m] w fun e w'=>e= .returned (.int .u64 (((a%m+b%m)%m:Nat):Int))/\Below w.heap.size w w':=by
 have g1:((m:Int)==0)=false:=by rw [beq_eq_false_iff_ne];omega
 have la:a%m<m:=Nat.mod_lt _ h0;have lb:b%m<m:=Nat.mod_lt _ h0;have g2:=Mul64.wrapN (a%m+b%m) (by omega);have hM:=UU m w h0 hm;clear la lb
 go_enter Tryz.func34,Tryz.ntmps34
 go_wp2_with fail
 refine hM.mono ?_
 rintro e W1 ⟨rfl,rfl⟩
 go_wp2_with fail
 go_quiet (fail)
 go_wp2
 go_ret
 refine⟨congrArg (fun x=>Ending.returned (.int .u64 x)) ?_,below_drewN (Below.refl _ _) _⟩;show(IntKind.u64.wrap ((a:Int)%m+(b:Int)%m)).tmod m=_;have e1:(a:Int)%m+(b:Int)%m=((a%m+b%m:Nat):Int):=by norm_cast
 rw [e1,g2,<-Int.ofNat_tmod]
theorem Wl (a b m:Nat) (w:World) (ha:a<18446744073709551616) (hb:b<18446744073709551616) (hm:m<=4294967296) (h0:0<m):
 Calls Tryz.prog 31 #[.int .u64 a,.int .u64 b,.int .u64 m] w fun e w'=>e= .returned (.int .u64 ((lC a b m:Nat):Int))/\Below w.heap.size w w':=by
 have g1:((m:Int)==0)=false:=by rw [beq_eq_false_iff_ne];omega
 have la:a%m<m:=Nat.mod_lt _ h0;have lb:b%m<m:=Nat.mod_lt _ h0;have g2:=Mul64.wrapN (a%m+m) (by omega);have hM:=UU m w h0 hm;clear la lb
 go_enter Tryz.func31,Tryz.ntmps31
 go_wp2_with fail
 refine hM.mono ?_
 rintro e W1 ⟨rfl,rfl⟩
 go_wp2_with fail
 go_quiet (fail)
 go_wp2
 go_ret
 refine⟨congrArg (fun x=>Ending.returned (.int .u64 x)) ?_,below_drewN (Below.refl _ _) _⟩;show(IntKind.u64.wrap (IntKind.u64.wrap ((a:Int)%m+m)-(b:Int)%m)).tmod m=_;have lb:b%m<m:=Nat.mod_lt _ h0;have la:a%m<m:=Nat.mod_lt _ h0;have e1:(a:Int)%m+m=((a%m+m:Nat):Int):=by norm_cast
 have e2:((a%m+m:Nat):Int)-(b:Int)%m=((a%m+m-b%m:Nat):Int):=by
  have:((b%m:Nat):Int)=(b:Int)%m:=by norm_cast
  rw [<-this];omega
 rw [e1,g2,e2,Mul64.wrapN _ (by omega),<-Int.ofNat_tmod];rfl
theorem and_one (e:Nat) (he:e<18446744073709551616):bits .and .u64 (e:Int) 1=((e%2:Nat):Int):=by
 have h:=bits_and_u64_nat e 1 he (by omega);rw [Nat.and_one_is_mod]at h;exact h
set_option maxHeartbeats 1000000 in
theorem aD5 (a e m:Nat) (w:World) (ha:a<18446744073709551616) (he:e<18446744073709551616) (h0:0<m) (hm:m<=4294967296):
 Calls Tryz.prog 117 #[.int .u64 a,.int .u64 e,.int .u64 m] w fun r w'=>r= .returned (.int .u64 ((JA 64 (1%m) a e m:Nat):Int))/\Below w.heap.size w w':=by
 have g1:((m:Int)==0)=false:=by rw [beq_eq_false_iff_ne];omega
 have hM:=UU m w h0 hm
 go_enter Tryz.func117,Tryz.ntmps117
 go_wp2_with fail
 refine hM.mono ?_
 rintro e W1 ⟨rfl,rfl⟩
 go_wp2_with fail
 go_loopw [0,1,7] (fun av ev ov wr=>∃(f a' e' o':Nat),a'<18446744073709551616/\o'<18446744073709551616/\e'<2 ^ f/\f<=64/\av= .int .u64 a'/\ev= .int .u64 e'/\ov= .int .u64 o'/\JA f o' a' e' m=JA 64 (1%m) a e m/\Below w.heap.size w wr) (fun _ ev _ _=>(intOf ev).toNat)
 case atStart=>exact⟨64,a,e,1%m,ha,by have:=Nat.mod_lt 1 h0;omega,he,Nat.le_refl _,rfl,rfl,by norm_cast,rfl,Below.refl _ _⟩
 case round=>
  obtain⟨f,a',e',o',h1,h2,h3,h4,rfl,rfl,rfl,h5,h6⟩:=hrel;have H5:=Lib.hid h5;clear h5
  have he':e'<18446744073709551616:=by
   have:2 ^ f<=2 ^ 64:=Nat.pow_le_pow_right (by omega) h4;omega
  by_cases hz:0<e'
  ·obtain⟨f,rfl⟩:∃g,f=g+1:=by
    cases f with
    | zero=>simp at h3;omega
    | succ g=>exact⟨g,rfl⟩
   have hstep:=YZ (f:=f) (out:=o') (a:=a') (m:=m) hz;have HS:=Lib.hid hstep;clear hstep;have h3':e' / 2<2 ^ f:=by rw [Nat.pow_succ]at h3;omega
   have la:a'*a'%m<m:=Nat.mod_lt _ h0;have lo:o'*a'%m<m:=Nat.mod_lt _ h0;clear h3;have ga:=and_one e' he';by_cases ho:e'%2=1
   ·have ga1:bits .and .u64 (e':Int) 1=1:=by rw [ga,ho];rfl
    have HO:=Lib.hid ho;clear ga ho
    go_wp2_with fail
    refine(UV o' a' m _ h2 h1 hm h0).mono ?_
    rintro r W1 ⟨rfl,hb1⟩
    go_wp2_with fail
    refine(UV a' a' m _ h1 h1 hm h0).mono ?_
    rintro r W2 ⟨rfl,hb2⟩
    go_wp2
    go_roundw
    case rel=>
     refine⟨f,a'*a'%m,e' / 2,o'*a'%m,by omega,by omega,h3',by omega,rfl,?_,rfl,?_,h6.trans ((hb1.mono h6.size).trans (hb2.mono (Nat.le_trans h6.size hb1.size)))⟩
     ·norm_cast
     ·rw [<-H5.out,HS.out,if_pos HO.out]
    case measure=>simp [intOf];omega
   ·have ho:e'%2=0:=by omega
    have ga1:bits .and .u64 (e':Int) 1=0:=by rw [ga,ho];rfl
    have HO:=Lib.hid ho;clear ga ho
    go_wp2_with fail
    refine(UV a' a' m _ h1 h1 hm h0).mono ?_
    rintro r W2 ⟨rfl,hb2⟩
    go_wp2
    go_roundw
    case rel=>
     refine⟨f,a'*a'%m,e' / 2,o',by omega,by omega,h3',by omega,rfl,?_,rfl,?_,h6.trans (hb2.mono h6.size)⟩
     ·norm_cast
     ·rw [<-H5.out,HS.out,if_neg (by rw [HO.out];omega)]
    case measure=>simp [intOf];omega
  ·obtain rfl:e'=0:=by omega
   go_wp2
   go_ret
   refine⟨?_,h6⟩;have:=H5.out;rw [YY]at this;rw [<-this];rfl
def SN (a m:Nat) (e:Ending):Prop:=e= .returned (if(vY (a%m+1) m (a%m) 0 (1%m) m).1=1 then .tuple #[.int .u64 ((vY (a%m+1) m (a%m) 0 (1%m) m).2:Nat),.int .i64 0]else .tuple #[.int .u64 0,.int .i64 5])
set_option maxHeartbeats 1000000 in
theorem aD6 (a m:Nat) (w:World) (ha:a<18446744073709551616) (h0:0<m) (hm:m<=4294967296):
 Calls Tryz.prog 32 #[.int .u64 a,.int .u64 m] w fun r w'=>SN a m r/\Below w.heap.size w w':=by
 have g1:((m:Int)==0)=false:=by rw [beq_eq_false_iff_ne];omega
 have hM:=UU m w h0 hm
 go_enter Tryz.func32,Tryz.ntmps32
 go_wp2_with fail
 refine hM.mono ?_
 rintro e W1 ⟨rfl,rfl⟩
 go_wp2_with fail
 go_quiet (fail)
 go_wp2_with fail
 go_quiet (fail)
 go_wp2_with fail
 go_loopw [6,7,8,9,10] (fun rv sv xv yv _ wr=>∃(f r s x y:Nat),r<18446744073709551616/\s<f/\s<18446744073709551616/\x<18446744073709551616/\y<18446744073709551616/\rv= .int .u64 r/\sv= .int .u64 s/\xv= .int .u64 x/\yv= .int .u64 y/\vY f r s x y m=vY (a%m+1) m (a%m) 0 (1%m) m/\Below w.heap.size w wr) (fun _ sv _ _ _ _=>(intOf sv).toNat)
 case atStart=>
  have l1:a%m<m:=Nat.mod_lt _ h0;have l2:1%m<m:=Nat.mod_lt _ h0;exact⟨a%m+1,m,a%m,0,1%m,by omega,by omega,by omega,by omega,by omega,rfl,by norm_cast,rfl,by norm_cast,rfl,below_drewN (below_drewN (Below.refl _ _) _) _⟩
 case round=>
  obtain⟨f,r,s,x,y,h1,h2,h3,h4,h5,rfl,rfl,rfl,rfl,h6,h7⟩:=hrel;have H6:=Lib.hid h6;clear h6;by_cases hz:0<s
  ·obtain⟨f,rfl⟩:∃g,f=g+1:=⟨f-1,by omega⟩
   have hstep:=Ry (f:=f) (r:=r) (x:=x) (y:=y) (m:=m) hz;have HS:=Lib.hid hstep;clear hstep;have l1:r%s<s:=Nat.mod_lt _ hz;have l2:r / s<=r:=Nat.div_le_self _ _;have l3:r / s*y%m<m:=Nat.mod_lt _ h0;have l4:lC x (r / s*y%m) m<m:=Nat.mod_lt _ h0;have g2:((s:Int)==0)=false:=by rw [beq_eq_false_iff_ne];omega
   have g3:((s:Int) != 0)=true:=by rw [bne_iff_ne];omega
   have g4:IntKind.u64.wrap ((r:Int) / s)=((r / s:Nat):Int):=by
    have:=Mul64.wrapN (r / s) (by omega);rw [<-this];norm_cast
   have G4:=Lib.hid g4;clear g4
   go_wp2_with fail
   go_quiet (fail)
   go_wp2_with fail
   rw [G4.out];refine(UV (r / s) y m _ (by omega) h5 hm h0).mono ?_
   rintro e W1 ⟨rfl,hb1⟩
   go_wp2_with fail
   refine(Wl x (r / s*y%m) m _ h4 (by omega) hm h0).mono ?_
   rintro e W2 ⟨rfl,hb2⟩
   go_wp2
   go_roundw
   case rel=>
    refine⟨f,s,r%s,y,lC x (r / s*y%m) m,h3,by omega,by omega,h5,by omega,rfl,?_,rfl,rfl,by rw [<-H6.out,HS.out],?_⟩
    ·norm_cast
    ·refine(below_drewN h7 ?_).trans ?_
     rotate_left
     ·exact(hb1.mono h7.size).trans (hb2.mono (Nat.le_trans h7.size hb1.size))
   case measure=>simp [intOf];omega
  ·obtain rfl:s=0:=by omega
   by_cases hr:r=1
   ·subst hr
    go_wp2
    go_ret2
    have:=H6.out;rw [ZA]at this;exact⟨by unfold SN;rw [<-this];rfl,h7⟩
   ·have g5:((r:Int) != 1)=true:=by rw [bne_iff_ne];omega
    go_wp2
    go_ret2
    have:=H6.out;rw [ZA]at this;exact⟨by unfold SN;rw [<-this,if_neg hr];rfl,h7⟩
end Go.Proofs.JQ
namespace Go.Am
open Go.RowKit Go.MapKept Go.Proofs Go.Proofs.JQ
noncomputable def Gw (args:List Value) (k:Nat->Nat->Nat->Bool):Bool:=
 match args with
 | [.int .u64 (.ofNat a),.int .u64 (.ofNat b),.int .u64 (.ofNat m)]=>match Nat.blt a 18446744073709551616,Nat.blt b 18446744073709551616,Nat.ble m 4294967296,Nat.blt 0 m with
  | true,true,true,true=>k a b m
  | _,_,_,_=>false
 | _=>false
noncomputable def ov3 (g:Nat->Nat->Nat->Nat) (args:List Value) (Sz:St) (K:VK):Bool:=Gw args fun a b m=>bA (g a b m) fun n=>K (.int .u64 (.ofNat n)) Sz
noncomputable def aHT (e:Nat) (out a m:Nat) (k:Nat->Bool):Bool:=
 AJ (β:=Nat->Nat->Nat->Bool) (fun out _ _=>k out) (fun _ ih out a e=>match Nat.beq e 0 with
  | true=>k out
  | false=>match Nat.beq (Nat.mod e 2) 1 with
   | true=>bA (Nat.mod (Nat.mul out a) m) fun out=>bA (Nat.mod (Nat.mul a a) m) fun a=>bA (Nat.div e 2) fun e=>ih out a e
   | false=>bA (Nat.mod (Nat.mul a a) m) fun a=>bA (Nat.div e 2) fun e=>ih out a e) 64 out a e
noncomputable def Ou (args:List Value) (Sz:St) (K:VK):Bool:=Gw args fun a e m=>aHT e (Nat.mod 1 m) a m fun n=>K (.int .u64 (.ofNat n)) Sz
noncomputable def invK (f:Nat) (r s x y m:Nat) (k:Nat->Nat->Bool):Bool:=
 AJ (β:=Nat->Nat->Nat->Nat->Bool) (fun r _ x _=>k r x) (fun _ ih r s x y=>match Nat.beq s 0 with
  | true=>k r x
  | false=>bA (Nat.mod r s) fun s'=>bA (lC x (Nat.mod (Nat.mul (Nat.div r s) y) m) m) fun y'=>ih s s' y y') f r s x y
noncomputable def Gx (args:List Value) (Sz:St) (K:VK):Bool:=
 match args with
 | [.int .u64 (.ofNat a),.int .u64 (.ofNat m)]=>match Nat.blt a 18446744073709551616,Nat.ble m 4294967296,Nat.blt 0 m with
  | true,true,true=>bA (Nat.mod a m) fun s=>invK (Nat.succ s) m s 0 (Nat.mod 1 m) m fun r x=>match Nat.beq r 1 with
   | true=>K (.tuple ⟨[.int .u64 (.ofNat x),.int .i64 (.ofNat 0)]⟩) Sz
   | false=>K (.tuple ⟨[.int .u64 (.ofNat 0),.int .i64 (.ofNat 5)]⟩) Sz
  | _,_,_=>false
 | _=>false
theorem Ov{m:Nat}{k:Nat->Bool}:∀(f out a e:Nat),AJ (β:=Nat->Nat->Nat->Bool) (fun out _ _=>k out) (fun _ ih out a e=>match Nat.beq e 0 with
 | true=>k out
 | false=>match Nat.beq (Nat.mod e 2) 1 with
  | true=>bA (Nat.mod (Nat.mul out a) m) fun out=>bA (Nat.mod (Nat.mul a a) m) fun a=>bA (Nat.div e 2) fun e=>ih out a e
  | false=>bA (Nat.mod (Nat.mul a a) m) fun a=>bA (Nat.div e 2) fun e=>ih out a e) f out a e=k (JA f out a e m):=by
 intro f;induction f with
 | zero=>intro out a e;rfl
 | succ f ih=>
  intro out a e
  show(match Nat.beq e 0 with
   | true=>k out
   | false=>match Nat.beq (Nat.mod e 2) 1 with
    | true=>bA (Nat.mod (Nat.mul out a) m) fun out=>bA (Nat.mod (Nat.mul a a) m) fun a=>bA (Nat.div e 2) fun e=>AJ (β:=Nat->Nat->Nat->Bool) _ _ f out a e
    | false=>bA (Nat.mod (Nat.mul a a) m) fun a=>bA (Nat.div e 2) fun e=>AJ (β:=Nat->Nat->Nat->Bool) _ _ f out a e)=k (match Nat.beq e 0 with
   | true=>out
   | false=>JA f (match Nat.beq (e%2) 1 with | true=>out*a%m | false=>out) (a*a%m) (e / 2) m)
  cases Nat.beq e 0 with
  | true=>rfl
  | false=>
   show(match Nat.beq (e%2) 1 with | true=>_ | false=>_)=_;cases Nat.beq (e%2) 1 with
   | true=>
    show bA (Nat.mod (Nat.mul out a) m) (fun out=>bA (Nat.mod (Nat.mul a a) m) fun a=>bA (Nat.div e 2) fun e=>AJ (β:=Nat->Nat->Nat->Bool) _ _ f out a e)=_;rw [aT,aT,aT];exact ih _ _ _
   | false=>
    show bA (Nat.mod (Nat.mul a a) m) (fun a=>bA (Nat.div e 2) fun e=>AJ (β:=Nat->Nat->Nat->Bool) _ _ f out a e)=_;rw [aT,aT];exact ih _ _ _
theorem Ot{m:Nat}{k:Nat->Nat->Bool}:∀(f r s x y:Nat),invK f r s x y m k=k (vY f r s x y m).1 (vY f r s x y m).2:=by
 intro f;induction f with
 | zero=>intro r s x y;rfl
 | succ f ih=>
  intro r s x y
  show(match Nat.beq s 0 with
   | true=>k r x
   | false=>bA (Nat.mod r s) fun s'=>bA (lC x (Nat.mod (Nat.mul (Nat.div r s) y) m) m) fun y'=>invK f s s' y y' m k)=k (match Nat.beq s 0 with
   | true=>(r,x)
   | false=>vY f s (r%s) y (lC x (r / s*y%m) m) m).1 (match Nat.beq s 0 with
   | true=>(r,x)
   | false=>vY f s (r%s) y (lC x (r / s*y%m) m) m).2
  cases Nat.beq s 0 with
  | true=>rfl
  | false=>simp only [aT];exact ih _ _ _ _
section
variable{w0:World}{U:Rn}{Sz:St}{w:World}
theorem WB{args args':List Value}{k:Nat->Nat->Nat->Bool} (hk:Gw args k=true) (ha:gW U args args'):∃a b m:Nat,args'=[.int .u64 a,.int .u64 b,.int .u64 m]/\a<18446744073709551616/\b<18446744073709551616/\m<=4294967296/\0<m/\k a b m=true:=by
 unfold Gw at hk;split at hk
 ·rename_i a b m
  obtain⟨a',t,rfl,h1,h2⟩:=ha.cI;obtain⟨b',t,rfl,h3,h4⟩:=h2.cI;obtain⟨c',t,rfl,h5,h6⟩:=h4.cI;cases h6.iR;cases h1.of_flat rfl;cases h3.of_flat rfl;cases h5.of_flat rfl;split at hk
  ·rename_i g1 g2 g3 g4
   exact⟨a,b,m,rfl,Nat.le_of_ble_eq_true g1,Nat.le_of_ble_eq_true g2,Nat.le_of_ble_eq_true g3,Nat.le_of_ble_eq_true g4,hk⟩
  ·cases hk
 ·cases hk
theorem Md{f:FuncId}{g:Nat->Nat->Nat->Nat} (he:∀args w,(callFunc f args).run Tryz.prog w= .ok (.enter f args) w)
 (C:∀(a b m:Nat) (w:World),a<18446744073709551616->b<18446744073709551616->m<=4294967296->0<m->Calls Tryz.prog f #[.int .u64 a,.int .u64 b,.int .u64 m] w fun e w'=>e= .returned (.int .u64 (g a b m:Nat))/\Below w.heap.size w w'):
 gN Tryz.prog w0 (fun f' args Sz K=>match Nat.beq f' f with | true=>ov3 g args Sz K | false=>false):=by
 intro f' args Sz K U w args' hk h ha;dsimp only at hk;split at hk
 ·rename_i hf'
  obtain rfl:f'=f:=by simpa using hf'
  refine⟨he ⟨args'⟩,?_⟩;obtain⟨a,b,m,rfl,h1,h2,h3,h4,hk⟩:=WB hk ha;rw [aT]at hk;refine callsIn_wide.2 ((C a b m w h1 h2 h3 h4).mono ?_)
  rintro e w' ⟨rfl,hb⟩
  obtain⟨q1,q2⟩:=h.below hb;exact⟨_,rfl,U,_,Sz,hk,.flat rfl,q1,q2⟩
 ·cases hk
theorem aAi:gN Tryz.prog w0 (fun f' args Sz K=>match Nat.beq f' 117 with | true=>Ou args Sz K | false=>false):=by
 intro f' args Sz K U w args' hk h ha;dsimp only at hk;split at hk
 ·rename_i hf'
  obtain rfl:f'=117:=by simpa using hf'
  refine⟨enters_of Tryz.func117 (by kernel_rfl) rfl ⟨args'⟩,?_⟩;obtain⟨a,b,m,rfl,h1,h2,h3,h4,hk⟩:=WB hk ha;have hk:K (.int .u64 (.ofNat (JA 64 (1%m) a b m))) Sz=true:=(Ov (k:=fun n=>K (.int .u64 (.ofNat n)) Sz) 64 (1%m) a b).symm.trans hk;refine callsIn_wide.2 ((aD5 a b m w h1 h2 h4 h3).mono ?_)
  rintro e w' ⟨rfl,hb⟩
  obtain⟨q1,q2⟩:=h.below hb;exact⟨_,rfl,U,_,Sz,hk,.flat rfl,q1,q2⟩
 ·cases hk
theorem aAj:gN Tryz.prog w0 (fun f' args Sz K=>match Nat.beq f' 32 with | true=>Gx args Sz K | false=>false):=by
 intro f' args Sz K U w args' hk h ha;dsimp only at hk;split at hk
 ·rename_i hf'
  obtain rfl:f'=32:=by simpa using hf'
  refine⟨enters_of Tryz.func32 (by kernel_rfl) rfl ⟨args'⟩,?_⟩;unfold Gx at hk;split at hk
  ·rename_i a m
   obtain⟨a',t,rfl,h1,h2⟩:=ha.cI;obtain⟨c',t,rfl,h3,h4⟩:=h2.cI;cases h4.iR;cases h1.of_flat rfl;cases h3.of_flat rfl;split at hk
   ·rename_i g1 g2 g3
    have g1:=Nat.le_of_ble_eq_true g1;have g2:=Nat.le_of_ble_eq_true g2;have g3:=Nat.le_of_ble_eq_true g3;rw [aT,Ot]at hk;refine callsIn_wide.2 ((aD6 a m w g1 g3 g2).mono ?_)
    rintro e w' ⟨he,hbe⟩
    obtain⟨q1,q2⟩:=h.below hbe;unfold SN at he;by_cases hr:(vY (a%m+1) m (a%m) 0 (1%m) m).1=1
    ·have hb:Nat.beq (vY (Nat.succ (Nat.mod a m)) m (Nat.mod a m) 0 (Nat.mod 1 m) m).1 1=true:=by
      show Nat.beq (vY (a%m+1) m (a%m) 0 (1%m) m).1 1=true;rw [hr];rfl
     rw [hb]at hk;rw [if_pos hr]at he;subst he;exact⟨_,rfl,U,_,Sz,hk,.kN (.cons (.flat rfl) (.cons (.flat rfl) (.nil U))),q1,q2⟩
    ·have hb:Nat.beq (vY (Nat.succ (Nat.mod a m)) m (Nat.mod a m) 0 (Nat.mod 1 m) m).1 1=false:=by
      cases hq:Nat.beq (vY (Nat.succ (Nat.mod a m)) m (Nat.mod a m) 0 (Nat.mod 1 m) m).1 1 with
      | false=>rfl
      | true=>exact absurd (Nat.eq_of_beq_eq_true hq) hr
     rw [hb]at hk;rw [if_neg hr]at he;subst he;exact⟨_,rfl,U,_,Sz,hk,.kN (.cons (.flat rfl) (.cons (.flat rfl) (.nil U))),q1,q2⟩
   ·cases hk
  ·cases hk
 ·cases hk
noncomputable def Wo (ov:FuncId->Option (List Value->St->VK->Bool)):FuncId->Option (List Value->St->VK->Bool):=
 zE 33 (ov3 fun a b m=>a*b%m) (zE 34 (ov3 fun a b m=>(a%m+b%m)%m) (zE 31 (ov3 lC) (zE 117 Ou (zE 32 Gx ov))))
theorem Wp{ov:FuncId->Option (List Value->St->VK->Bool)} (h:RP Tryz.prog w0 ov):RP Tryz.prog w0 (Wo ov):=
 sZ (Md (enters_of Tryz.func33 (by kernel_rfl) rfl) fun a b m w h1 h2 h3 h4=>UV a b m w h1 h2 h3 h4)
  (sZ (Md (enters_of Tryz.func34 (by kernel_rfl) rfl) fun a b m w h1 h2 h3 h4=>aD4 a b m w h1 h2 h3 h4)
   (sZ (Md (enters_of Tryz.func31 (by kernel_rfl) rfl) fun a b m w h1 h2 h3 h4=>Wl a b m w h1 h2 h3 h4)
    (sZ aAi (sZ aAj h))))
end
end Go.Am
namespace Go.Am
open Go.Proofs Go.RowKit
theorem Cf:Tryz.prog.follows .mixedOrders=true:=by kernel_rfl
theorem nameless:Tryz.prog.funcs.toList.all (fun f=>f.name != "runtime.NumGoroutine")=true:=by kernel_rfl
theorem Cg:∀(f:FuncId) (fn:Func),Tryz.prog.funcs[f]? =some fn->fn.name≠ "runtime.NumGoroutine" :=by
 intro f fn h;have hm:fn∈Tryz.prog.funcs.toList:=List.mem_of_getElem? (i:=f) (by rw [Array.getElem?_toList];exact h);have:=List.all_eq_true.1 nameless fn hm;simpa using this
def triedL:List Int:=[2,3,5,7,11,13,17,19,23,29,31,37]
def tabL:List Int:=[0,1,56,2,57,49,28,3,61,58,42,50,38,29,17,4,62,47,59,36,45,43,51,22,53,39,33,30,24,18,12,5,63,55,48,27,60,41,37,16,46,35,44,21,52,32,23,11,54,26,40,15,34,20,31,10,25,14,19,9,13,8,7,6]
def gs:List UH:=[⟨0,triedL.map (Value.int .u64),160,12⟩,⟨3,tabL.map (Value.int .u8),179,64⟩]
theorem gsz:Tryz.prog.globals.size=4:=by kernel_rfl
theorem Wm:GOk Tryz.prog gs:=by
 refine⟨by decide,fun x hx=>?_⟩;rcases List.mem_cons.1 hx with rfl | hx
 ·exact⟨by rw [gsz];decide,by kernel_rfl,by simp [aY]⟩
 ·rcases List.mem_cons.1 hx with rfl | hx
  ·exact⟨by rw [gsz];decide,by kernel_rfl,by simp [aY]⟩
  ·cases hx
noncomputable def Wn:FuncId->Option (List Value->St->VK->Bool):=Wo (fun _=>none)
theorem Ok{w:World}:RP Tryz.prog w Wn:=Wp (fun f g hg=>by cases hg)
set_option maxRecDepth 1000000 in
theorem Kx:IG Tryz.prog Wn 1000 60 89 gs ([.int .u64 23],.bool true):=⟨by simp [fX,aY],rfl,by kernel_rfl⟩
set_option maxRecDepth 1000000 in
theorem Ky:IG Tryz.prog Wn 1000 60 89 gs ([.int .u64 47],.bool true):=⟨by simp [fX,aY],rfl,by kernel_rfl⟩
noncomputable def Kz:List (List Value×Value):=[([.int .u64 23],.bool true),([.int .u64 47],.bool true)]
noncomputable def Wq:FuncId->Option (List Value->St->VK->Bool):=zE 89 (JN Kz) Wn
theorem Ol{w:World} (hsz:Tryz.prog.globals.size<=w.heap.size) (hl:Laid gs w):RP Tryz.prog w Wq:=by
 refine sZ (Bo (most:=1000) (n:=60) Wm hsz hl (fun w _ _=>Ok) Cg Cf (enters_of Tryz.func89 (by kernel_rfl) rfl) fun x hx=>?_) Ok;unfold Kz at hx;rcases List.mem_cons.1 hx with rfl | hx
 ·exact Kx
 rcases List.mem_cons.1 hx with rfl | hx
 ·exact Ky
 cases hx
set_option maxRecDepth 1000000 in
theorem Ws:IG Tryz.prog Wq 1000 60 48 gs ([.agg #[.int .u64 47,.int .u64 23,.int .u64 2,.int .u64 3,.int .i64 5,.int .i64 4,.int .i64 1,.int .i64 1,.int .i64 1,.int .i64 1,.int .i64 2,.int .i64 2]],.bool true):=⟨by simp [fX,aY],rfl,by kernel_rfl⟩
set_option maxRecDepth 1000000 in
theorem Wt:IG Tryz.prog Wq 1000 60 48 gs ([.agg #[.int .u64 47,.int .u64 23,.int .u64 2,.int .u64 3,.int .i64 7,.int .i64 7,.int .i64 2,.int .i64 1,.int .i64 1,.int .i64 1,.int .i64 2,.int .i64 2]],.bool true):=⟨by simp [fX,aY],rfl,by kernel_rfl⟩
noncomputable def aBx:List (List Value×Value):=[([.agg #[.int .u64 47,.int .u64 23,.int .u64 2,.int .u64 3,.int .i64 5,.int .i64 4,.int .i64 1,.int .i64 1,.int .i64 1,.int .i64 1,.int .i64 2,.int .i64 2]],.bool true),([.agg #[.int .u64 47,.int .u64 23,.int .u64 2,.int .u64 3,.int .i64 7,.int .i64 7,.int .i64 2,.int .i64 1,.int .i64 1,.int .i64 1,.int .i64 2,.int .i64 2]],.bool true)]
noncomputable def aBy:FuncId->Option (List Value->St->VK->Bool):=zE 48 (JN aBx) Wq
theorem Om{w:World} (hsz:Tryz.prog.globals.size<=w.heap.size) (hl:Laid gs w):RP Tryz.prog w aBy:=by
 refine sZ (Bo (most:=1000) (n:=60) Wm hsz hl (fun w hz hw=>Ol hz hw) Cg Cf (enters_of Tryz.func48 (by kernel_rfl) rfl) fun x hx=>?_) (Ol hsz hl);unfold aBx at hx;rcases List.mem_cons.1 hx with rfl | hx
 ·exact Ws
 rcases List.mem_cons.1 hx with rfl | hx
 ·exact Wt
 cases hx
set_option maxRecDepth 1000000 in
theorem Rz:IG Tryz.prog aBy 1000 60 74 gs ([.int .u64 23],.int .u64 6):=⟨by simp [fX,aY],rfl,by kernel_rfl⟩
noncomputable def Oo:List (List Value×Value):=[([.int .u64 23],.int .u64 6)]
noncomputable def RR:FuncId->Option (List Value->St->VK->Bool):=zE 74 (JN Oo) aBy
theorem aBz{w:World} (hsz:Tryz.prog.globals.size<=w.heap.size) (hl:Laid gs w):RP Tryz.prog w RR:=by
 refine sZ (Bo (most:=1000) (n:=60) Wm hsz hl (fun w hz hw=>Om hz hw) Cg Cf (enters_of Tryz.func74 (by kernel_rfl) rfl) fun x hx=>?_) (Om hsz hl);unfold Oo at hx;rcases List.mem_cons.1 hx with rfl | hx
 ·exact Rz
 cases hx
end Go.Am
namespace Go.Am
open Go.RowKit Go.MapKept Go.Proofs.JQ
abbrev nu (n:Nat):V:= .int .u64 (.ofNat n)
abbrev ni (n:Nat):V:= .int .i64 (.ofNat n)
def tN (b:Bool):Nat:=if b then 7 else 4
def tT (b:Bool):Nat:=if b then 2 else 1
def tM (b:Bool):Nat:=if b then 7 else 5
def pv (b:Bool):List V:=[nu 47,nu 23,nu 2,nu 3,ni (tM b),ni (tN b),ni (tT b),ni 1,ni 1,ni 1,ni 2,ni 2]
def Sa (g:Nat->Nat->Nat->Nat) (args:List V) (h:Hp) (K:KV):Prop:=∃a b m:Nat,args=[nu a,nu b,nu m]/\a<18446744073709551616/\b<18446744073709551616/\0<m/\m<=4294967296/\K (nu (g a b m)) h
def Oq (args:List V) (h:Hp) (K:KV):Prop:=∃a m:Nat,args=[nu a,nu m]/\a<18446744073709551616/\0<m/\m<=4294967296/\
 K (if(vY (a%m+1) m (a%m) 0 (1%m) m).1=1 then .tuple [nu (vY (a%m+1) m (a%m) 0 (1%m) m).2,ni 0]else .tuple [nu 0,ni 5]) h
def Or (args:List V) (h:Hp) (K:KV):Prop:=∃b:Bool,args=[.agg (pv b)]/\K (.bool true) h
def Ch (args:List V) (h:Hp) (K:KV):Prop:=args=[nu 23]/\K (nu 6) h
def aFH (args:List V) (h:Hp) (K:KV):Prop:=False
noncomputable def gM (f:FuncId):Option (List V->Hp->KV->Prop):=
 if f=wW then some Ch else if f=nU then some Or else if f=HD then some aFH else
 if f=lH then some (Sa fun a b m=>a*b%m)else if f=mX then some (Sa fun a b m=>(a%m+b%m)%m)else if f=oW then some (Sa lC)else
 if f=CI then some (Sa fun a e m=>JA 64 (1%m) a e m)else if f=yR then some Oq else none
section
variable{B:Nat->Prop}{Sb:St}{c:Cx}{h:Hp}{Sz:St}
theorem DZ{a b:Nat} (h:a≠b):Nat.beq a b=false:=by
 cases e:Nat.beq a b with
 | false=>rfl
 | true=>exact absurd (Nat.eq_of_beq_eq_true e) h
theorem ZB{a b:Nat} (h:a<b):Nat.blt a b=true:=Nat.ble_eq_true_of_le h
theorem MY{a b m:Nat} (ha:a<18446744073709551616) (hb:b<18446744073709551616) (h0:0<m) (hm:m<=4294967296) (k:Nat->Nat->Nat->Bool):Gw [.int .u64 (.ofNat a),.int .u64 (.ofNat b),.int .u64 (.ofNat m)] k=k a b m:=by
 show(match Nat.blt a 18446744073709551616,Nat.blt b 18446744073709551616,Nat.ble m 4294967296,Nat.blt 0 m with | true,true,true,true=>k a b m | _,_,_,_=>false)=_;simp only [ZB ha,ZB hb,ZB h0,Nat.ble_eq_true_of_le hm]
theorem SO{g:Nat->Nat->Nat->Nat}{g':List Value->St->VK->Bool} (hg:∀{a b m:Nat} (Sz:St) (K:VK),a<18446744073709551616->b<18446744073709551616->0<m->m<=4294967296->g' [.int .u64 (.ofNat a),.int .u64 (.ofNat b),.int .u64 (.ofNat m)] Sz K=K (.int .u64 (.ofNat (g a b m))) Sz)
 {args:List V} {ws:List Value} {Kv:KV} {K:VK} (s:VS PP B Sb c h Sz) (ra:iT c Sz (cJ B c h) args ws) (k:KR PP B Sb c h Sz Kv K) (hv:Sa g args h Kv):g' ws Sz K=true:=by
 obtain⟨a,b,m,rfl,h1,h2,h3,h4,hv⟩:=hv;obtain⟨w1,ws,rfl,r1,ra⟩:=ra.cons_inv;obtain⟨w2,ws,rfl,r2,ra⟩:=ra.cons_inv;obtain⟨w3,ws,rfl,r3,ra⟩:=ra.cons_inv;rw [ra.uM];cases r1;cases r2;cases r3;rw [hg Sz K h1 h2 h3 h4];exact k.here s .int hv
theorem Sd{args:List V}{ws:List Value}{Kv:KV}{K:VK} (s:VS PP B Sb c h Sz) (ra:iT c Sz (cJ B c h) args ws) (k:KR PP B Sb c h Sz Kv K) (hv:Oq args h Kv):Gx ws Sz K=true:=by
 obtain⟨a,m,rfl,h1,h3,h4,hv⟩:=hv;obtain⟨w1,ws,rfl,r1,ra⟩:=ra.cons_inv;obtain⟨w2,ws,rfl,r2,ra⟩:=ra.cons_inv;rw [ra.uM];cases r1;cases r2
 show(match Nat.blt a 18446744073709551616,Nat.ble m 4294967296,Nat.blt 0 m with
  | true,true,true=>bA (Nat.mod a m) fun s=>invK (Nat.succ s) m s 0 (Nat.mod 1 m) m fun r x=>match Nat.beq r 1 with
   | true=>K (.tuple ⟨[.int .u64 (.ofNat x),.int .i64 (.ofNat 0)]⟩) Sz
   | false=>K (.tuple ⟨[.int .u64 (.ofNat 0),.int .i64 (.ofNat 5)]⟩) Sz
  | _,_,_=>false)=true
 simp only [ZB h1,ZB h3,Nat.ble_eq_true_of_le h4];rw [aT,Ot];have t2:∀x y:Nat,iT c Sz (cJ B c h) [nu x,ni y] [.int .u64 (.ofNat x),.int .i64 (.ofNat y)]:=fun x y=> .cons .int (.cons .int .nil);by_cases e:(vY (a%m+1) m (a%m) 0 (1%m) m).1=1
 ·rw [if_pos e]at hv
  show(match Nat.beq (vY (a%m+1) m (a%m) 0 (1%m) m).1 1 with | true=>_ | false=>_)=true;rw [e];exact k.here s (.tuple (t2 _ _).len (t2 _ _).rd) hv
 ·rw [if_neg e]at hv
  show(match Nat.beq (vY (a%m+1) m (a%m) 0 (1%m) m).1 1 with | true=>_ | false=>_)=true;rw [DZ e];exact k.here s (.tuple (t2 _ _).len (t2 _ _).rd) hv
theorem Se{args:List V}{ws:List Value}{Kv:KV}{K:VK} (s:VS PP B Sb c h Sz) (ra:iT c Sz (cJ B c h) args ws) (k:KR PP B Sb c h Sz Kv K) (hv:Or args h Kv):JN aBx ws Sz K=true:=by
 obtain⟨b,rfl,hv⟩:=hv;obtain⟨w1,ws,rfl,r1,ra⟩:=ra.cons_inv;rw [ra.uM];cases r1 with
 | @agg _ cs hl hr=>
  have hr:iT c Sz (cJ B c h) (pv b) cs:=⟨hl,hr⟩;obtain⟨w1,ws,rfl,r1,hr⟩:=hr.cons_inv;obtain⟨w2,ws,rfl,r2,hr⟩:=hr.cons_inv;obtain⟨w3,ws,rfl,r3,hr⟩:=hr.cons_inv;obtain⟨w4,ws,rfl,r4,hr⟩:=hr.cons_inv;obtain⟨w5,ws,rfl,r5,hr⟩:=hr.cons_inv;obtain⟨w6,ws,rfl,r6,hr⟩:=hr.cons_inv;obtain⟨w7,ws,rfl,r7,hr⟩:=hr.cons_inv;obtain⟨w8,ws,rfl,r8,hr⟩:=hr.cons_inv;obtain⟨w9,ws,rfl,r9,hr⟩:=hr.cons_inv;obtain⟨w10,ws,rfl,r10,hr⟩:=hr.cons_inv;obtain⟨w11,ws,rfl,r11,hr⟩:=hr.cons_inv;obtain⟨w12,ws,rfl,r12,hr⟩:=hr.cons_inv;rw [hr.uM];cases r1;cases r2;cases r3;cases r4;cases r5;cases r6;cases r7;cases r8;cases r9;cases r10;cases r11;cases r12;have hk:=k.here s .bool hv;cases b with
  | false=>exact hk
  | true=>exact hk
theorem La{args:List V}{ws:List Value}{Kv:KV}{K:VK} (s:VS PP B Sb c h Sz) (ra:iT c Sz (cJ B c h) args ws) (k:KR PP B Sb c h Sz Kv K) (hv:Ch args h Kv):JN Oo ws Sz K=true:=by
 obtain⟨rfl,hv⟩:=hv;obtain⟨w1,ws,rfl,r1,ra⟩:=ra.cons_inv;rw [ra.uM];cases r1;exact k.here s .int hv
theorem aD8:aCX PP B Sb gM RR:=by
 have h1:∀f,(gM f=none/\RR f=none)\/(gM f=some Ch/\RR f=some (JN Oo))\/(gM f=some Or/\RR f=some (JN aBx))\/(gM f=some aFH/\RR f=some (JN Kz))\/
  (gM f=some (Sa fun a b m=>a*b%m)/\RR f=some (ov3 fun a b m=>a*b%m))\/(gM f=some (Sa fun a b m=>(a%m+b%m)%m)/\RR f=some (ov3 fun a b m=>(a%m+b%m)%m))\/(gM f=some (Sa lC)/\RR f=some (ov3 lC))\/
  (gM f=some (Sa fun a e m=>JA 64 (1%m) a e m)/\RR f=some Ou)\/(gM f=some Oq/\RR f=some Gx):=by
  intro f;by_cases e1:f=wW
  ·subst e1;exact .inr (.inl ⟨rfl,rfl⟩)
  by_cases e2:f=nU
  ·subst e2;exact .inr (.inr (.inl ⟨rfl,rfl⟩))
  by_cases e3:f=HD
  ·subst e3;exact .inr (.inr (.inr (.inl ⟨rfl,rfl⟩)))
  by_cases e4:f=lH
  ·subst e4;exact .inr (.inr (.inr (.inr (.inl ⟨rfl,rfl⟩))))
  by_cases e5:f=mX
  ·subst e5;exact .inr (.inr (.inr (.inr (.inr (.inl ⟨rfl,rfl⟩)))))
  by_cases e6:f=oW
  ·subst e6;exact .inr (.inr (.inr (.inr (.inr (.inr (.inl ⟨rfl,rfl⟩))))))
  by_cases e7:f=CI
  ·subst e7;exact .inr (.inr (.inr (.inr (.inr (.inr (.inr (.inl ⟨rfl,rfl⟩)))))))
  by_cases e8:f=yR
  ·subst e8;exact .inr (.inr (.inr (.inr (.inr (.inr (.inr (.inr ⟨rfl,rfl⟩)))))))
  refine .inl ⟨by unfold gM;rw [if_neg e1,if_neg e2,if_neg e3,if_neg e4,if_neg e5,if_neg e6,if_neg e7,if_neg e8],?_⟩;unfold RR aBy Wq Wn Wo zE;rw [show Nat.beq f wW=false from DZ e1,show Nat.beq f nU=false from DZ e2,show Nat.beq f HD=false from DZ e3,show Nat.beq f lH=false from DZ e4,show Nat.beq f mX=false from DZ e5,show Nat.beq f oW=false from DZ e6,show Nat.beq f CI=false from DZ e7,show Nat.beq f yR=false from DZ e8];rfl
 refine⟨fun f hf=>?_,fun f g hg=>?_⟩
 ·rcases h1 f with ⟨_,q⟩ | ⟨q,_⟩ | ⟨q,_⟩ | ⟨q,_⟩ | ⟨q,_⟩ | ⟨q,_⟩ | ⟨q,_⟩ | ⟨q,_⟩ | ⟨q,_⟩
  ·exact q
  all_goals rw [q]at hf;cases hf
 ·rcases h1 f with ⟨q,_⟩ | ⟨q,q2⟩ | ⟨q,q2⟩ | ⟨q,q2⟩ | ⟨q,q2⟩ | ⟨q,q2⟩ | ⟨q,q2⟩ | ⟨q,q2⟩ | ⟨q,q2⟩
  all_goals rw [q]at hg
  ·cases hg
  all_goals injection hg with hg;subst hg;refine⟨_,q2,fun s ra k hv=>?_⟩
  ·exact La s ra k hv
  ·exact Se s ra k hv
  ·exact hv.elim
  ·exact SO (fun Sz K h1 h2 h3 h4=>by unfold ov3;rw [MY h1 h2 h3 h4,aT]) s ra k hv
  ·exact SO (fun Sz K h1 h2 h3 h4=>by unfold ov3;rw [MY h1 h2 h3 h4,aT]) s ra k hv
  ·exact SO (fun Sz K h1 h2 h3 h4=>by unfold ov3;rw [MY h1 h2 h3 h4,aT]) s ra k hv
  ·exact SO (fun Sz K h1 h2 h3 h4=>by unfold Ou;rw [MY h1 h2 h3 h4];exact Ov 64 _ _ _) s ra k hv
  ·exact Sd s ra k hv
end
end Go.Am
namespace Go.Am
abbrev nd (n:Nat):Dt:= .int .u64 (.ofNat n)
def tV (l:List Nat):List Dt:=l.map nd
def gA (l:List Nat):List V:=l.map nu
theorem EA (l:List Nat):(tV l).length=l.length:=List.length_map _
theorem cY (l:List Nat):(gA l).length=l.length:=List.length_map _
theorem rG{l:List Nat}{i n:Nat} (h:l[i]? =some n):(gA l)[i]? =some (nu n):=by unfold gA;rw [List.getElem?_map,h];rfl
theorem UW{l:List Nat}{i n:Nat} (h:l[i]? =some n):(tV l)[i]? =some (nd n):=by unfold tV;rw [List.getElem?_map,h];rfl
theorem SP (l m:List Nat):gA (l++m)=gA l++gA m:=List.map_append
theorem SQ (l:List Nat):(gA l).all jK=true:=by rw [List.all_eq_true];intro v hv;obtain⟨n,_,rfl⟩:=List.mem_map.1 hv;rfl
inductive NV (Sz:Hp):V->List Nat->Prop
 | nil:NV Sz .nil []
 | list {O:Tag} {l:List Nat}:NV Sz (.list O (tV l) l.length) l
 | acc {i:Nat} {t:TypeId} {l:List Nat} (h:Sz i=some (.dF (gA l) t l.length)):NV Sz (.acc i l.length) l
 | own {i o c:Nat} {t:TypeId} {vs:List V} {l:List Nat} (h:Sz i=some (.row vs t)) (hv:∀j n,l[j]? =some n->vs[o+j]? =some (nu n)) (hl:o+l.length<=vs.length):NV Sz (.own i o l.length c) l
 | tW {i m o c:Nat} {t:TypeId} {vs:List V} {l:List Nat} (h:Sz i=some (.dF vs t m)) (hv:∀j n,l[j]? =some n->vs[o+j]? =some (nu n)) (hl:o+l.length<=vs.length):NV Sz (.tW i m o l.length c) l
 | emp {i n:Nat}:NV Sz (.emp i n) []
section
variable{Sz S':Hp}{v:V}{l:List Nat}
theorem NV.up (h:NV Sz v l) (hle:bE Sz S'):NV S' v l:=by
 cases h with
 | nil=>exact .nil
 | list=>exact .list
 | acc h=>exact .acc (hle _ _ h)
 | own h hv hl=>exact .own (hle _ _ h) hv hl
 | tW h hv hl=>exact .tW (hle _ _ h) hv hl
 | emp=>exact .emp
theorem NV.len (h:NV Sz v l){K:V->Prop}:aV v K=K (ni l.length):=by cases h<;>rfl
theorem NV.at (h:NV Sz v l){i n:Nat} (hi:l[i]? =some n):∃p,(∀(j:IntKind) (K:V->Prop),bY 1 v (.int j (.ofNat i)) K=K p)/\(∀S',bE Sz S'->∀K:KV,aS p S' K=K (nu n) S'):=by
 have hlt:i<l.length:=(List.getElem?_eq_some_iff.1 hi).1;cases h with
 | nil=>cases hi
 | @list O=>
  refine⟨.nP O (tV l) (i*1),fun j K=>sN hlt,fun S' _ K=>?_⟩;rw [Nat.mul_one,uN,bR (UW hi)];rfl
 | @acc b t _ h=>
  refine⟨.lX b l.length (i*1),fun j K=>wX hlt,fun S' hle K=>?_⟩;rw [Nat.mul_one];unfold aS;simp only [hle _ _ h,bR (rG hi),true_and]
 | @own b o c t vs _ h hv hl=>
  refine⟨.ptr b (o+i*1),fun j K=>by simp [bY,hlt],fun S' hle K=>?_⟩;rw [Nat.mul_one];unfold aS;simp only [hle _ _ h,bR (hv i n hi)]
 | @tW b m o c t vs _ h hv hl=>
  refine⟨.lX b m (o+i*1),fun j K=>by simp [bY,hlt],fun S' hle K=>?_⟩;rw [Nat.mul_one];unfold aS;simp only [hle _ _ h,bR (hv i n hi),true_and]
 | emp=>cases hi
theorem aD9 (O:Tag) (l:List Nat):∀o,Tl O o (tV l)=gA l:=by
 induction l with
 | nil=>intro o;rfl
 | cons a l ih=>intro o;show _::Tl O (o+1) (tV l)=_;rw [ih];rfl
theorem NV.src (h:NV Sz v l){k:Nat->List V->Prop} (hk:k l.length (gA l)):UX 1 v Sz k:=by
 cases h with
 | nil=>exact hk
 | @list O=>refine⟨by rw [EA];omega,?_⟩;rw [List.take_of_length_le (by rw [EA];omega),aD9];exact hk
 | acc h=>unfold UX;simp only [h];exact⟨trivial,by rw [cY];omega,hk⟩
 | @own b o c t vs _ h hv hl=>
  unfold UX;simp only [h];rw [cF (by omega)]
  have:(vs.drop o).take (l.length*1)=gA l:=by
   apply List.ext_getElem?;intro j;rw [List.getElem?_take,List.getElem?_drop];by_cases hj:j<l.length
   ·rw [if_pos (by omega),hv j l[j] (List.getElem?_eq_getElem hj),rG (List.getElem?_eq_getElem hj)]
   ·rw [if_neg (by omega)];symm;exact List.getElem?_eq_none (by rw [cY];omega)
  rw [this];exact hk
 | @tW b m o c t vs _ h hv hl=>
  unfold UX;simp only [h];rw [cF (by omega)]
  have:(vs.drop o).take (l.length*1)=gA l:=by
   apply List.ext_getElem?;intro j;rw [List.getElem?_take,List.getElem?_drop];by_cases hj:j<l.length
   ·rw [if_pos (by omega),hv j l[j] (List.getElem?_eq_getElem hj),rG (List.getElem?_eq_getElem hj)]
   ·rw [if_neg (by omega)];symm;exact List.getElem?_eq_none (by rw [cY];omega)
  rw [this];exact⟨trivial,hk⟩
 | emp=>exact hk
theorem Ow{S0 Sz:Hp}{vs:List V}{o:Nat} (hv:∀j n,l[j]? =some n->vs[o+j]? =some (nu n)) (j:Nat) (v:V) (d:Dt) (h1:vs[o+j]? =some v) (h2:(tV l)[j]? =some d):QV S0 Sz v d:=by
 unfold tV at h2;rw [List.getElem?_map]at h2;cases hq:l[j]? with
 | none=>rw [hq]at h2;cases h2
 | some n=>
  rw [hq]at h2;injection h2 with h2;subst h2;rw [hv j n hq]at h1;injection h1 with h1;subst h1;exact .int
inductive MN (S0 Sz:Hp):V->List Nat->Prop
 | nil:MN S0 Sz .nil []
 | acc {i:Nat} {l:List Nat} (h0:S0 i=none) (h:Sz i=some (.dF (gA l) 22 l.length)):MN S0 Sz (.acc i l.length) l
 | own {i:Nat} {l:List Nat} (h0:S0 i=none) (h:Sz i=some (.row (gA l) 22)):MN S0 Sz (.own i 0 l.length l.length) l
theorem MN.nv{S0:Hp} (h:MN S0 Sz v l):NV Sz v l:=by
 cases h with
 | nil=>exact .nil
 | acc _ h=>exact .acc h
 | own _ h=>exact .own h (fun j n hj=>by rw [Nat.zero_add];exact rG hj) (by rw [cY];omega)
theorem MN.Ox{S0:Hp} (h:MN S0 Sz v l):QV S0 Sz v (.list (tV l) l.length):=by
 cases h with
 | nil=>exact .nil
 | acc h0 h=>exact .acc h h0 (by rw [cY,EA]) fun j v d a b=>Ow (o:=0) (fun j n hj=>by rw [Nat.zero_add];exact rG hj) j v d (by rw [Nat.zero_add];exact a) b
 | own h0 h=>exact .own h h0 (Nat.le_refl _) (by rw [cY,EA];omega) fun j v d a b=>Ow (fun j n hj=>by rw [Nat.zero_add];exact rG hj) j v d a b
theorem MN.up{S0:Hp} (h:MN S0 Sz v l) (hle:bE Sz S'):MN S0 S' v l:=by
 cases h with
 | nil=>exact .nil
 | acc h0 h=>exact .acc h0 (hle _ _ h)
 | own h0 h=>exact .own h0 (hle _ _ h)
theorem MN.app{S0:Hp} (h:MN S0 Sz v l) (hs:bE S0 Sz) (hl:l.length<=1000000){n:Nat}{K:KV}
 (hk:∀w S',bE S0 S'->(∀j o,Sz j=some o->(∀vs m,o≠ .dF vs 22 m)->S' j=some o)->MN S0 S' w (l++[n])->K w S'):aP 22 1 [(.int .u64 (.ofNat 0))] [(0,1,nu n)] Sz fun v2 Sz=>kI 22 1 8 v v2 Sz K:=by
 refine⟨rfl,by simp,fun j hj=>?_⟩;have hj0:S0 j=none:=hs.none hj;have hs1:bE S0 (upd Sz j (.row [nu n] 22)):=hs.trans (.aH hj);show kI 22 1 8 v (.own j 0 1 1) (upd Sz j (.row (splice 0 [nu n] [nu 0]) 22)) K;have e:splice 0 [nu n] [nu 0]=[nu n]:=rfl;rw [e];refine uO (m:=1) upd_same rfl ?_;refine⟨rfl,?_⟩;cases h with
 | nil=>
  refine⟨by decide,fun i hi=>hk _ _ (hs1.trans (.aH hi)) (fun q o e _=>(bE.aH hi) _ _ ((bE.aH hj) _ _ e)) ?_⟩;exact .acc (l:=[n]) (hs1.none hi) upd_same
 | @acc i _ h0 h=>
  have hne:j≠i:=fun e=>by rw [e,h]at hj;cases hj
  have h':upd Sz j (.row [nu n] 22) i=some (.dF (gA l) 22 l.length):=by rw [aB (Ne.symm hne)];exact h
  simp only [h'];refine⟨trivial,trivial,by rw [cY];omega,by omega,?_⟩;have el:l.length+(0+1)=(l++[n]).length:=by simp
  rw [el];refine hk _ _ (fun q o e=>?_) (fun q o e hno=>?_) (.acc h0 (by rw [SP];exact upd_same))
  ·rw [aB (fun c=>by rw [c,h0]at e;cases e)];exact hs1 q o e
  ·rw [aB (fun c=>by rw [c,h]at e;injection e with e;exact hno _ _ e.symm)];exact(bE.aH hj) _ _ e
 | @own i _ h0 h=>
  have hne:j≠i:=fun e=>by rw [e,h]at hj;cases hj
  have h':upd Sz j (.row [nu n] 22) i=some (.row (gA l) 22):=by rw [aB (Ne.symm hne)];exact h
  simp only [h'];refine⟨by omega,by rw [cY];omega,fun c=>absurd c (by omega),fun _ q hq=>?_⟩;have e2:(List.take (l.length*1) (List.drop 0 (gA l)))++[nu n]=gA (l++[n]):=by rw [List.drop_zero,List.take_of_length_le (by rw [cY];omega),SP];rfl
  rw [e2];have el:l.length+(0+1)=(l++[n]).length:=by simp
  rw [el];exact hk _ _ (hs1.trans (.aH hq)) (fun q o e _=>(bE.aH hq) _ _ ((bE.aH hj) _ _ e)) (.acc (hs1.none hq) upd_same)
end
set_option maxRecDepth 100000
noncomputable def pQ (x:VE) (m:Nat) (t0 t1 t2 t7 t10 t11:V) (Sz:Hp) (K:KV):Prop:=eT PP bH lT x [.r,.r,.l,.r,.d] m [] [t0,t1,t2,t7,t10,t11] Sz K
noncomputable def RC (x:VE) (a0 a1 a2:V) (Sz:Hp) (K:KV):Prop:=
 aV a0 fun v0=>
 pQ x x.most a0 a1 a2 (.int .u64 (.ofNat 0)) v0 (.int .i64 (.ofNat 0)) Sz K
theorem Ho (x:VE) (a0 a1 a2:V) (Sz:Hp) (K:KV):lG PP bH lT x [a0,a1,a2] Sz K=RC x a0 a1 a2 Sz K:=by kernel_rfl
noncomputable def sP (x:VE) (m0:Nat) (t0 t1 t2 t7 t10 t11:V) (Sz:Hp) (K:KV):Prop:=
 cT Sz fun Sz=>
 aG PP .lss 3 t11 t10 fun v0=>
 iG v0 (aV t0 fun v1=>
 aG PP .sub 3 v1 (.int .i64 (.ofNat 1)) fun v2=>
 aG PP .sub 3 v2 t11 fun v3=>
 bY 1 t0 v3 fun v4=>
 aS v4 Sz fun v5 Sz=>
 x.call lH [t7,t1,t2] Sz fun v6 Sz=>
 aS v4 Sz fun v7 _=>
 aL v7 v5 (x.call mX [v6,v5,t2] Sz fun v8 Sz=>
 aG PP .add 3 t11 (.int .i64 (.ofNat 1)) fun v9=>
 pQ x m0 t0 t1 t2 v8 t10 v9 Sz K)) (bC t7 Sz K)
theorem zV (x:VE) (m0:Nat) (t0 t1 t2 t7 t10 t11:V) (Sz:Hp) (K:KV):pQ x (m0+1) t0 t1 t2 t7 t10 t11 Sz K=sP x m0 t0 t1 t2 t7 t10 t11 Sz K:=by kernel_rfl
noncomputable def gV (x:VE) (m:Nat) (t1 t2 t7 t32 t33 t34:V) (Sz:Hp) (K:KV):Prop:=eT PP bH qU x [.r,.r,.r,.l,.r,.d] m [] [t1,t2,t7,t32,t33,t34] Sz K
noncomputable def gG (x:VE) (m:Nat) (m0:Nat) (t1 t2 t7 t8 t9 t32 t33 t34 t39 t40 t41:V) (Sz:Hp) (K:KV):Prop:=eT PP bH qU x [.r,.r,.r,.l,.r,.d,.d,.r,.r,.l,.d,.r,.r,.d] m [m0] [t1,t2,t7,t8,t9,t32,t33,t34,t39,t40,t41] Sz K
noncomputable def NM (x:VE) (a0 a1 a2:V) (Sz:Hp) (K:KV):Prop:=
 x.call zW [a2] Sz fun v0 Sz=>
 IP .not v0 fun v1=>
 aD x.most (aC false v1 (fun k=>k a0 Sz) Sz fun v2 Sz=>
 aD x.most (aC false v1 (fun k=>aV v2 fun v3=>
 k v3 Sz) Sz fun v4 Sz=>
 aD x.most (aC false v1 (fun k=>aG PP .eql 3 v4 (.int .i64 (.ofNat 0)) fun v5=>
 k v5 Sz) Sz fun v6 Sz=>
 aD x.most (dA v1 (.bool true) v6 fun v7=>
 aD x.most (aC false v7 (fun k=>k a1 Sz) Sz fun v8 Sz=>
 aD x.most (aC false v7 (fun k=>aV v8 fun v9=>
 k v9 Sz) Sz fun v10 Sz=>
 aD x.most (aC false v7 (fun k=>aG PP .eql 3 v10 (.int .i64 (.ofNat 0)) fun v11=>
 k v11 Sz) Sz fun v12 Sz=>
 aD x.most (dA v7 (.bool true) v12 fun v13=>
 iG v13 (bC .nil Sz K) (aV a0 fun v14=>
 aV a1 fun v15=>
 aG PP .add 3 v14 v15 fun v16=>
 aG PP .sub 3 v16 (.int .i64 (.ofNat 1)) fun v17=>
 Gy 22 8 [(.int .u64 (.ofNat 0))] v17 v17 Sz fun v18 Sz=>
 aV a0 fun v19=>
 gV x x.most a1 a2 v18 a0 v19 (.int .i64 (.ofNat 0)) Sz K)))))))))
theorem Cy (x:VE) (a0 a1 a2:V) (Sz:Hp) (K:KV):lG PP bH qU x [a0,a1,a2] Sz K=NM x a0 a1 a2 Sz K:=by kernel_rfl
noncomputable def qL (x:VE) (m0:Nat) (t1 t2 t7 t32 t33 t34:V) (Sz:Hp) (K:KV):Prop:=
 cT Sz fun Sz=>
 aG PP .lss 3 t34 t33 fun v0=>
 iG v0 (bY 1 t32 t34 fun v1=>
 aS v1 Sz fun v2 Sz=>
 aV t1 fun v3=>
 gG x x.most m0 t1 t2 t7 t34 v2 t32 t33 t34 t1 v3 (.int .i64 (.ofNat 0)) Sz K) (bC t7 Sz K)
theorem xG (x:VE) (m0:Nat) (t1 t2 t7 t32 t33 t34:V) (Sz:Hp) (K:KV):gV x (m0+1) t1 t2 t7 t32 t33 t34 Sz K=qL x m0 t1 t2 t7 t32 t33 t34 Sz K:=by kernel_rfl
noncomputable def jN (x:VE) (m1:Nat) (m0:Nat) (t1 t2 t7 t8 t9 t32 t33 t34 t39 t40 t41:V) (Sz:Hp) (K:KV):Prop:=
 cT Sz fun Sz=>
 aG PP .lss 3 t41 t40 fun v0=>
 iG v0 (bY 1 t39 t41 fun v1=>
 aS v1 Sz fun v2 Sz=>
 aG PP .add 3 t8 t41 fun v3=>
 aG PP .add 3 t8 t41 fun v4=>
 bY 1 t7 v4 fun v5=>
 aS v5 Sz fun v6 Sz=>
 x.call lH [t9,v2,t2] Sz fun v7 Sz=>
 aS v5 Sz fun v8 _=>
 aL v8 v6 (x.call mX [v6,v7,t2] Sz fun v9 Sz=>
 bY 1 t7 v3 fun v10=>
 rH 1 v10 v9 Sz fun Sz=>
 aG PP .add 3 t41 (.int .i64 (.ofNat 1)) fun v11=>
 gG x m1 m0 t1 t2 t7 t8 t9 t32 t33 t34 t39 t40 v11 Sz K)) (aG PP .add 3 t34 (.int .i64 (.ofNat 1)) fun v12=>
 gV x m0 t1 t2 t7 t32 t33 v12 Sz K)
theorem oS (x:VE) (m1:Nat) (m0:Nat) (t1 t2 t7 t8 t9 t32 t33 t34 t39 t40 t41:V) (Sz:Hp) (K:KV):gG x (m1+1) m0 t1 t2 t7 t8 t9 t32 t33 t34 t39 t40 t41 Sz K=jN x m1 m0 t1 t2 t7 t8 t9 t32 t33 t34 t39 t40 t41 Sz K:=by kernel_rfl
noncomputable def VM (x:VE) (a0:V) (Sz:Hp) (K:KV):Prop:=
 aG PP .gtr 22 a0 (.int .u64 (.ofNat 0)) fun v0=>
 aD x.most (aC true v0 (fun k=>k a0 Sz) Sz fun v1 Sz=>
 aD x.most (aC true v0 (fun k=>aG PP .leq 22 v1 (.int .u64 (.ofNat 2305843009213693952)) fun v2=>
 k v2 Sz) Sz fun v3 Sz=>
 aD x.most (dA v0 v3 (.bool false) fun v4=>
 bC v4 Sz K)))
theorem Lh (x:VE) (a0:V) (Sz:Hp) (K:KV):lG PP bH zW x [a0] Sz K=VM x a0 Sz K:=by kernel_rfl
noncomputable def VT (x:VE) (a0:V) (Sz:Hp) (K:KV):Prop:=
 gQ [(.int .u64 (.ofNat 0))] [(0,1,a0)] fun v0=>
 gQ [(.int .u64 (.ofNat 0)),(.slice none 0 0),(.int .i64 (.ofNat 0))] [(0,1,v0)] fun v1=>
 jO 83 v1 Sz fun v2 Sz=>
 bC v2 Sz K
theorem Lm (x:VE) (a0:V) (Sz:Hp) (K:KV):lG PP bH sR x [a0] Sz K=VT x a0 Sz K:=by kernel_rfl
noncomputable def fR (x:VE) (m:Nat) (t0 t2 t7 t22 t23:V) (Sz:Hp) (K:KV):Prop:=eT PP bH jH x [.r,.r,.r,.l,.r,.d] m [] [t0,t2,t7,t22,t23] Sz K
noncomputable def BF (x:VE) (a0 a1 a2:V) (Sz:Hp) (K:KV):Prop:=
 aG PP .eql 52 a0 .PS fun v0=>
 aD x.most (aC false v0 (fun k=>k a1 Sz) Sz fun v1 Sz=>
 aD x.most (aC false v0 (fun k=>aG PP .lss 3 v1 (.int .i64 (.ofNat 0)) fun v2=>
 k v2 Sz) Sz fun v3 Sz=>
 aD x.most (dA v0 (.bool true) v3 fun v4=>
 aD x.most (aC false v4 (fun k=>k a1 Sz) Sz fun v5 Sz=>
 aD x.most (aC false v4 (fun k=>aG PP .gtr 3 v5 (.int .i64 (.ofNat 1024)) fun v6=>
 k v6 Sz) Sz fun v7 Sz=>
 aD x.most (dA v4 (.bool true) v7 fun v8=>
 iG v8 (bC .nil Sz K) (Gy 22 8 [(.int .u64 (.ofNat 0))] a1 a1 Sz fun v9 Sz=>
 aV v9 fun v10=>
 fR x x.most a0 a2 v9 v10 (.int .i64 (.ofNat 0)) Sz K)))))))
theorem NS (x:VE) (a0 a1 a2:V) (Sz:Hp) (K:KV):lG PP bH jH x [a0,a1,a2] Sz K=BF x a0 a1 a2 Sz K:=by kernel_rfl
noncomputable def lE (x:VE) (m0:Nat) (t0 t2 t7 t22 t23:V) (Sz:Hp) (K:KV):Prop:=
 cT Sz fun Sz=>
 aG PP .lss 3 t23 t22 fun v0=>
 iG v0 (x.call bN [t0,t2] Sz fun v1 Sz=>
 bY 1 t7 t23 fun v2=>
 rH 1 v2 v1 Sz fun Sz=>
 aG PP .add 3 t23 (.int .i64 (.ofNat 1)) fun v3=>
 fR x m0 t0 t2 t7 t22 v3 Sz K) (bC t7 Sz K)
theorem rB (x:VE) (m0:Nat) (t0 t2 t7 t22 t23:V) (Sz:Hp) (K:KV):fR x (m0+1) t0 t2 t7 t22 t23 Sz K=lE x m0 t0 t2 t7 t22 t23 Sz K:=by kernel_rfl
noncomputable def ZQ (x:VE) (a0 a1:V) (Sz:Hp) (K:KV):Prop:=
 gQ [(.int .u64 (.ofNat 0))] [(0,1,a1)] fun v0=>
 x.call bP [a0] Sz fun v1 Sz=>
 gQ [(.int .u64 (.ofNat 0)),(.slice none 0 0),(.int .i64 (.ofNat 0))] [(0,1,v0),(1,1,v1)] fun v2=>
 jO 83 v2 Sz fun v3 Sz=>
 bC v3 Sz K
theorem Sr (x:VE) (a0 a1:V) (Sz:Hp) (K:KV):lG PP bH CU x [a0,a1] Sz K=ZQ x a0 a1 Sz K:=by kernel_rfl
noncomputable def jY (x:VE) (m:Nat) (t0 t1:V) (Sz:Hp) (K:KV):Prop:=eT PP bH bN x [.r,.r,.r,.r,.d] m [] [t0,t1] Sz K
noncomputable def qW (x:VE) (a0 a1:V) (Sz:Hp) (K:KV):Prop:=
 aG PP .eql 52 a0 .PS fun v0=>
 iG v0 (bC (.int .u64 (.ofNat 0)) Sz K) (FQ PP a0 fun v1=>
 bI 2 v1 fun v2=>
 aS v2 Sz fun v3 Sz=>
 aG PP .add 3 v3 (.int .i64 (.ofNat 1)) fun v4=>
 FQ PP a0 fun v5=>
 bI 2 v5 fun v6=>
 rH 1 v6 v4 Sz fun Sz=>
 FQ PP a0 fun v7=>
 bI 1 v7 fun v8=>
 aS v8 Sz fun v9 Sz=>
 aV v9 fun v10=>
 aG PP .gtr 3 v10 (.int .i64 (.ofNat 0)) fun v11=>
 iG v11 (FQ PP a0 fun v12=>
 bI 1 v12 fun v13=>
 aS v13 Sz fun v14 Sz=>
 bY 1 v14 (.int .i64 (.ofNat 0)) fun v15=>
 aS v15 Sz fun v16 Sz=>
 FQ PP a0 fun v17=>
 bI 1 v17 fun v18=>
 aS v18 Sz fun v19 Sz=>
 HM 22 1 v19 (some (.int .i64 (.ofNat 1))) none none Sz fun v20=>
 FQ PP a0 fun v21=>
 bI 1 v21 fun v22=>
 rH 1 v22 v20 Sz fun Sz=>
 x.call uZ [v16,a1] Sz fun v23 Sz=>
 bC v23 Sz K) (jY x x.most a0 a1 Sz K))
theorem wA (x:VE) (a0 a1:V) (Sz:Hp) (K:KV):lG PP bH bN x [a0,a1] Sz K=qW x a0 a1 Sz K:=by kernel_rfl
noncomputable def nH (x:VE) (m0:Nat) (t0 t1:V) (Sz:Hp) (K:KV):Prop:=
 cT Sz fun Sz=>
 FQ PP t0 fun v0=>
 bI 0 v0 fun v1=>
 x.call pT [v1] Sz fun v2 Sz=>
 IP .xor v2 fun v3=>
 x.call wW [t1] Sz fun v4 Sz=>
 aG PP .geq 22 v3 v4 fun v5=>
 iG v5 (x.call uZ [v2,t1] Sz fun v6 Sz=>
 bC v6 Sz K) (jY x m0 t0 t1 Sz K)
theorem tE (x:VE) (m0:Nat) (t0 t1:V) (Sz:Hp) (K:KV):jY x (m0+1) t0 t1 Sz K=nH x m0 t0 t1 Sz K:=by kernel_rfl
noncomputable def BE (x:VE) (a0:V) (Sz:Hp) (K:KV):Prop:=
 FQ PP a0 fun v0=>
 bI 0 v0 fun v1=>
 aS v1 Sz fun v2 Sz=>
 aG PP .add 22 v2 (.int .u64 (.ofNat 11400714819323198485)) fun v3=>
 FQ PP a0 fun v4=>
 bI 0 v4 fun v5=>
 rH 1 v5 v3 Sz fun Sz=>
 FQ PP a0 fun v6=>
 bI 0 v6 fun v7=>
 aS v7 Sz fun v8 Sz=>
 aG PP .shr 22 v8 (.int .u64 (.ofNat 30)) fun v9=>
 aG PP .xor 22 v8 v9 fun v10=>
 aG PP .mul 22 v10 (.int .u64 (.ofNat 13787848793156543929)) fun v11=>
 aG PP .shr 22 v11 (.int .u64 (.ofNat 27)) fun v12=>
 aG PP .xor 22 v11 v12 fun v13=>
 aG PP .mul 22 v13 (.int .u64 (.ofNat 10723151780598845931)) fun v14=>
 aG PP .shr 22 v14 (.int .u64 (.ofNat 31)) fun v15=>
 aG PP .xor 22 v14 v15 fun v16=>
 bC v16 Sz K
theorem NP (x:VE) (a0:V) (Sz:Hp) (K:KV):lG PP bH pT x [a0] Sz K=BE x a0 Sz K:=by kernel_rfl
noncomputable def NQ (x:VE) (a0 a1:V) (Sz:Hp) (K:KV):Prop:=
 aG PP .eql 22 a1 (.int .u64 (.ofNat 0)) fun v0=>
 iG v0 (bC a0 Sz K) (aG PP .rem 22 a0 a1 fun v1=>
 bC v1 Sz K)
theorem De (x:VE) (a0 a1:V) (Sz:Hp) (K:KV):lG PP bH uZ x [a0,a1] Sz K=NQ x a0 a1 Sz K:=by kernel_rfl
noncomputable def pO (x:VE) (a0:V) (Sz:Hp) (K:KV):Prop:=
 aG PP .eql 28 a0 .nil fun v0=>
 iG v0 (bC .nil Sz K) (aP 3 0 [(.int .i64 (.ofNat 0))] [] Sz fun v1 Sz=>
 kI 3 1 8 v1 a0 Sz fun v2 Sz=>
 bC v2 Sz K)
theorem yJ (x:VE) (a0:V) (Sz:Hp) (K:KV):lG PP bH gE x [a0] Sz K=pO x a0 Sz K:=by kernel_rfl
noncomputable def kY (x:VE) (a0:V) (Sz:Hp) (K:KV):Prop:=
 aG PP .eql 32 a0 .nil fun v0=>
 iG v0 (bC .nil Sz K) (aP 22 0 [(.int .u64 (.ofNat 0))] [] Sz fun v1 Sz=>
 kI 22 1 8 v1 a0 Sz fun v2 Sz=>
 bC v2 Sz K)
theorem tP (x:VE) (a0:V) (Sz:Hp) (K:KV):lG PP bH bP x [a0] Sz K=kY x a0 Sz K:=by kernel_rfl
noncomputable def dH (x:VE) (m:Nat) (t0 t3:V) (Sz:Hp) (K:KV):Prop:=eT PP bH cQ x [.r,.r,.l,.r,.d] m [] [t0,t3] Sz K
noncomputable def mL (x:VE) (m:Nat) (m0:Nat) (t0 t3 t4 t5:V) (Sz:Hp) (K:KV):Prop:=eT PP bH cQ x [.r,.r,.l,.r,.d,.d,.r,.l,.d,.r,.l,.r,.l,.r,.d] m [m0] [t0,t3,t4,t5] Sz K
noncomputable def nV (x:VE) (a0:V) (Sz:Hp) (K:KV):Prop:=
 aV a0 fun v0=>
 aG PP .lss 3 v0 (.int .i64 (.ofNat 2)) fun v1=>
 iG v1 (bC a0 Sz K) (dH x x.most a0 (.int .i64 (.ofNat 1)) Sz K)
theorem wZ (x:VE) (a0:V) (Sz:Hp) (K:KV):lG PP bH cQ x [a0] Sz K=nV x a0 Sz K:=by kernel_rfl
noncomputable def fL (x:VE) (m0:Nat) (t0 t3:V) (Sz:Hp) (K:KV):Prop:=
 cT Sz fun Sz=>
 aV t0 fun v0=>
 aG PP .lss 3 t3 v0 fun v1=>
 iG v1 (bY 1 t0 t3 fun v2=>
 aS v2 Sz fun v3 Sz=>
 aG PP .sub 3 t3 (.int .i64 (.ofNat 1)) fun v4=>
 bY 1 t0 v4 fun v5=>
 aS v5 Sz fun v6 Sz=>
 aG PP .eql 3 v3 v6 fun v7=>
 iG v7 (HM 3 1 t0 (some t3) none none Sz fun v8=>
 mL x x.most m0 t0 t3 v8 (.int .i64 (.ofNat 1)) Sz K) (aG PP .add 3 t3 (.int .i64 (.ofNat 1)) fun v9=>
 dH x m0 t0 v9 Sz K)) (bC t0 Sz K)
theorem jP (x:VE) (m0:Nat) (t0 t3:V) (Sz:Hp) (K:KV):dH x (m0+1) t0 t3 Sz K=fL x m0 t0 t3 Sz K:=by kernel_rfl
noncomputable def kQ (x:VE) (a0 a1:V) (Sz:Hp) (K:KV):Prop:=
 x.call eY [a0,a1] Sz fun v0 Sz=>
 aG PP .geq 3 v0 (.int .i64 (.ofNat 0)) fun v1=>
 bC v1 Sz K
theorem sO (x:VE) (a0 a1:V) (Sz:Hp) (K:KV):lG PP bH dU x [a0,a1] Sz K=kQ x a0 a1 Sz K:=by kernel_rfl
noncomputable def dC (x:VE) (m:Nat) (t0 t1 t7 t8:V) (Sz:Hp) (K:KV):Prop:=eT PP bH eY x [.r,.l,.r,.d] m [] [t0,t1,t7,t8] Sz K
noncomputable def mG (x:VE) (a0 a1:V) (Sz:Hp) (K:KV):Prop:=
 aV a0 fun v0=>
 dC x x.most a0 a1 v0 (.int .i64 (.ofNat 0)) Sz K
theorem vH (x:VE) (a0 a1:V) (Sz:Hp) (K:KV):lG PP bH eY x [a0,a1] Sz K=mG x a0 a1 Sz K:=by kernel_rfl
noncomputable def fH (x:VE) (m0:Nat) (t0 t1 t7 t8:V) (Sz:Hp) (K:KV):Prop:=
 cT Sz fun Sz=>
 aG PP .lss 3 t8 t7 fun v0=>
 iG v0 (bY 1 t0 t8 fun v1=>
 aS v1 Sz fun v2 Sz=>
 rL x t1 [v2] Sz fun v3 Sz=>
 iG v3 (bC t8 Sz K) (aG PP .add 3 t8 (.int .i64 (.ofNat 1)) fun v4=>
 dC x m0 t0 t1 t7 v4 Sz K)) (bC (.int .i64 (.negSucc 0)) Sz K)
theorem jF (x:VE) (m0:Nat) (t0 t1 t7 t8:V) (Sz:Hp) (K:KV):dC x (m0+1) t0 t1 t7 t8 Sz K=fH x m0 t0 t1 t7 t8 Sz K:=by kernel_rfl
noncomputable def fJ (x:VE) (a0 a1:V) (Sz:Hp) (K:KV):Prop:=
 x.call cC [a0,a1] Sz fun v0 Sz=>
 aG PP .geq 3 v0 (.int .i64 (.ofNat 0)) fun v1=>
 bC v1 Sz K
theorem lD (x:VE) (a0 a1:V) (Sz:Hp) (K:KV):lG PP bH bX x [a0,a1] Sz K=fJ x a0 a1 Sz K:=by kernel_rfl
noncomputable def cP (x:VE) (m:Nat) (t0 t1 t7 t8:V) (Sz:Hp) (K:KV):Prop:=eT PP bH cC x [.r,.l,.r,.d] m [] [t0,t1,t7,t8] Sz K
noncomputable def fY (x:VE) (a0 a1:V) (Sz:Hp) (K:KV):Prop:=
 aV a0 fun v0=>
 cP x x.most a0 a1 v0 (.int .i64 (.ofNat 0)) Sz K
theorem mK (x:VE) (a0 a1:V) (Sz:Hp) (K:KV):lG PP bH cC x [a0,a1] Sz K=fY x a0 a1 Sz K:=by kernel_rfl
noncomputable def cM (x:VE) (m0:Nat) (t0 t1 t7 t8:V) (Sz:Hp) (K:KV):Prop:=
 cT Sz fun Sz=>
 aG PP .lss 3 t8 t7 fun v0=>
 iG v0 (bY 1 t0 t8 fun v1=>
 aS v1 Sz fun v2 Sz=>
 rL x t1 [v2] Sz fun v3 Sz=>
 iG v3 (bC t8 Sz K) (aG PP .add 3 t8 (.int .i64 (.ofNat 1)) fun v4=>
 cP x m0 t0 t1 t7 v4 Sz K)) (bC (.int .i64 (.negSucc 0)) Sz K)
theorem eX (x:VE) (m0:Nat) (t0 t1 t7 t8:V) (Sz:Hp) (K:KV):cP x (m0+1) t0 t1 t7 t8 Sz K=cM x m0 t0 t1 t7 t8 Sz K:=by kernel_rfl
noncomputable def iV (x:VE) (a0 a1:V) (Sz:Hp) (K:KV):Prop:=
 x.call dK [a0,a1] Sz fun v0 Sz=>
 aG PP .geq 3 v0 (.int .i64 (.ofNat 0)) fun v1=>
 bC v1 Sz K
theorem qH (x:VE) (a0 a1:V) (Sz:Hp) (K:KV):lG PP bH cV x [a0,a1] Sz K=iV x a0 a1 Sz K:=by kernel_rfl
noncomputable def eK (x:VE) (m:Nat) (t0 t1 t7 t8:V) (Sz:Hp) (K:KV):Prop:=eT PP bH dK x [.r,.l,.r,.d] m [] [t0,t1,t7,t8] Sz K
noncomputable def kD (x:VE) (a0 a1:V) (Sz:Hp) (K:KV):Prop:=
 aV a0 fun v0=>
 eK x x.most a0 a1 v0 (.int .i64 (.ofNat 0)) Sz K
theorem rV (x:VE) (a0 a1:V) (Sz:Hp) (K:KV):lG PP bH dK x [a0,a1] Sz K=kD x a0 a1 Sz K:=by kernel_rfl
noncomputable def dY (x:VE) (m0:Nat) (t0 t1 t7 t8:V) (Sz:Hp) (K:KV):Prop:=
 cT Sz fun Sz=>
 aG PP .lss 3 t8 t7 fun v0=>
 iG v0 (bY 1 t0 t8 fun v1=>
 aS v1 Sz fun v2 Sz=>
 rL x t1 [v2] Sz fun v3 Sz=>
 iG v3 (bC t8 Sz K) (aG PP .add 3 t8 (.int .i64 (.ofNat 1)) fun v4=>
 eK x m0 t0 t1 t7 v4 Sz K)) (bC (.int .i64 (.negSucc 0)) Sz K)
theorem gX (x:VE) (m0:Nat) (t0 t1 t7 t8:V) (Sz:Hp) (K:KV):eK x (m0+1) t0 t1 t7 t8 Sz K=dY x m0 t0 t1 t7 t8 Sz K:=by kernel_rfl
end Go.Am
set_option maxRecDepth 4000
namespace Go.Am
open Go.Proofs.JQ
section
variable{k:V->Prop}{a b:Nat}{t:TypeId}
theorem aR:aG PP .lss t (ni a) (ni b) k=k (.bool (decide (a<b))):=by rw [PH];congr 2;simp
theorem xR:aG PP .gtr t (ni a) (ni b) k=k (.bool (decide (b<a))):=by rw [PJ];congr 2;simp
theorem HL:aG PP .geq t (ni a) (ni b) k=k (.bool (decide (b<=a))):=by rw [CM];congr 2;simp
theorem ED:aG PP .eql t (ni a) (ni b) k=k (.bool (decide (a=b))):=by rw [ZK];congr 2;simp;omega
theorem nB:aG PP .neq t (ni a) (ni b) k=k (.bool (!decide (a=b))):=by rw [ZL];congr 3;simp;omega
theorem aX (h:a+b<4611686018427387904):aG PP .add t (ni a) (ni b) k=k (ni (a+b)):=by
 rw [IL]
 congr 2
 rw [wrap_small (by simp only [Int.ofNat_eq_natCast];omega) (by simp only [Int.ofNat_eq_natCast];omega)];simp
theorem nD (h:b<=a) (h2:a<4611686018427387904):aG PP .sub t (ni a) (ni b) k=k (ni (a-b)):=by
 rw [Sn]
 congr 2
 rw [wrap_small (by simp only [Int.ofNat_eq_natCast];omega) (by simp only [Int.ofNat_eq_natCast];omega)];simp only [Int.ofNat_eq_natCast];omega
theorem pB (h:a*b<4611686018427387904):aG PP .mul t (ni a) (ni b) k=k (ni (a*b)):=by
 rw [ZM]
 congr 2
 have e:Int.ofNat a*Int.ofNat b=((a*b:Nat):Int):=by simp
 rw [e,wrap_small (by omega) (by omega)];rfl
theorem aF6 (h:True):aG PP .gtr t (nu a) (nu b) k=k (.bool (decide (b<a))):=by rw [PJ];congr 2;simp
theorem Xu:aG PP .leq t (nu a) (nu b) k=k (.bool (decide (a<=b))):=by rw [PG];congr 2;simp
theorem aC3:aG PP .neq t (nu a) (nu b) k=k (.bool (!decide (a=b))):=by rw [ZL];congr 3;simp;omega
theorem aF7:aG PP .eql t (nu a) (nu b) k=k (.bool (decide (a=b))):=by rw [ZK];congr 2;simp;omega
theorem aC5 (h:b≠0):aG PP .rem t (nu a) (nu b) k=k (nu (a%b)):=by
 rw [IK (by simp only [Int.ofNat_eq_natCast];omega)]
 congr 2
theorem AZ{a b:Nat} (h:a<b):decide (a<b)=true:=decide_eq_true h
theorem lY{a b:Nat} (h:¬a<b):decide (a<b)=false:=decide_eq_false h
theorem cU{p q:Prop}:iG (.bool true) p q=p:=rfl
theorem aZ{p q:Prop}:iG (.bool false) p q=q:=rfl
theorem gR{a b:V}{k:V->Prop}:dA (.bool true) a b k=k a:=rfl
theorem dB{a b:V}{k:V->Prop}:dA (.bool false) a b k=k b:=rfl
theorem LB{n:Nat} (h:n<18446744073709551616){k:V->Prop}:AL .u64 (ni n) k=k (nu n):=by
 show k (.int .u64 (mU .u64 (.ofNat n)))=_;rw [show mU .u64 (.ofNat n)= .ofNat n from by show(match Nat.blt n 18446744073709551616 with | true=>_ | false=>_)=_;rw [ZB h]]
end
section
variable{M n a b m:Nat}{x:VE}{Sz:Hp}{K:KV}
abbrev b64 (n:Nat):Prop:=n<18446744073709551616
def bq (m:Nat):Prop:=0<m/\m<=4294967296
theorem q23:bq 23:=⟨by decide,by decide⟩
theorem q47:bq 47:=⟨by decide,by decide⟩
theorem qS{a m:Nat} (h:bq m):b64 (a%m):=Nat.lt_of_lt_of_le (Nat.mod_lt _ h.1) (Nat.le_trans h.2 (by decide))
theorem HG (hx:Deep PP bH gM M (n+1) x) (ha:b64 a) (hb:b64 b) (hm:bq m) (hK:K (nu (a*b%m)) Sz):x.call lH [nu a,nu b,nu m] Sz K:=hx.LC (g:=Sa fun a b m=>a*b%m) rfl ⟨a,b,m,rfl,ha,hb,hm.1,hm.2,hK⟩
theorem ZH (hx:Deep PP bH gM M (n+1) x) (ha:b64 a) (hb:b64 b) (hm:bq m) (hK:K (nu ((a%m+b%m)%m)) Sz):x.call mX [nu a,nu b,nu m] Sz K:=hx.LC (g:=Sa fun a b m=>(a%m+b%m)%m) rfl ⟨a,b,m,rfl,ha,hb,hm.1,hm.2,hK⟩
theorem ZG (hx:Deep PP bH gM M (n+1) x) (ha:b64 a) (hb:b64 b) (hm:bq m) (hK:K (nu (lC a b m)) Sz):x.call oW [nu a,nu b,nu m] Sz K:=hx.LC (g:=Sa lC) rfl ⟨a,b,m,rfl,ha,hb,hm.1,hm.2,hK⟩
theorem aF8 (hx:Deep PP bH gM M (n+1) x) (ha:b64 a) (hb:b64 b) (hm:bq m) (hK:K (nu (JA 64 (1%m) a b m)) Sz):x.call CI [nu a,nu b,nu m] Sz K:=hx.LC (g:=Sa fun a e m=>JA 64 (1%m) a e m) rfl ⟨a,b,m,rfl,ha,hb,hm.1,hm.2,hK⟩
theorem Pc (hx:Deep PP bH gM M (n+1) x){two:Bool} (hK:K (.bool true) Sz):x.call nU [.agg (pv two)] Sz K:=hx.LC (g:=Or) rfl ⟨two,rfl,hK⟩
theorem Xv (hx:Deep PP bH gM M (n+1) x) (hK:K (nu 6) Sz):x.call wW [nu 23] Sz K:=hx.LC (g:=Ch) rfl ⟨rfl,hK⟩
theorem aCZ (hx:Deep PP bH gM M (n+1) x) (ha:b64 a) (hm:bq m) (hi:(vY (a%m+1) m (a%m) 0 (1%m) m).1=1) (hK:K (.tuple [nu (vY (a%m+1) m (a%m) 0 (1%m) m).2,ni 0]) Sz):x.call yR [nu a,nu m] Sz K:=
 hx.LC (g:=Oq) rfl ⟨a,m,rfl,ha,hm.1,hm.2,by rw [if_pos hi];exact hK⟩
end
def ev (q:Nat) (l:List Nat) (X:Nat):Nat:=l.foldr (fun c out=>(out*X%q%q+c%q)%q) 0
def qB (l:List Nat):Prop:=∀c∈l,b64 c
theorem Pj (q:Nat) (h:bq q) (l:List Nat) (X:Nat):b64 (ev q l X):=by
 cases l with
 | nil=>show 0<18446744073709551616;decide
 | cons a l=>exact qS h
section
variable{M n:Nat}{x:VE}{Sz:Hp}{K:KV}{v:V}{l:List Nat}{q X:Nat}
theorem aEx:gM lT=none:=rfl
theorem aB3 (hx:Deep PP bH gM M (n+1) x) (h:NV Sz v l) (hl:l.length<1000000) (h64:qB l) (hX:b64 X) (hq:bq q) (hK:K (nu (ev q l X)) Sz):
 ∀(r i m:Nat),i+r=l.length->r<m->pQ x m v (nu X) (nu q) (nu (ev q (l.drop (l.length-i)) X)) (ni l.length) (ni i) Sz K:=by
 intro r;induction r with
 | zero=>
  intro i m hi hm;obtain⟨m,rfl⟩:=Nat.exists_eq_succ_of_ne_zero (show m≠0 by omega);rw [zV];unfold sP;refine aE ?_;rw [aR,lY (by omega),aZ];have e:l.length-i=0:=by omega
  rw [e,List.drop_zero];exact aJ hK
 | succ r ih=>
  intro i m hi hm;obtain⟨m,rfl⟩:=Nat.exists_eq_succ_of_ne_zero (show m≠0 by omega);rw [zV];unfold sP;refine aE ?_;have hlt:l.length-1-i<l.length:=by omega
  obtain⟨p,hp,hld⟩:=h.at (i:=l.length-1-i) (List.getElem?_eq_getElem hlt);have hld:=fun K=>hld Sz (.refl Sz) K;rw [aR,AZ (by omega),cU,h.len,nD (by omega) (by omega),nD (by omega) (by omega),hp,hld];refine HG hx (Pj q hq _ X) hX hq ?_;rw [hld,bO];refine ZH hx (qS hq) (h64 _ (List.getElem_mem hlt)) hq ?_;rw [aX (by omega)];have:=ih (i+1) m (by omega) (by omega)
  have e:l.drop (l.length-(i+1))=l[l.length-1-i]::l.drop (l.length-i):=by
   have e1:l.length-(i+1)=l.length-1-i:=by omega
   have e2:l.length-i=l.length-1-i+1:=by omega
   rw [e1,e2];exact List.drop_eq_getElem_cons hlt
  rw [e]at this;exact this
theorem UZ (hM:1000000<M) (hx:Deep PP bH gM M (n+2) x) (h:NV Sz v l) (hl:l.length<1000000) (h64:qB l) (hX:b64 X) (hq:bq q) (hK:K (nu (ev q l X)) Sz):x.call lT [v,nu X,nu q] Sz K:=by
 refine hx.call aEx fun y hy=>?_;rw [Ho];unfold RC;rw [h.len,hy.most];have:=aB3 hy h hl h64 hX hq hK l.length 0 M (by omega) (by omega);rw [Nat.sub_zero,List.drop_length]at this;exact this
theorem aEy:gM zW=none:=rfl
theorem Xw (hx:Deep PP bH gM M (n+1) x) (hq:bq q) (hK:K (.bool true) Sz):x.call zW [nu q] Sz K:=by
 refine hx.call aEy fun y hy=>?_;rw [Lh];unfold VM;have h1:decide (0<q)=true:=decide_eq_true hq.1;have h2:decide (q<=2305843009213693952)=true:=decide_eq_true (Nat.le_trans hq.2 (by decide));rw [aF6 trivial,h1];simp only [aF,aI,gR];rw [Xu,h2];exact aJ hK
end
def tRow (q a i:Nat) (b:List Nat):Nat->Nat->List Nat->List Nat
 | _,0,out=>out
 | k,r+1,out=>tRow q a i b (k+1) r (out.set (i+k) ((out.getD (i+k) 0%q+a*b.getD k 0%q%q)%q))
def ZN (q:Nat) (a b:List Nat):Nat->Nat->List Nat->List Nat
 | _,0,out=>out
 | i,r+1,out=>ZN q a b (i+1) r (tRow q (a.getD i 0) i b 0 b.length out)
def times (q:Nat) (a b:List Nat):List Nat:=ZN q a b 0 a.length (List.replicate (a.length+b.length-1) 0)
theorem Hq (q a i:Nat) (b:List Nat):∀(r k:Nat) (out:List Nat),(tRow q a i b k r out).length=out.length:=by
 intro r;induction r with
 | zero=>intro k out;rfl
 | succ r ih=>intro k out;rw [tRow,ih,List.length_set]
theorem Pk{q a i:Nat}{b:List Nat} (hq:bq q):∀(r k:Nat) (out:List Nat),qB out->qB (tRow q a i b k r out):=by
 intro r;induction r with
 | zero=>intro k out h;exact h
 | succ r ih=>
  intro k out h;refine ih (k+1) _ fun c hc=>?_;rcases List.mem_or_eq_of_mem_set hc with hc | hc
  ·exact h c hc
  ·rw [hc];exact qS hq
theorem Sg (q:Nat) (a b:List Nat):∀(r i:Nat) (out:List Nat),(ZN q a b i r out).length=out.length:=by
 intro r;induction r with
 | zero=>intro i out;rfl
 | succ r ih=>intro i out;rw [ZN,ih,Hq]
theorem Xg{q:Nat}{a b:List Nat} (hq:bq q):∀(r i:Nat) (out:List Nat),qB out->qB (ZN q a b i r out):=by
 intro r;induction r with
 | zero=>intro i out h;exact h
 | succ r ih=>intro i out h;exact ih _ _ (Pk hq _ _ _ h)
theorem II (l:List Nat) (i n:Nat):(gA l).set i (nu n)=gA (l.set i n):=by unfold gA;rw [List.map_set]
section
variable{M n o:Nat}{x:VE}{S0:Hp}{K:KV}{va vb:V}{a b:List Nat}{q:Nat}
theorem So (hx:Deep PP bH gM M (n+1) x) (ho:S0 o=none) (hb:NV S0 vb b) (hb64:qB b) (hbl:b.length<1000000) (hq:bq q){ai i L m0:Nat}{t32 t33 t34:V} (hai:b64 ai) (hi:i+b.length<=L) (hL:L<2000000)
 (hk:∀out',out'.length=L->qB out'->aG PP .add 3 t34 (.int .i64 (.ofNat 1)) (fun v12=>gV x m0 vb (nu q) (.own o 0 L L) t32 t33 v12 (upd S0 o (.row (gA out') 22)) K)->True):
 ∀(r k m:Nat) (out:List Nat),k+r=b.length->r<m->out.length=L->qB out->
  (aG PP .add 3 t34 (.int .i64 (.ofNat 1)) fun v12=>gV x m0 vb (nu q) (.own o 0 L L) t32 t33 v12 (upd S0 o (.row (gA (tRow q ai i b k r out)) 22)) K)->
  gG x m m0 vb (nu q) (.own o 0 L L) (ni i) (nu ai) t32 t33 t34 vb (ni b.length) (ni k) (upd S0 o (.row (gA out) 22)) K:=by
 intro r;induction r with
 | zero=>
  intro k m out hkr hm hl h64 hK;obtain⟨m,rfl⟩:=Nat.exists_eq_succ_of_ne_zero (show m≠0 by omega);rw [oS];unfold jN;refine aE ?_;rw [aR,lY (by omega),aZ];exact hK
 | succ r ih=>
  intro k m out hkr hm hl h64 hK;obtain⟨m,rfl⟩:=Nat.exists_eq_succ_of_ne_zero (show m≠0 by omega);rw [oS];unfold jN;refine aE ?_;have hlt:k<b.length:=by omega
  have hle:bE S0 (upd S0 o (.row (gA out) 22)):= .aH ho;obtain⟨p,hp,hld⟩:=hb.at (i:=k) (List.getElem?_eq_getElem hlt);have hld:=fun K=>hld _ hle K;have hik:i+k<out.length:=by omega
  have aHA:(gA out)[i+k]? =some (nu out[i+k]):=rG (List.getElem?_eq_getElem hik)
  have ix:∀{K:V->Prop},bY 1 (.own o 0 L L) (ni (i+k)) K=K (.ptr o (i+k)):=fun {K}=>by
   show(i+k<L/\K (.ptr o (0+(i+k)*1)))=_;rw [Nat.mul_one,Nat.zero_add];exact propext ⟨fun h=>h.2,fun h=>⟨by omega,h⟩⟩
  have ld:∀{K:KV},aS (.ptr o (i+k)) (upd S0 o (.row (gA out) 22)) K=K (nu out[i+k]) (upd S0 o (.row (gA out) 22)):=fun {K}=>by
   unfold aS;simp only [upd_same,bR aHA]
  rw [aR,AZ (by omega),cU,hp,hld,aX (by omega),aX (by omega),ix,ld];refine HG hx hai (hb64 _ (List.getElem_mem hlt)) hq ?_;rw [ld,bO];refine ZH hx (h64 _ (List.getElem_mem hik)) (qS hq) hq ?_;rw [ix];refine BD upd_same rfl (by rw [cY];exact hik) ?_;rw [qE (by rw [cY];exact hik),fP,II,aX (by omega)]
  have e:(out[i+k]%q+ai*b[k]%q%q)%q=(out.getD (i+k) 0%q+ai*b.getD k 0%q%q)%q:=by
   rw [List.getD_eq_getElem?_getD,List.getElem?_eq_getElem hik,List.getD_eq_getElem?_getD,List.getElem?_eq_getElem hlt];rfl
  rw [e];refine ih (k+1) m _ (by omega) (by omega) (by rw [List.length_set];exact hl) (fun c hc=>?_) hK;rcases List.mem_or_eq_of_mem_set hc with hc | hc
  ·exact h64 c hc
  ·rw [hc];exact qS hq
theorem Xx (hx:Deep PP bH gM M (n+1) x) (hM:1000000<M) (ho:S0 o=none) (ha:NV S0 va a) (aEz:qB a) (hal:a.length<1000000) (hb:NV S0 vb b) (hb64:qB b) (hbl:b.length<1000000) (hq:bq q){L:Nat} (hL:L<2000000) (hLe:a.length+b.length<=L+1):
 ∀(r i m:Nat) (out:List Nat),i+r=a.length->r<m->out.length=L->qB out->K (.own o 0 L L) (upd S0 o (.row (gA (ZN q a b i r out)) 22))->gV x m vb (nu q) (.own o 0 L L) va (ni a.length) (ni i) (upd S0 o (.row (gA out) 22)) K:=by
 intro r;induction r with
 | zero=>
  intro i m out hi hm hl h64 hK;obtain⟨m,rfl⟩:=Nat.exists_eq_succ_of_ne_zero (show m≠0 by omega);rw [xG];unfold qL;refine aE ?_;rw [aR,lY (by omega),aZ];exact aJ hK
 | succ r ih=>
  intro i m out hi hm hl h64 hK;obtain⟨m,rfl⟩:=Nat.exists_eq_succ_of_ne_zero (show m≠0 by omega);rw [xG];unfold qL;refine aE ?_;have hlt:i<a.length:=by omega
  have hle:bE S0 (upd S0 o (.row (gA out) 22)):= .aH ho;obtain⟨p,hp,hld⟩:=ha.at (i:=i) (List.getElem?_eq_getElem hlt);have e:a[i]=a.getD i 0:=by rw [List.getD_eq_getElem?_getD,List.getElem?_eq_getElem hlt];rfl
  rw [aR,AZ (by omega),cU,hp,hld _ hle,hb.len,hx.most];refine So hx ho hb hb64 hbl hq (aEz _ (List.getElem_mem hlt)) (by omega) hL (fun _ _ _ _=>trivial) b.length 0 M out (by omega) (by omega) hl h64 ?_;rw [aX (by omega)];refine ih (i+1) m _ (by omega) (by omega) (by rw [Hq];exact hl) (Pk hq _ _ _ h64) ?_;rw [e];exact hK
theorem aB4:gM qU=none:=rfl
theorem aBO (hM:1000000<M) (hx:Deep PP bH gM M (n+2) x){Sz:Hp} (ha:NV Sz va a) (aEz:qB a) (hal:a.length<30000) (ha0:0<a.length) (hb:NV Sz vb b) (hb64:qB b) (hbl:b.length<30000) (hb0:0<b.length) (hq:bq q)
 (hK:∀o,Sz o=none->K (.own o 0 (a.length+b.length-1) (a.length+b.length-1)) (upd Sz o (.row (gA (times q a b)) 22))):x.call qU [va,vb,nu q] Sz K:=by
 refine hx.call aB4 fun y hy=>?_;rw [Cy];unfold NM;refine Xw hy hq ?_;simp only [aF,jV,Bool.not_true,aI,ha.len,hb.len];rw [ED,decide_eq_false (by omega),dB];simp only [aI,ha.len,hb.len];rw [ED,decide_eq_false (by omega),dB,aZ,aX (by omega),nD (by omega) (by omega)];have hz:AK [(.int .u64 (.ofNat 0))]=some [nu 0]:=rfl;refine⟨Nat.le_refl _,by omega,by omega,?_⟩;unfold mY;rw [hz];intro o ho
 have e:(List.replicate (a.length+b.length-1) [nu 0]).flatten=gA (List.replicate (a.length+b.length-1) 0):=by
  unfold gA;rw [List.map_replicate];generalize a.length+b.length-1=k;induction k with
  | zero=>rfl
  | succ k ih=>rw [List.replicate_succ,List.flatten_cons,ih,List.replicate_succ];rfl
 rw [e,hy.most];exact Xx hy hM ho ha aEz (by omega) hb hb64 (by omega) hq (by omega) (by omega) a.length 0 M _ (by omega) (by omega) (by simp) (fun c hc=>by rw [(List.mem_replicate.1 hc).2];show 0<18446744073709551616;decide) (hK o ho)
end
end Go.Am
set_option maxRecDepth 4000
namespace Go.Am
open Go.Mq
abbrev vb (b:BitVec 64):V:=nu b.toNat
theorem wrap64 (m:Nat):mU .u64 (.ofNat m)= .ofNat (m%18446744073709551616):=by
 rw [CB];show IntKind.u64.wrap (.ofNat m)=_;unfold IntKind.wrap;simp [IntKind.bits,IntKind.signed]
theorem aC8 (b:BitVec 64):IntKind.u64.wrap (b.toNat:Int)= .ofNat b.toNat:=by
 rw [<-CB];have:=wrap64 b.toNat;rw [Nat.mod_eq_of_lt b.isLt]at this;exact this
section
variable{k:V->Prop}{t:TypeId}{b c:BitVec 64}
theorem aGk:aG PP .add t (vb b) (vb c) k=k (vb (b+c)):=by
 rw [IL]
 congr 2
 have e:Int.ofNat b.toNat+Int.ofNat c.toNat= .ofNat (b.toNat+c.toNat):=rfl;rw [e,wrap64,BitVec.toNat_add]
theorem aC9:aG PP .mul t (vb b) (vb c) k=k (vb (b*c)):=by
 rw [ZM]
 congr 2
 have e:Int.ofNat b.toNat*Int.ofNat c.toNat= .ofNat (b.toNat*c.toNat):=rfl;rw [e,wrap64,BitVec.toNat_mul]
theorem Lk (b:BitVec 64):BitVec.ofInt IntKind.u64.bits (Int.ofNat b.toNat)=b:=by
 show BitVec.ofInt 64 ((b.toNat:Nat):Int)=b;rw [BitVec.ofInt_natCast];simp
theorem Yj:aG PP .xor t (vb b) (vb c) k=k (vb (b ^^^ c)):=by
 have e0:aG PP .xor t (vb b) (vb c) k=k (.int .u64 (IntKind.u64.wrap (BitVec.ofInt IntKind.u64.bits (Int.ofNat b.toNat) ^^^ BitVec.ofInt IntKind.u64.bits (Int.ofNat c.toNat)).toNat)):=by simp [aG,qV,FD]
 rw [e0,Lk,Lk];have:=aC8 (b ^^^ c);exact congrArg (fun z=>k (.int .u64 z)) this
theorem Yk{n:Nat} (h:n<64):aG PP .shr t (vb b) (nu n) k=k (vb (b >>> n)):=by
 show((0:Int)<=Int.ofNat n/\k (.int .u64 (Int.fdiv (Int.ofNat b.toNat) (2 ^ (min (Int.ofNat n).toNat IntKind.u64.bits)))))=_;have e1:min (Int.ofNat n).toNat IntKind.u64.bits=n:=by show min n 64=n;omega
 rw [e1]
 have e2:Int.fdiv (Int.ofNat b.toNat) (2 ^ n)= .ofNat (b >>> n).toNat:=by
  rw [BitVec.toNat_ushiftRight,Nat.shiftRight_eq_div_pow];have:(2:Int) ^ n=((2 ^ n:Nat):Int):=by simp
  rw [this];exact(Int.ofNat_fdiv _ _).symm
 rw [e2];exact propext ⟨fun h=>h.2,fun h=>⟨Int.natCast_nonneg n,h⟩⟩
theorem aDa:IP .xor (vb b) k=k (vb (~~~ b)):=by
 show k (.int .u64 (IntKind.u64.wrap (BitVec.ofInt IntKind.u64.bits (if IntKind.u64.signed then-1 else IntKind.u64.max) ^^^ BitVec.ofInt IntKind.u64.bits (Int.ofNat b.toNat)).toNat))=_;rw [Lk];have e:BitVec.ofInt IntKind.u64.bits (if IntKind.u64.signed then-1 else IntKind.u64.max)=BitVec.allOnes 64:=by show(BitVec.ofInt 64 (if IntKind.u64.signed then-1 else IntKind.u64.max):BitVec 64)=_;decide
 rw [e];show k (.int .u64 (IntKind.u64.wrap ((BitVec.allOnes 64 ^^^ b:BitVec 64).toNat:Int)))=_;rw [BitVec.allOnes_xor];exact congrArg (fun z=>k (.int .u64 z)) (aC8 (~~~ b))
theorem Ha{a b:Nat}:aG PP .geq t (nu a) (nu b) k=k (.bool (decide (b<=a))):=by rw [CM];congr 2;simp
end
def FE (s:BitVec 64):Nat×BitVec 64:=if 6<=(~~~ HC (s+DF)).toNat then((HC (s+DF)).toNat%23,s+DF)else((HC (s+DF+DF)).toNat%23,s+DF+DF)
theorem aB7{s:BitVec 64} (h:¬6<=(~~~ HC s).toNat):Gv (HC s):=by
 unfold Gv;rw [BitVec.toNat_not]at h;have:=(HC s).isLt;omega
theorem twice{s:BitVec 64} (h:¬6<=(~~~ HC s).toNat):6<=(~~~ HC (s+DF)).toNat:=by
 have:=once s (aB7 h);unfold Gv at this;rw [BitVec.toNat_not];have:=(HC (s+DF)).isLt;omega
inductive Ah (Sz:Hp):V->List Nat->Prop
 | nil:Ah Sz .nil []
 | emp {i n:Nat}:Ah Sz (.emp i n) []
 | HE {i o:Nat}:Ah Sz (.own i o 0 0) []
 | acc {i:Nat} {l:List Nat} (h:Sz i=some (.dF (gA l) 22 l.length)) (h0:0<l.length):Ah Sz (.acc i l.length) l
 | tW {i m o:Nat} {vs:List V} {l:List Nat} (h:Sz i=some (.dF vs 22 m)) (h0:0<l.length) (hv:∀j n,l[j]? =some n->vs[o+j]? =some (nu n)):Ah Sz (.tW i m o l.length l.length) l
theorem Ah.up{Sz S':Hp}{v:V}{l:List Nat} (h:Ah Sz v l) (hle:bE Sz S'):Ah S' v l:=by
 cases h with
 | nil=>exact .nil
 | emp=>exact .emp
 | HE=>exact .HE
 | acc h h0=>exact .acc (hle _ _ h) h0
 | tW h h0 hv=>exact .tW (hle _ _ h) h0 hv
theorem Ah.len{Sz:Hp}{v:V}{l:List Nat} (h:Ah Sz v l){K:V->Prop}:aV v K=K (ni l.length):=by cases h<;>rfl
theorem Ah.one{Sz:Hp}{v:V}{l:List Nat} (h:Ah Sz v l):jK v=true:=by cases h<;>rfl
theorem Ah.set{Sz:Hp}{v w:V}{l:List Nat}{t d:Nat}{b c:V} (h:Ah Sz v l) (ht:Sz t=some (.row [b,w,c] d)){o:Ob}:Ah (upd Sz t o) v l:=by
 have ne:∀{i:Nat} {vs:List V} {q n:Nat},Sz i=some (.dF vs q n)->i≠t:=fun h c=>by rw [c,ht]at h;cases h
 cases h with
 | nil=>exact .nil
 | emp=>exact .emp
 | HE=>exact .HE
 | acc h h0=>exact .acc (by rw [aB (ne h)];exact h) h0
 | tW h h0 hv=>exact .tW (by rw [aB (ne h)];exact h) h0 hv
theorem Ah.head{Sz:Hp}{v:V}{a:Nat}{l:List Nat} (h:Ah Sz v (a::l)):(∃p,(∀(K:V->Prop),bY 1 v (ni 0) K=K p)/\∀K:KV,aS p Sz K=K (nu a) Sz)/\∃w,(∀{k:V->Prop},k w->HM 22 1 v (some (ni 1)) none none Sz k)/\∀{S'},bE Sz S'->Ah S' w l:=by
 generalize hm:a::l=m at h;cases h with
 | nil=>cases hm
 | emp=>cases hm
 | HE=>cases hm
 | @acc i _ h h0=>
  subst hm;refine⟨⟨.lX i (a::l).length (0*1),fun K=>wX (by simp),fun K=>?_⟩,?_⟩
  ·unfold aS;simp only [h,true_and];rfl
  ·cases l with
   | nil=>exact⟨.emp i 1,fun hk=>Ym (n:=1) h hk,fun _=> .emp⟩
   | cons b l=>
    refine⟨.tW i (a::b::l).length (1*1) ((a::b::l).length-1) ((a::b::l).length-1),fun hk=>Dd h (by simp) hk,fun hle=>?_⟩
    exact .tW (l:=b::l) (hle _ _ h) (by simp) fun j n hj=>by
     rw [Nat.add_comm];exact rG (l:=a::b::l) (i:=j+1) hj
 | @tW i q o vs _ h h0 hv=>
  subst hm;refine⟨⟨.lX i q (o+0*1),fun K=>by simp [bY],fun K=>?_⟩,?_⟩
  ·unfold aS
   simp only [h,true_and];rw [Nat.zero_mul,bR (hv 0 a rfl)]
  ·cases l with
   | nil=>
    refine⟨.emp i q,fun {k} hk=>?_,fun _=> .emp⟩;unfold HM;simp only [h,true_and];unfold zZ PO;simp only [List.length_cons,List.length_nil];refine⟨by omega,by omega,by omega,fun c=>absurd c (by omega),fun _=>hk⟩
   | cons b l=>
    refine⟨.tW i q (o+1*1) (b::l).length (b::l).length,fun {k} hk=>?_,fun hle=> .tW (l:=b::l) (hle _ _ h) (by simp) fun j n hj=>?_⟩
    ·unfold HM
     simp only [h,true_and];unfold zZ PO;simp only [List.length_cons];refine⟨by omega,by omega,by omega,fun _=>?_,fun c=>absurd c (by omega)⟩;exact hk
    ·have:=hv (j+1) n hj
     rw [Nat.mul_one,Nat.add_assoc,Nat.add_comm 1 j];exact this
set_option maxRecDepth 4000
section
variable{Sz:Hp}{i o:Nat}{vs:List V}{t:TypeId}{v:V}
theorem cG (h:Sz i=some (.row vs t)) (hv:vs[o]? =some v){K:KV}:aS (.ptr i o) Sz K=K v Sz:=by unfold aS;simp only [h,bR hv]
theorem EB (h:Sz i=some (.row vs t)) (ho:o<vs.length) (h1:jK v=true){k:Hp->Prop}:rH 1 (.ptr i o) v Sz k=k (upd Sz i (.row (vs.set o v) t)):=by
 apply propext;constructor
 ·intro hv
  unfold rH at hv;simp only [h]at hv;have:∀{p:List V->Prop},oY v p=p [v]:=fun {p}=>by cases v<;>first | rfl | cases h1
  rw [this]at hv;rw [<-qE ho];exact hv.2.2
 ·intro hk;exact BD h h1 ho (by rw [qE ho];exact hk)
end
def Tape (Sz:Hp) (t:Nat) (s:BitVec 64) (ah:List Nat) (d:Nat):Prop:=∃w,Sz t=some (.row [vb s,w,ni d] 83)/\Ah Sz w ah
def LD (Sz S':Hp) (t:Nat):Prop:=∀i,i≠t->S' i=Sz i
theorem LD.trans{a b c:Hp}{t:Nat} (h:LD a b t) (k:LD b c t):LD a c t:=fun i hi=>by rw [k i hi,h i hi]
section
variable{M n t d:Nat}{x:VE}{Sz:Hp}{K:KV}{s:BitVec 64}{w:V}{a:Nat}{ah:List Nat}
theorem Yn:gM pT=none:=rfl
theorem aB8:gM uZ=none:=rfl
theorem Ll:gM bN=none:=rfl
theorem aB9:gM jH=none:=rfl
theorem aGl:gM sR=none:=rfl
theorem aHE:gM CU=none:=rfl
theorem Ht (hx:Deep PP bH gM M (n+1) x) (h:Sz t=some (.row [vb s,w,ni d] 83)) (hK:K (vb (HC (s+DF))) (upd Sz t (.row [vb (s+DF),w,ni d] 83))):x.call pT [.ptr t 0] Sz K:=by
 refine hx.call Yn fun y hy=>?_;rw [NP];unfold BE;have e1:(.int .u64 (.ofNat 11400714819323198485):V)=vb DF:=rfl;have e2:(.int .u64 (.ofNat 13787848793156543929):V)=vb m1:=rfl;have e3:(.int .u64 (.ofNat 10723151780598845931):V)=vb m2:=rfl;have h2:upd Sz t (.row [vb (s+DF),w,ni d] 83) t=some (.row [vb (s+DF),w,ni d] 83):=upd_same;rw [nG,aN,cG h rfl,e1,aGk,nG,aN,EB h (by simp) rfl];show FQ PP (.ptr t 0) (fun v6=>bI 0 v6 fun v7=>aS v7 (upd Sz t (.row [vb (s+DF),w,ni d] 83)) _);rw [nG,aN,cG h2 rfl,Yk (by decide),Yj,e2,aC9,Yk (by decide),Yj,e3,aC9,Yk (by decide),Yj];exact aJ hK
theorem SW (hx:Deep PP bH gM M (n+1) x) (hK:K (nu (a%23)) Sz):x.call uZ [nu a,nu 23] Sz K:=by
 refine hx.call aB8 fun y hy=>?_;rw [De];unfold NQ;rw [aF7,decide_eq_false (by decide),aZ,aC5 (by decide)];exact aJ hK
theorem ptr52:VB PP 52=some .ptr:=by kernel_rfl
theorem aEI (hx:Deep PP bH gM M (n+2) x) (h:Tape Sz t s (a::ah) d) (hd:d<1000000) (hK:∀S',LD Sz S' t->Tape S' t s ah (d+1)->K (nu (a%23)) S'):x.call bN [.ptr t 0,nu 23] Sz K:=by
 obtain⟨w,h,hw⟩:=h;refine hx.call Ll fun y hy=>?_;rw [wA];unfold qW;refine SX ptr52 ?_;have h1:upd Sz t (.row [vb s,w,ni (d+1)] 83) t=some (.row [vb s,w,ni (d+1)] 83):=upd_same;have hw1:Ah (upd Sz t (.row [vb s,w,ni (d+1)] 83)) w (a::ah):=hw.set h;obtain⟨⟨p,hp,hld⟩,w',hsl,hw'⟩:=hw1.head;rw [aZ,nG,aN,cG h rfl,aX (by omega),nG,aN,EB h (by simp) rfl];show FQ PP (.ptr t 0) (fun v7=>bI 1 v7 fun v8=>aS v8 (upd Sz t (.row [vb s,w,ni (d+1)] 83)) _);rw [nG,aN,cG h1 rfl,hw1.len,xR,decide_eq_true (by simp),cU,nG,aN,cG h1 rfl,hp,hld,nG,aN,cG h1 rfl];refine hsl ?_;have hwo:jK w'=true:=(hw' (.refl _)).one;rw [nG,aN,EB h1 (by simp) hwo];refine SW hy ?_;refine aJ (hK _ (fun i hi=>by rw [fP,aB hi]) ⟨w',by rw [fP];exact upd_same,?_⟩);exact(hw' (.refl _)).set (b:=vb s) (w:=w) (c:=ni (d+1)) h1
theorem aCa (hx:Deep PP bH gM M (n+1) x) (h:Sz t=some (.row [vb s,w,ni d] 83)) (hw:Ah Sz w []) (hK:∀S',LD Sz S' t->Tape S' t (FE s).2 [] d->K (nu (FE s).1) S'){m:Nat}:jY x (m+2) (.ptr t 0) (nu 23) Sz K:=by
 rw [tE];unfold nH;refine aE ?_;rw [nG,aN];refine Ht hx h ?_;rw [aDa];refine Xv hx ?_;have h1:upd Sz t (.row [vb (s+DF),w,ni d] 83) t=some (.row [vb (s+DF),w,ni d] 83):=upd_same;rw [Ha];by_cases c:6<=(~~~ HC (s+DF)).toNat
 ·rw [decide_eq_true c,cU]
  refine SW hx ?_;have e:FE s=((HC (s+DF)).toNat%23,s+DF):=by unfold FE;rw [if_pos c]
  rw [e]at hK;exact aJ (hK _ (fun i hi=>aB hi) ⟨w,h1,hw.set h⟩)
 ·rw [decide_eq_false c,aZ,tE]
  unfold nH;refine aE ?_;rw [nG,aN];refine Ht hx h1 ?_;rw [aDa];refine Xv hx ?_;rw [Ha,decide_eq_true (twice c),cU];refine SW hx ?_;have e:FE s=((HC (s+DF+DF)).toNat%23,s+DF+DF):=by unfold FE;rw [if_neg c]
  rw [e]at hK;exact aJ (hK _ (fun i hi=>by rw [fP,aB hi]) ⟨w,by rw [fP];exact upd_same,by rw [fP];exact hw.set h⟩)
theorem Yo (hM:2<M) (hx:Deep PP bH gM M (n+2) x) (h:Tape Sz t s [] d) (hd:d<1000000) (hK:∀S',LD Sz S' t->Tape S' t (FE s).2 [] (d+1)->K (nu (FE s).1) S'):x.call bN [.ptr t 0,nu 23] Sz K:=by
 obtain⟨w,h,hw⟩:=h;refine hx.call Ll fun y hy=>?_;rw [wA];unfold qW;refine SX ptr52 ?_;have h1:upd Sz t (.row [vb s,w,ni (d+1)] 83) t=some (.row [vb s,w,ni (d+1)] 83):=upd_same;have hw1:Ah (upd Sz t (.row [vb s,w,ni (d+1)] 83)) w []:=hw.set h;rw [aZ,nG,aN,cG h rfl,aX (by omega),nG,aN,EB h (by simp) rfl];show FQ PP (.ptr t 0) (fun v7=>bI 1 v7 fun v8=>aS v8 (upd Sz t (.row [vb s,w,ni (d+1)] 83)) _);rw [nG,aN,cG h1 rfl,hw1.len,xR,decide_eq_false (by simp),aZ,hy.most];obtain⟨m,rfl⟩:∃m,M=m+2:=⟨M-2,by omega⟩;exact aCa hy h1 hw1 fun S' b tp=>hK S' ((show LD Sz (upd Sz t (.row [vb s,w,ni (d+1)] 83)) t from fun i hi=>aB hi).trans b) tp
end
def drawn:Nat->List Nat->BitVec 64->List Nat
 | 0,_,_=>[]
 | k+1,a::ah,s=>a%23::drawn k ah s
 | k+1,[],s=>(FE s).1::drawn k [] (FE s).2
theorem mZ:∀(k:Nat) (ah:List Nat) (s:BitVec 64),(drawn k ah s).length=k:=by
 intro k;induction k with
 | zero=>intro ah s;rfl
 | succ k ih=>intro ah s;cases ah<;>simp [drawn,ih]
theorem zM:∀(k:Nat) (ah:List Nat) (s:BitVec 64),∀c∈drawn k ah s,c<23:=by
 intro k;induction k with
 | zero=>intro ah s c hc;cases hc
 | succ k ih=>
  intro ah s c hc;cases ah with
  | nil=>
   rcases List.mem_cons.1 hc with rfl | hc
   ·show(FE s).1<23
    unfold FE;split<;>exact Nat.mod_lt _ (by decide)
   ·exact ih _ _ c hc
  | cons a ah=>
   rcases List.mem_cons.1 hc with rfl | hc
   ·exact Nat.mod_lt _ (by decide)
   ·exact ih _ _ c hc
section
variable{M n t d:Nat}{x:VE}{Sz:Hp}{K:KV}{s:BitVec 64}{ah:List Nat}
theorem Wx (hM:2<M) (hx:Deep PP bH gM M (n+2) x) (h:Tape Sz t s ah d) (hd:d<1000000) (hK:∀S' a s' Eh,LD Sz S' t->Tape S' t s' Eh (d+1)->(∀k,drawn (k+1) ah s=a::drawn k Eh s')->K (nu a) S'):x.call bN [.ptr t 0,nu 23] Sz K:=by
 cases ah with
 | nil=>exact Yo hM hx h hd fun S' b tp=>hK S' _ _ _ b tp fun k=>rfl
 | cons a ah=>exact aEI hx h hd fun S' b tp=>hK S' _ _ _ b tp fun k=>rfl
end
set_option maxRecDepth 4000
section
variable{M n t d:Nat}{x:VE}{Sz:Hp}{K:KV}
theorem aDb{S:Nat} (h:b64 S):vb (BitVec.ofNat 64 S)=nu S:=by
 show nu (BitVec.ofNat 64 S).toNat=nu S;rw [BitVec.toNat_ofNat,Nat.mod_eq_of_lt h]
theorem Pl (hx:Deep PP bH gM M (n+1) x){S:Nat} (hS:b64 S) (hK:∀t S',Sz t=none->bE Sz S'->LD Sz S' t->Tape S' t (BitVec.ofNat 64 S) [] 0->K (.ptr t 0) S'):x.call sR [nu S] Sz K:=by
 refine hx.call aGl fun y hy=>?_;rw [Lm];unfold VT;refine⟨rfl,by simp,⟨rfl,rfl,by simp,⟨rfl,fun t ht=>aJ (hK t _ ht (.aH ht) (fun i hi=>aB hi) ⟨.nil,?_,.nil⟩)⟩⟩⟩;rw [aDb hS];exact upd_same
theorem Df:VB PP 32=some .slice:=by kernel_rfl
theorem aCb:gM bP=none:=rfl
theorem Pg (hx:Deep PP bH gM M (n+1) x){S0:Hp}{v:V}{l:List Nat} (h:MN S0 Sz v l) (hl:l.length<1000000) (hK:∀w S',bE Sz S'->MN Sz S' w l->Ah S' w l->K w S'):x.call bP [v] Sz K:=by
 refine hx.call aCb fun y hy=>?_;rw [tP];unfold kY
 have rest:(aP 22 0 [(.int .u64 (.ofNat 0))] [] Sz fun v1 Sz=>kI 22 1 8 v1 v Sz fun v2 Sz=>bC v2 Sz K):=by
  intro j hj;have hle:bE Sz (upd Sz j (.row [] 22)):= .aH hj;show kI 22 1 8 (.own j 0 0 0) v (upd Sz j (.row [] 22)) _;refine(h.nv.up hle).src ?_;cases hl0:l.length with
  | zero=>
   have e0:l=[]:=List.eq_nil_of_length_eq_zero hl0;subst e0;exact⟨Nat.le_refl _,aJ (hK _ _ hle (.own (l:=[]) hj upd_same) .HE)⟩
  | succ q=>
   refine⟨SQ l,?_⟩;simp only [upd_same];refine⟨by omega,by simp,fun c=>absurd c (by omega),fun _ i hi=>?_⟩;have e2:(List.take (0*1) (List.drop 0 ([]:List V)))++gA l=gA l:=by simp
   rw [e2,show 0+(q+1)=l.length by omega];exact aJ (hK _ _ (hle.trans (.aH hi)) (.acc (hle.none hi) upd_same) (.acc upd_same (by omega)))
 cases h with
 | nil=>exact⟨rfl,Df,.inl rfl,(fun _ _ e=>by cases e),aJ (hK _ _ (.refl Sz) .nil .nil)⟩
 | acc h0 h=>exact⟨rfl,Df,.inr rfl,(fun e=>by cases e),rest⟩
 | own h0 h=>exact⟨rfl,Df,.inr rfl,(fun e=>by cases e),rest⟩
theorem aGf (hx:Deep PP bH gM M (n+2) x){S0:Hp}{v:V}{l:List Nat} (h:MN S0 Sz v l) (hl:l.length<1000000){S:Nat} (hS:b64 S) (hK:∀t S',Sz t=none->bE Sz S'->Tape S' t (BitVec.ofNat 64 S) l 0->K (.ptr t 0) S'):x.call CU [v,nu S] Sz K:=by
 refine hx.call aHE fun y hy=>?_;rw [Sr];unfold ZQ;refine⟨rfl,by simp,?_⟩;refine Pg hy h hl fun w S1 hle hw ha=>?_;have hwo:jK w=true:=by cases hw<;>rfl
 have hc:∀{p:List V->Prop},oY w p=p [w]:=fun {p}=>by cases hw<;>rfl
 refine⟨rfl,rfl,by simp,?_⟩;show jE [(1,1,w)] [nu S,.nil,ni 0] _;unfold jE;rw [hc];refine⟨rfl,by simp,?_⟩;unfold jE;show jO 83 (.agg (splice 1 [w] [nu S,.nil,ni 0])) S1 _;rw [show splice 1 [w] [nu S,.nil,ni 0]=[nu S,w,ni 0]from rfl];refine cO (by simp [hwo];exact⟨rfl,rfl⟩) fun t ht=>?_;have hle1:bE S1 (upd S1 t (.row [nu S,w,ni 0] 83)):= .aH ht;refine aJ (hK t _ (hle.none ht) (hle.trans hle1) ⟨w,by rw [aDb hS];exact upd_same,ha.up hle1⟩)
theorem Yp (hM:2<M) (hx:Deep PP bH gM M (n+2) x){o N:Nat}{S:BitVec 64}{AH:List Nat} (hN:N<1000){S0:Hp} (ho:S0 o=none) (hot:o≠t)
 (hK:∀S',(∀i,i≠t->i≠o->S' i=S0 i)->(∃s' Eh,Tape S' t s' Eh (d+N))->S' o=some (.row (gA (drawn N AH S)) 22)->K (.own o 0 N N) S'):
 ∀(r i m:Nat) (Sz:Hp) (s:BitVec 64) (ah l:List Nat),i+r=N->r<m->d+N<1000000->Tape Sz t s ah (d+i)->(∀i,i≠t->i≠o->Sz i=S0 i)->Sz o=some (.row (gA l) 22)->l.length=N->l.take i++drawn r ah s=drawn N AH S->
  fR x m (.ptr t 0) (nu 23) (.own o 0 N N) (ni N) (ni i) Sz K:=by
 intro r;induction r with
 | zero=>
  intro i m Sz s ah l hi hm hd htp hb hro hl he;obtain⟨m,rfl⟩:=Nat.exists_eq_succ_of_ne_zero (show m≠0 by omega);rw [rB];unfold lE;refine aE ?_;rw [aR,lY (by omega),aZ];have e:i=N:=by omega
  subst e;rw [List.take_of_length_le (by omega)]at he;have he:l=drawn i AH S:=by simpa [drawn]using he
  exact aJ (hK Sz hb ⟨s,ah,htp⟩ (by rw [<-he];exact hro))
 | succ r ih=>
  intro i m Sz s ah l hi hm hd htp hb hro hl he;obtain⟨m,rfl⟩:=Nat.exists_eq_succ_of_ne_zero (show m≠0 by omega);rw [rB];unfold lE;refine aE ?_;rw [aR,AZ (by omega),cU];refine Wx hM hx htp (by omega) fun S1 a s1 ah1 b1 tp1 h1=>?_;have aGm:S1 o=some (.row (gA l) 22):=by rw [b1 o hot];exact hro
  have ix:∀{K:V->Prop},bY 1 (.own o 0 N N) (ni i) K=K (.ptr o i):=fun {K}=>by
   show(i<N/\K (.ptr o (0+i*1)))=_;rw [Nat.mul_one,Nat.zero_add];exact propext ⟨fun h=>h.2,fun h=>⟨by omega,h⟩⟩
  rw [ix,EB aGm (by rw [cY];omega) rfl,II,aX (by omega)];obtain⟨w,q1,q2⟩:=tp1
  have Uc:Tape (upd S1 o (.row (gA (l.set i a)) 22)) t s1 ah1 (d+(i+1)):=by
   refine⟨w,by rw [aB (Ne.symm hot)];exact q1,?_⟩;have ne:∀{j:Nat} {vs:List V} {q n:Nat},S1 j=some (.dF vs q n)->j≠o:=fun h c=>by rw [c,aGm]at h;cases h
   cases q2 with
   | nil=>exact .nil
   | emp=>exact .emp
   | HE=>exact .HE
   | acc h h0=>exact .acc (by rw [aB (ne h)];exact h) h0
   | tW h h0 hv=>exact .tW (by rw [aB (ne h)];exact h) h0 hv
  refine ih (i+1) m _ s1 ah1 (l.set i a) (by omega) (by omega) hd Uc (fun j h2 h3=>by rw [aB h3,b1 j h2,hb j h2 h3]) upd_same (by rw [List.length_set];exact hl) ?_;rw [<-he,h1 r,List.take_add_one,List.getElem?_set_self (by omega),List.take_set_of_le (Nat.le_refl i)];simp
theorem Pm (hM:100000<M) (hx:Deep PP bH gM M (n+3) x){N:Nat}{s:BitVec 64}{ah:List Nat} (hN:N<1000) (hd:d<900000) (h:Tape Sz t s ah d) (hK:∀S' o,Sz o=none->(∀i,i≠t->i≠o->S' i=Sz i)->(∃s' Eh,Tape S' t s' Eh (d+N))->S' o=some (.row (gA (drawn N ah s)) 22)->K (.own o 0 N N) S'):
 x.call jH [.ptr t 0,ni N,nu 23] Sz K:=by
 refine hx.call aB9 fun y hy=>?_;rw [NS];unfold BF;refine SX ptr52 ?_;simp only [aF,aI];rw [aR,lY (by omega),dB];simp only [aI];rw [xR,decide_eq_false (by omega),dB,aZ];refine⟨Nat.le_refl _,by omega,by omega,?_⟩;have hz:AK [(.int .u64 (.ofNat 0))]=some [nu 0]:=rfl;unfold mY;rw [hz];intro o ho
 have e:(List.replicate N [nu 0]).flatten=gA (List.replicate N 0):=by
  unfold gA;rw [List.map_replicate];generalize N=k;induction k with
  | zero=>rfl
  | succ k ih=>rw [List.replicate_succ,List.flatten_cons,ih,List.replicate_succ];rfl
 obtain⟨w,h1,h2⟩:=h;have hot:o≠t:=fun c=>by rw [c,h1]at ho;cases ho
 have hle:bE Sz (upd Sz o (.row (gA (List.replicate N 0)) 22)):= .aH ho;rw [e];show fR y y.most (.ptr t 0) (nu 23) (.own o 0 N N) (ni N) (ni 0) _ K;rw [hy.most];exact Yp (by omega) hy hN ho hot (fun S' b tp r=>hK S' o ho b tp r) N 0 M _ s ah (List.replicate N 0) (by omega) (by omega) (by omega) ⟨w,by rw [aB (Ne.symm hot)];exact h1,h2.up hle⟩ (fun i _ h3=>aB h3) upd_same (by simp) (by simp)
end
end Go.Am
set_option maxRecDepth 100000
namespace Go.Am
noncomputable def lP (x:VE) (m:Nat) (t3 t9 t10 t11 t29 t30 t31:V) (Sz:Hp) (K:KV):Prop:=eT PP bH lQ x [.r,.r,.r,.r,.l,.r,.d] m [] [t3,t9,t10,t11,t29,t30,t31] Sz K
noncomputable def dS (x:VE) (m:Nat) (t3 t10 t11 t14 t63 t64:V) (Sz:Hp) (K:KV):Prop:=eT PP bH lQ x [.r,.r,.r,.r,.r,.r,.l,.r,.d] m [] [t3,t10,t11,t14,t63,t64] Sz K
noncomputable def fF (x:VE) (m:Nat) (m0:Nat) (t3 t10 t11 t14 t15 t63 t64 t68 t69:V) (Sz:Hp) (K:KV):Prop:=eT PP bH lQ x [.r,.r,.r,.r,.r,.r,.l,.r,.d,.d,.r,.r,.l,.d,.r,.r,.d] m [m0] [t3,t10,t11,t14,t15,t63,t64,t68,t69] Sz K
noncomputable def MZ (x:VE) (a0 a1 a2:V) (Sz:Hp) (K:KV):Prop:=
 jO 25 a0 Sz fun v0 Sz=>
 bF 12 v0 Sz fun v1 Sz=>
 x.call nU [v1] Sz fun v2 Sz=>
 IP .not v2 fun v3=>
 aD x.most (aC false v3 (fun k=>k a1 Sz) Sz fun v4 Sz=>
 aD x.most (aC false v3 (fun k=>aV v4 fun v5=>
 k v5 Sz) Sz fun v6 Sz=>
 aD x.most (aC false v3 (fun k=>bF 12 v0 Sz fun v7 Sz=>
 k v7 Sz) Sz fun v8 Sz=>
 aD x.most (aC false v3 (fun k=>x.call qN [v8] Sz fun v9 Sz=>
 k v9 Sz) Sz fun v10 Sz=>
 aD x.most (aC false v3 (fun k=>aG PP .neq 3 v6 v10 fun v11=>
 k v11 Sz) Sz fun v12 Sz=>
 aD x.most (dA v3 (.bool true) v12 fun v13=>
 iG v13 (bC (.tuple [.nil,.nil,(.int .i64 (.ofNat 1))]) Sz K) (aV a1 fun v14=>
 lP x x.most v0 (.func bN [a2] []) .nil .nil a1 v14 (.int .i64 (.ofNat 0)) Sz K)))))))
theorem Cl (x:VE) (a0 a1 a2:V) (Sz:Hp) (K:KV):lG PP bH lQ x [a0,a1,a2] Sz K=MZ x a0 a1 a2 Sz K:=by kernel_rfl
noncomputable def oZ (x:VE) (m0:Nat) (t3 t9 t10 t11 t29 t30 t31:V) (Sz:Hp) (K:KV):Prop:=
 cT Sz fun Sz=>
 aG PP .lss 3 t31 t30 fun v0=>
 iG v0 (bY 1 t29 t31 fun v1=>
 aS v1 Sz fun v2 Sz=>
 bI 6 t3 fun v3=>
 aS v3 Sz fun v4 Sz=>
 bI 1 t3 fun v5=>
 aS v5 Sz fun v6 Sz=>
 x.call mC [v2,v4,v6,t9] Sz fun v7 Sz=>
 aP 32 1 [(.slice none 0 0)] [(0,1,v7)] Sz fun v8 Sz=>
 kI 32 1 24 t10 v8 Sz fun v9 Sz=>
 bI 1 t3 fun v10=>
 aS v10 Sz fun v11 Sz=>
 bI 6 t3 fun v12=>
 aS v12 Sz fun v13 Sz=>
 bI 1 t3 fun v14=>
 aS v14 Sz fun v15 Sz=>
 rL x t9 [v11] Sz fun v16 Sz=>
 aS v14 Sz fun v17 _=>
 aL v17 v15 (aS v12 Sz fun v18 _=>
 aL v18 v13 (x.call mC [v16,v13,v15,t9] Sz fun v19 Sz=>
 (aP 32 1 [(.slice none 0 0)] [(0,1,v19)] Sz fun v20 Sz=>
 True)/\(aP 32 1 [(.slice none 0 0)] [(0,1,v19)] Sz fun v21 Sz=>
 kI 32 1 24 t11 v21 Sz fun v22 Sz=>
 aG PP .add 3 t31 (.int .i64 (.ofNat 1)) fun v23=>
 lP x m0 t3 t9 v9 v22 t29 t30 v23 Sz K)))) (bI 5 t3 fun v24=>
 aS v24 Sz fun v25 Sz=>
 Gy 44 24 [(.slice none 0 0)] v25 v25 Sz fun v26 Sz=>
 aV v26 fun v27=>
 dS x x.most t3 t10 t11 v26 v27 (.int .i64 (.ofNat 0)) Sz K)
theorem vJ (x:VE) (m0:Nat) (t3 t9 t10 t11 t29 t30 t31:V) (Sz:Hp) (K:KV):lP x (m0+1) t3 t9 t10 t11 t29 t30 t31 Sz K=oZ x m0 t3 t9 t10 t11 t29 t30 t31 Sz K:=by kernel_rfl
noncomputable def nA (x:VE) (m0:Nat) (t3 t10 t11 t14 t63 t64:V) (Sz:Hp) (K:KV):Prop:=
 cT Sz fun Sz=>
 aG PP .lss 3 t64 t63 fun v0=>
 iG v0 (aV t10 fun v1=>
 fF x x.most m0 t3 t10 t11 t14 t64 t63 t64 v1 (.int .i64 (.ofNat 0)) Sz K) (bF 12 t3 Sz fun v2 Sz=>
 x.call aK [v2,t10,t11] Sz fun v3 Sz=>
 bC (.tuple [t14,v3,(.int .i64 (.ofNat 0))]) Sz K)
theorem tB (x:VE) (m0:Nat) (t3 t10 t11 t14 t63 t64:V) (Sz:Hp) (K:KV):dS x (m0+1) t3 t10 t11 t14 t63 t64 Sz K=nA x m0 t3 t10 t11 t14 t63 t64 Sz K:=by kernel_rfl
noncomputable def gZ (x:VE) (m1:Nat) (m0:Nat) (t3 t10 t11 t14 t15 t63 t64 t68 t69:V) (Sz:Hp) (K:KV):Prop:=
 cT Sz fun Sz=>
 aG PP .lss 3 t69 t68 fun v0=>
 iG v0 (bY 1 t14 t15 fun v1=>
 aS v1 Sz fun v2 Sz=>
 bY 1 t10 t69 fun v3=>
 aS v3 Sz fun v4 Sz=>
 aG PP .add 3 t15 (.int .i64 (.ofNat 1)) fun v5=>
 AL .u64 v5 fun v6=>
 bI 1 t3 fun v7=>
 aS v7 Sz fun v8 Sz=>
 bY 1 t11 t69 fun v9=>
 aS v9 Sz fun v10 Sz=>
 aG PP .add 3 t15 (.int .i64 (.ofNat 1)) fun v11=>
 AL .u64 v11 fun v12=>
 bI 1 t3 fun v13=>
 aS v13 Sz fun v14 Sz=>
 x.call lT [v4,v6,v8] Sz fun v15 Sz=>
 aS v13 Sz fun v16 _=>
 aL v16 v14 (aS v9 Sz fun v17 _=>
 aL v17 v10 (aS v1 Sz fun v18 _=>
 aL v18 v2 (x.call lT [v10,v12,v14] Sz fun v19 Sz=>
 aS v1 Sz fun v20 _=>
 aL v20 v2 (gQ [(.int .u64 (.ofNat 0)),(.int .u64 (.ofNat 0))] [(0,1,v15),(1,1,v19)] fun v21=>
 aS v1 Sz fun v22 _=>
 aL v22 v2 ((aP 73 1 [(.int .u64 (.ofNat 0)),(.int .u64 (.ofNat 0))] [(0,2,v21)] Sz fun v23 Sz=>
 True)/\(aP 73 1 [(.int .u64 (.ofNat 0)),(.int .u64 (.ofNat 0))] [(0,2,v21)] Sz fun v24 Sz=>
 kI 73 2 16 v2 v24 Sz fun v25 Sz=>
 bY 1 t14 t15 fun v26=>
 rH 1 v26 v25 Sz fun Sz=>
 aG PP .add 3 t69 (.int .i64 (.ofNat 1)) fun v27=>
 fF x m1 m0 t3 t10 t11 t14 t15 t63 t64 t68 v27 Sz K))))))) (aG PP .add 3 t64 (.int .i64 (.ofNat 1)) fun v28=>
 dS x m0 t3 t10 t11 t14 t63 v28 Sz K)
theorem mF (x:VE) (m1:Nat) (m0:Nat) (t3 t10 t11 t14 t15 t63 t64 t68 t69:V) (Sz:Hp) (K:KV):fF x (m1+1) m0 t3 t10 t11 t14 t15 t63 t64 t68 t69 Sz K=gZ x m1 m0 t3 t10 t11 t14 t15 t63 t64 t68 t69 Sz K:=by kernel_rfl
noncomputable def HQ (x:VE) (a0:V) (Sz:Hp) (K:KV):Prop:=
 jO 25 a0 Sz fun v0 Sz=>
 bI 7 v0 fun v1=>
 aS v1 Sz fun v2 Sz=>
 bI 8 v0 fun v3=>
 aS v3 Sz fun v4 Sz=>
 aG PP .add 3 v4 (.int .i64 (.ofNat 1)) fun v5=>
 aG PP .mul 3 v2 v5 fun v6=>
 bC v6 Sz K
theorem VW (x:VE) (a0:V) (Sz:Hp) (K:KV):lG PP bH qN x [a0] Sz K=HQ x a0 Sz K:=by kernel_rfl
noncomputable def jQ (x:VE) (m:Nat) (t2 t3 t9 t14 t15:V) (Sz:Hp) (K:KV):Prop:=eT PP bH mC x [.r,.r,.l,.r,.d] m [] [t2,t3,t9,t14,t15] Sz K
noncomputable def KD (x:VE) (a0 a1 a2 a3:V) (Sz:Hp) (K:KV):Prop:=
 aG PP .rem 22 a0 a2 fun v0=>
 aP 22 1 [(.int .u64 (.ofNat 0))] [(0,1,v0)] Sz fun v1 Sz=>
 jQ x x.most a2 a3 v1 a1 (.int .i64 (.ofNat 0)) Sz K
theorem XU (x:VE) (a0 a1 a2 a3:V) (Sz:Hp) (K:KV):lG PP bH mC x [a0,a1,a2,a3] Sz K=KD x a0 a1 a2 a3 Sz K:=by kernel_rfl
noncomputable def qO (x:VE) (m0:Nat) (t2 t3 t9 t14 t15:V) (Sz:Hp) (K:KV):Prop:=
 cT Sz fun Sz=>
 aG PP .lss 3 t15 t14 fun v0=>
 iG v0 (rL x t3 [t2] Sz fun v1 Sz=>
 aP 22 1 [(.int .u64 (.ofNat 0))] [(0,1,v1)] Sz fun v2 Sz=>
 kI 22 1 8 t9 v2 Sz fun v3 Sz=>
 aG PP .add 3 t15 (.int .i64 (.ofNat 1)) fun v4=>
 jQ x m0 t2 t3 v3 t14 v4 Sz K) (bC t9 Sz K)
theorem xJ (x:VE) (m0:Nat) (t2 t3 t9 t14 t15:V) (Sz:Hp) (K:KV):jQ x (m0+1) t2 t3 t9 t14 t15 Sz K=qO x m0 t2 t3 t9 t14 t15 Sz K:=by kernel_rfl
noncomputable def FF (x:VE) (a0 a1 a2:V) (Sz:Hp) (K:KV):Prop:=
 jO 25 a0 Sz fun v0 Sz=>
 eU [(.slice none 0 0)] 31 Sz fun v1 Sz=>
 x.call fV [a1,a2] Sz fun v2 Sz=>
 zT x v2 [3,7] [v0,v1] 36 (tL PP aK [.r,.r,.l,.r,.d]) (tO PP aK [.r,.r,.l,.r,.d]) (qD PP aK [.r,.r,.l,.r,.d]) Sz fun pe Sz=>
 HV pe (aS v1 Sz fun v4 Sz=>
 bC v4 Sz K) (bC .nil Sz K) (fun v3=>OC v3 0 (aS v1 Sz fun v5 Sz=>
 bC v5 Sz K) (False))
theorem SC (x:VE) (a0 a1 a2:V) (Sz:Hp) (K:KV):lG PP bH aK x [a0,a1,a2] Sz K=FF x a0 a1 a2 Sz K:=by kernel_rfl
noncomputable def vB (x:VE) (l:Nat) (t3 t7 a0 a1:V) (Sz:Hp) (K:KV):Prop:=
 KG l Sz fun Sz=>
 eU [(.slice none 0 0)] 32 Sz fun v0 Sz=>
 x.call jI [a0,a1] Sz fun v1 Sz=>
 EH l Sz (zT x v1 [3,10] [t3,v0] 36 (tL PP aK [.r,.r,.l,.r,.d,.d,.d,.r,.l,.r,.d]) (tO PP aK [.r,.r,.l,.r,.d,.d,.d,.r,.l,.r,.d]) (qD PP aK [.r,.r,.l,.r,.d,.d,.d,.r,.l,.r,.d]) Sz fun pe Sz=>
 HV pe (aS t7 Sz fun v3 Sz=>
 aS v0 Sz fun v4 Sz=>
 aP 32 1 [(.slice none 0 0)] [(0,1,v4)] Sz fun v5 Sz=>
 kI 32 1 24 v3 v5 Sz fun v6 Sz=>
 rH 1 t7 v6 Sz fun Sz=>
 yB l .ready none true Sz K) (yB l .done (some .ret) false Sz K) (fun v2=>OC v2 2 (aS t7 Sz fun v7 Sz=>
 aS v0 Sz fun v8 Sz=>
 aP 32 1 [(.slice none 0 0)] [(0,1,v8)] Sz fun v9 Sz=>
 kI 32 1 24 v7 v9 Sz fun v10 Sz=>
 rH 1 t7 v10 Sz fun Sz=>
 yB l .ready none true Sz K) (OC v2 1 (yB l .ready none true Sz K) (yB l .done (some (.exit v2)) false Sz K))))
theorem FT (x:VE) (l:Nat) (t3 t7 a0 a1:V) (Sz:Hp) (K:KV):HW PP bH x 36 (tL PP aK [.r,.r,.l,.r,.d]) (tO PP aK [.r,.r,.l,.r,.d]) (qD PP aK [.r,.r,.l,.r,.d]) l [t3,t7] [a0,a1] Sz K=vB x l t3 t7 a0 a1 Sz K:=by kernel_rfl
theorem FR:[3,7]=JP bH 36 (qD PP aK [.r,.r,.l,.r,.d]):=by kernel_rfl
noncomputable def oU (x:VE) (l:Nat) (t3 t10 a0 a1:V) (Sz:Hp) (K:KV):Prop:=
 KG l Sz fun Sz=>
 aS t10 Sz fun v0 Sz=>
 bF 12 t3 Sz fun v1 Sz=>
 gQ [(.int .u64 (.ofNat 0)),(.int .u64 (.ofNat 0))] [(0,1,a0),(1,1,a1)] fun v2=>
 x.call vA [v1,v2] Sz fun v3 Sz=>
 aS t10 Sz fun v4 _=>
 aL v4 v0 (aS t10 Sz fun v5 _=>
 aL v5 v0 ((aP 22 1 [(.int .u64 (.ofNat 0))] [(0,1,v3)] Sz fun v6 Sz=>
 True)/\(aP 22 1 [(.int .u64 (.ofNat 0))] [(0,1,v3)] Sz fun v7 Sz=>
 kI 22 1 8 v0 v7 Sz fun v8 Sz=>
 rH 1 t10 v8 Sz fun Sz=>
 yB l .ready none true Sz K)))
theorem yM (x:VE) (l:Nat) (t3 t10 a0 a1:V) (Sz:Hp) (K:KV):HW PP bH x 36 (tL PP aK [.r,.r,.l,.r,.d,.d,.d,.r,.l,.r,.d]) (tO PP aK [.r,.r,.l,.r,.d,.d,.d,.r,.l,.r,.d]) (qD PP aK [.r,.r,.l,.r,.d,.d,.d,.r,.l,.r,.d]) l [t3,t10] [a0,a1] Sz K=oU x l t3 t10 a0 a1 Sz K:=by kernel_rfl
theorem yL:[3,10]=JP bH 36 (qD PP aK [.r,.r,.l,.r,.d,.d,.d,.r,.l,.r,.d]):=by kernel_rfl
noncomputable def rC (x:VE) (a0 a1:V) (Sz:Hp) (K:KV):Prop:=
 aV a0 fun v0=>
 aG PP .geq 3 a1 v0 fun v1=>
 iG v1 (bC .nil Sz K) (bY 1 a0 a1 fun v2=>
 aS v2 Sz fun v3 Sz=>
 bC v3 Sz K)
theorem AO (x:VE) (a0 a1:V) (Sz:Hp) (K:KV):lG PP bH fK x [a0,a1] Sz K=rC x a0 a1 Sz K:=by kernel_rfl
noncomputable def oT (x:VE) (a0 a1:V) (Sz:Hp) (K:KV):Prop:=
 jO 31 a0 Sz fun v0 Sz=>
 jO 31 a1 Sz fun v1 Sz=>
 bC (.func cN [] [v0,v1]) Sz K
theorem xS (x:VE) (a0 a1:V) (Sz:Hp) (K:KV):lG PP bH fV x [a0,a1] Sz K=oT x a0 a1 Sz K:=by kernel_rfl
noncomputable def eA (x:VE) (m:Nat) (t0 t1 t2 t9 t10:V) (Sz:Hp) (K:KV):Prop:=eT PP bH cN x [.r,.d] m [] [t0,t1,t2,t9,t10] Sz K
noncomputable def nI (x:VE) (a0 a1 a2:V) (Sz:Hp) (K:KV):Prop:=
 aS a1 Sz fun v0 Sz=>
 aV v0 fun v1=>
 aS a2 Sz fun v2 Sz=>
 aV v2 fun v3=>
 Dg true v1 v3 fun v4=>
 eA x x.most a0 a1 a2 v4 (.int .i64 (.ofNat 0)) Sz K
theorem wB (x:VE) (a0 a1 a2:V) (Sz:Hp) (K:KV):lG PP bH cN x [a0,a1,a2] Sz K=nI x a0 a1 a2 Sz K:=by kernel_rfl
noncomputable def fZ (x:VE) (m0:Nat) (t0 t1 t2 t9 t10:V) (Sz:Hp) (K:KV):Prop:=
 cT Sz fun Sz=>
 aG PP .lss 3 t10 t9 fun v0=>
 iG v0 (aS t1 Sz fun v1 Sz=>
 aS t2 Sz fun v2 Sz=>
 x.call fK [v1,t10] Sz fun v3 Sz=>
 aS t2 Sz fun v4 _=>
 aL v4 v2 (x.call fK [v2,t10] Sz fun v5 Sz=>
 rL x t0 [v3,v5] Sz fun v6 Sz=>
 IP .not v6 fun v7=>
 iG v7 (bC (.tuple []) Sz K) (aG PP .add 3 t10 (.int .i64 (.ofNat 1)) fun v8=>
 eA x m0 t0 t1 t2 t9 v8 Sz K))) (bC (.tuple []) Sz K)
theorem kT (x:VE) (m0:Nat) (t0 t1 t2 t9 t10:V) (Sz:Hp) (K:KV):eA x (m0+1) t0 t1 t2 t9 t10 Sz K=fZ x m0 t0 t1 t2 t9 t10 Sz K:=by kernel_rfl
noncomputable def tF (x:VE) (a0 a1:V) (Sz:Hp) (K:KV):Prop:=
 jO 32 a0 Sz fun v0 Sz=>
 jO 32 a1 Sz fun v1 Sz=>
 bC (.func dQ [] [v0,v1]) Sz K
theorem CW (x:VE) (a0 a1:V) (Sz:Hp) (K:KV):lG PP bH jI x [a0,a1] Sz K=tF x a0 a1 Sz K:=by kernel_rfl
noncomputable def fW (x:VE) (m:Nat) (t0 t1 t2 t9 t10:V) (Sz:Hp) (K:KV):Prop:=eT PP bH dQ x [.r,.d] m [] [t0,t1,t2,t9,t10] Sz K
noncomputable def rD (x:VE) (a0 a1 a2:V) (Sz:Hp) (K:KV):Prop:=
 aS a1 Sz fun v0 Sz=>
 aV v0 fun v1=>
 aS a2 Sz fun v2 Sz=>
 aV v2 fun v3=>
 Dg true v1 v3 fun v4=>
 fW x x.most a0 a1 a2 v4 (.int .i64 (.ofNat 0)) Sz K
theorem AP (x:VE) (a0 a1 a2:V) (Sz:Hp) (K:KV):lG PP bH dQ x [a0,a1,a2] Sz K=rD x a0 a1 a2 Sz K:=by kernel_rfl
noncomputable def iX (x:VE) (m0:Nat) (t0 t1 t2 t9 t10:V) (Sz:Hp) (K:KV):Prop:=
 cT Sz fun Sz=>
 aG PP .lss 3 t10 t9 fun v0=>
 iG v0 (aS t1 Sz fun v1 Sz=>
 aS t2 Sz fun v2 Sz=>
 x.call iW [v1,t10] Sz fun v3 Sz=>
 aS t2 Sz fun v4 _=>
 aL v4 v2 (x.call iW [v2,t10] Sz fun v5 Sz=>
 rL x t0 [v3,v5] Sz fun v6 Sz=>
 IP .not v6 fun v7=>
 iG v7 (bC (.tuple []) Sz K) (aG PP .add 3 t10 (.int .i64 (.ofNat 1)) fun v8=>
 fW x m0 t0 t1 t2 t9 v8 Sz K))) (bC (.tuple []) Sz K)
theorem nW (x:VE) (m0:Nat) (t0 t1 t2 t9 t10:V) (Sz:Hp) (K:KV):fW x (m0+1) t0 t1 t2 t9 t10 Sz K=iX x m0 t0 t1 t2 t9 t10 Sz K:=by kernel_rfl
noncomputable def xI (x:VE) (a0 a1:V) (Sz:Hp) (K:KV):Prop:=
 aV a0 fun v0=>
 aG PP .geq 3 a1 v0 fun v1=>
 iG v1 (bC (.int .u64 (.ofNat 0)) Sz K) (bY 1 a0 a1 fun v2=>
 aS v2 Sz fun v3 Sz=>
 bC v3 Sz K)
theorem HP (x:VE) (a0 a1:V) (Sz:Hp) (K:KV):lG PP bH iW x [a0,a1] Sz K=xI x a0 a1 Sz K:=by kernel_rfl
noncomputable def HN (x:VE) (a0 a1:V) (Sz:Hp) (K:KV):Prop:=
 jO 25 a0 Sz fun v0 Sz=>
 jO 73 a1 Sz fun v1 Sz=>
 bF 12 v0 Sz fun v2 Sz=>
 bF 12 v0 Sz fun v3 Sz=>
 bI 2 v0 fun v4=>
 aS v4 Sz fun v5 Sz=>
 bI 0 v1 fun v6=>
 aS v6 Sz fun v7 Sz=>
 bF 12 v0 Sz fun v8 Sz=>
 bI 3 v0 fun v9=>
 aS v9 Sz fun v10 Sz=>
 bI 1 v1 fun v11=>
 aS v11 Sz fun v12 Sz=>
 x.call rX [v3,v5,v7] Sz fun v13 Sz=>
 aS v11 Sz fun v14 _=>
 aL v14 v12 (aS v9 Sz fun v15 _=>
 aL v15 v10 (bF 12 v0 Sz fun v16 _=>
 aL v16 v8 (bF 12 v0 Sz fun v17 _=>
 aL v17 v2 (x.call rX [v8,v10,v12] Sz fun v18 Sz=>
 bF 12 v0 Sz fun v19 _=>
 aL v19 v2 (bF 12 v0 Sz fun v20 _=>
 aL v20 v2 ((aP 22 2 [(.int .u64 (.ofNat 0))] [(0,1,v13),(1,1,v18)] Sz fun v21 Sz=>
 True)/\(aP 22 2 [(.int .u64 (.ofNat 0))] [(0,1,v13),(1,1,v18)] Sz fun v22 Sz=>
 x.call rY [v2,v22] Sz fun v23 Sz=>
 bC v23 Sz K)))))))
theorem VU (x:VE) (a0 a1:V) (Sz:Hp) (K:KV):lG PP bH vA x [a0,a1] Sz K=HN x a0 a1 Sz K:=by kernel_rfl
noncomputable def KB (x:VE) (a0 a1 a2:V) (Sz:Hp) (K:KV):Prop:=
 jO 25 a0 Sz fun v0 Sz=>
 bI 0 v0 fun v1=>
 aS v1 Sz fun v2 Sz=>
 x.call CI [a1,a2,v2] Sz fun v3 Sz=>
 bC v3 Sz K
theorem XS (x:VE) (a0 a1 a2:V) (Sz:Hp) (K:KV):lG PP bH rX x [a0,a1,a2] Sz K=KB x a0 a1 a2 Sz K:=by kernel_rfl
noncomputable def mR (x:VE) (m:Nat) (t2 t5 t11 t12 t13:V) (Sz:Hp) (K:KV):Prop:=eT PP bH rY x [.r,.r,.l,.r,.d] m [] [t2,t5,t11,t12,t13] Sz K
noncomputable def KC (x:VE) (a0 a1:V) (Sz:Hp) (K:KV):Prop:=
 jO 25 a0 Sz fun v0 Sz=>
 bI 0 v0 fun v1=>
 aS v1 Sz fun v2 Sz=>
 x.call lH [(.int .u64 (.ofNat 1)),(.int .u64 (.ofNat 1)),v2] Sz fun v3 Sz=>
 aV a1 fun v4=>
 mR x x.most v0 v3 a1 v4 (.int .i64 (.ofNat 0)) Sz K
theorem XT (x:VE) (a0 a1:V) (Sz:Hp) (K:KV):lG PP bH rY x [a0,a1] Sz K=KC x a0 a1 Sz K:=by kernel_rfl
noncomputable def qM (x:VE) (m0:Nat) (t2 t5 t11 t12 t13:V) (Sz:Hp) (K:KV):Prop:=
 cT Sz fun Sz=>
 aG PP .lss 3 t13 t12 fun v0=>
 iG v0 (bY 1 t11 t13 fun v1=>
 aS v1 Sz fun v2 Sz=>
 bI 0 t2 fun v3=>
 aS v3 Sz fun v4 Sz=>
 x.call lH [t5,v2,v4] Sz fun v5 Sz=>
 aG PP .add 3 t13 (.int .i64 (.ofNat 1)) fun v6=>
 mR x m0 t2 v5 t11 t12 v6 Sz K) (bC t5 Sz K)
theorem xH (x:VE) (m0:Nat) (t2 t5 t11 t12 t13:V) (Sz:Hp) (K:KV):mR x (m0+1) t2 t5 t11 t12 t13 Sz K=qM x m0 t2 t5 t11 t12 t13 Sz K:=by kernel_rfl
end Go.Am
set_option maxRecDepth 4000
namespace Go.Am
open Go.Proofs.JQ
def pw (g e:Nat):Nat:=JA 64 (1%47) g e 47
def Hu (l:List Nat):Nat:=l.foldl (fun acc y=>acc*y%47) (1*1%47)
def com (S B:Nat):Nat:=Hu [pw 2 S,pw 3 B]
theorem aDc (g e:Nat):pw g e<47:=by
 have:∀(f out a e:Nat),out<47->JA f out a e 47<47:=by
  intro f;induction f with
  | zero=>intro out a e h;exact h
  | succ f ih=>
   intro out a e h;by_cases he:0<e
   ·rw [YZ he]
    refine ih _ _ _ ?_;split
    ·exact Nat.mod_lt _ (by decide)
    ·exact h
   ·have:e=0:=by omega
    subst this;rw [YY];exact h
 exact this 64 _ g e (by decide)
section
variable{M n:Nat}{x:VE}{Sz:Hp}{K:KV}{two:Bool}
theorem jL:(pv two).all jK=true:=rfl
theorem hH:(pv two).length=12:=rfl
theorem aCc:gM rX=none:=rfl
theorem Yq:gM rY=none:=rfl
theorem Yr:gM vA=none:=rfl
theorem Pp (hx:Deep PP bH gM M (n+2) x){g e:Nat} (hg:b64 g) (he:b64 e) (hK:K (nu (pw g e)) Sz):x.call rX [.agg (pv two),nu g,nu e] Sz K:=by
 refine hx.call aCc fun y hy=>?_;rw [XS];unfold KB;refine cO jL fun b hb=>?_;rw [aN,cG (o:=0) upd_same rfl];refine aF8 hy hg he q47 ?_;exact jG (.aH hb) hK
theorem Ss (hx:Deep PP bH gM M (n+1) x){v:V}{l:List Nat}{b:Nat}{S0:Hp} (hle:bE S0 Sz) (h:NV Sz v l) (h64:qB l) (hl:l.length<1000000) (hb:Sz b=some (.row (pv two) 25)) (hK:K (nu (Hu l)) S0):
 ∀(r i m:Nat) (acc:Nat),i+r=l.length->r<m->b64 acc->(l.drop i).foldl (fun acc y=>acc*y%47) acc=Hu l->mR x m (.ptr b 0) (nu acc) v (ni l.length) (ni i) Sz K:=by
 intro r;induction r with
 | zero=>
  intro i m acc hi hm h6 he;obtain⟨m,rfl⟩:=Nat.exists_eq_succ_of_ne_zero (show m≠0 by omega);rw [xH];unfold qM;refine aE ?_;rw [aR,lY (by omega),aZ];rw [List.drop_of_length_le (by omega)]at he;have he:acc=Hu l:=he;rw [he];exact jG hle hK
 | succ r ih=>
  intro i m acc hi hm h6 he;obtain⟨m,rfl⟩:=Nat.exists_eq_succ_of_ne_zero (show m≠0 by omega);rw [xH];unfold qM;refine aE ?_;have hlt:i<l.length:=by omega
  obtain⟨p,hp,hld⟩:=h.at (i:=i) (List.getElem?_eq_getElem hlt);rw [aR,AZ hlt,cU,hp,hld Sz (.refl Sz),aN,cG hb rfl];refine HG hx h6 (h64 _ (List.getElem_mem hlt)) q47 ?_;rw [aX (by omega)];refine ih (i+1) m _ (by omega) (by omega) (qS q47) ?_;rw [List.drop_eq_getElem_cons hlt]at he;exact he
theorem Ys (hM:1000000<M) (hx:Deep PP bH gM M (n+2) x){v:V}{l:List Nat} (h:NV Sz v l) (h64:qB l) (hl:l.length<1000000) (hK:K (nu (Hu l)) Sz):x.call rY [.agg (pv two),v] Sz K:=by
 refine hx.call Yq fun y hy=>?_;rw [XT];unfold KC;refine cO jL fun b hb=>?_;rw [aN,cG (o:=0) upd_same rfl];refine HG hy (by decide) (by decide) q47 ?_;have hle:bE Sz (upd Sz b (.row (pv two) 25)):= .aH hb;rw [(h.up hle).len,hy.most];exact Ss hy hle (h.up hle) h64 hl upd_same hK l.length 0 M _ (by omega) (by omega) (by decide) rfl
theorem uS{a b:Nat} (hk:∀j,Sz j=none->K (.own j 0 2 2) (upd Sz j (.row (gA [a,b]) 22))):aP 22 2 [(.int .u64 (.ofNat 0))] [(0,1,nu a),(1,1,nu b)] Sz K:=⟨rfl,by simp,rfl,by simp [splice],fun j hj=>hk j hj⟩
theorem Yt (hM:1000000<M) (hx:Deep PP bH gM M (n+3) x){S B:Nat} (hS:b64 S) (hB:b64 B) (hK:K (nu (com S B)) Sz):x.call vA [.agg (pv two),.agg [nu S,nu B]] Sz K:=by
 refine hx.call Yr fun y hy=>?_;rw [VU];unfold HN;refine cO jL fun b hb=>?_;have le1:bE Sz (upd Sz b (.row (pv two) 25)):= .aH hb;have rb:upd Sz b (.row (pv two) 25) b=some (.row (pv two) 25):=upd_same;generalize upd Sz b (.row (pv two) 25)=S1 at le1 rb;refine cO rfl fun c hc=>?_;have gP:bE S1 (upd S1 c (.row [nu S,nu B] 73)):= .aH hc;have rc:upd S1 c (.row [nu S,nu B] 73) c=some (.row [nu S,nu B] 73):=upd_same;generalize upd S1 c (.row [nu S,nu B] 73)=S2 at gP rc;have rb:=gP _ _ rb;have le:=le1.trans gP
 have all:∀{K:KV},bF 12 (.ptr b 0) S2 K=K (.agg (pv two)) S2:=fun {K}=>by
  unfold bF;simp only [rb];rw [cF (by rw [hH];omega),List.drop_zero,List.take_of_length_le (by rw [hH];omega)]
 have same:∀{p:Prop},aL (.agg (pv two)) (.agg (pv two)) p=p:=fun {p}=>bQ rfl;have l2:∀{K:KV},aS (.ptr b 2) S2 K=K (nu 2) S2:=cG rb rfl;have l3:∀{K:KV},aS (.ptr b 3) S2 K=K (nu 3) S2:=cG rb rfl;have l0:∀{K:KV},aS (.ptr c 0) S2 K=K (nu S) S2:=cG rc rfl;have l1:∀{K:KV},aS (.ptr c 1) S2 K=K (nu B) S2:=cG rc rfl;simp only [all,aN,l2,l3,l0,l1];refine Pp hy (by decide) hS ?_;simp only [all,l3,l1,same,bO];refine Pp hy (by decide) hB ?_;simp only [all,same];have p1:=aDc 2 S;have p2:=aDc 3 B;refine⟨uS fun j hj=>trivial,uS fun j hj=>?_⟩;refine Ys hM hy (.own (l:=[pw 2 S,pw 3 B]) upd_same (fun i z h=>by rw [Nat.zero_add];exact rG h) (by rw [cY];simp)) (fun z hz=>?_) (by simp) ?_
 ·rcases List.mem_cons.1 hz with rfl | hz
  ·unfold b64;omega
  ·rcases List.mem_cons.1 hz with rfl | hz
   ·unfold b64;omega
   ·cases hz
 ·exact jG (le.trans (.aH hj)) hK
end
inductive NL (S0 Sz:Hp):V->List Nat->Prop
 | val {O:Tag} {l:List Nat}:NL S0 Sz (.list O (tV l) l.length) l
 | made {w:V} {l:List Nat} (h:MN S0 Sz w l):NL S0 Sz w l
section
variable{S0 Sz S':Hp}{w v:V}{l:List Nat}{ls:List (List Nat)}
theorem NL.nv (h:NL S0 Sz w l):NV Sz w l:=by cases h with | val=>exact .list | made h=>exact h.nv
theorem NL.Ox (h:NL S0 Sz w l):QV S0 Sz w (.list (tV l) l.length):=by cases h with | val=>exact .list | made h=>exact h.Ox
theorem NL.one (h:NL S0 Sz w l):jK w=true:=by cases h with | val=>rfl | made h=>cases h<;>rfl
theorem NL.but{i:Nat} (h:NL S0 Sz w l) (hs:∀j o,j≠i->Sz j=some o->S' j=some o) (h1:∀vs m,Sz i≠some (.dF vs 22 m)) (h2:∀vs,Sz i≠some (.row vs 22)):NL S0 S' w l:=by
 cases h with
 | val=>exact .val
 | made h=>
  refine .made ?_;cases h with
  | nil=>exact .nil
  | acc h0 h=>exact .acc h0 (hs _ _ (fun c=>by rw [c]at h;exact h1 _ _ h) h)
  | own h0 h=>exact .own h0 (hs _ _ (fun c=>by rw [c]at h;exact h2 _ h) h)
theorem NL.up (h:NL S0 Sz w l) (hle:bE Sz S'):NL S0 S' w l:=by cases h with | val=>exact .val | made h=>exact .made (h.up hle)
inductive ML (S0 Sz:Hp):V->List (List Nat)->Prop
 | nil:ML S0 Sz .nil []
 | acc {i:Nat} {vs:List V} {ls:List (List Nat)} (h0:S0 i=none) (h:Sz i=some (.dF vs 32 ls.length)) (hl:vs.length=ls.length) (hv:∀(j:Nat) (l:List Nat),ls[j]? =some l->∃w,vs[j]? =some w/\NL S0 Sz w l):ML S0 Sz (.acc i ls.length) ls
theorem ML.len (h:ML S0 Sz v ls){K:V->Prop}:aV v K=K (ni ls.length):=by cases h<;>rfl
theorem ML.up (h:ML S0 Sz v ls) (hle:bE Sz S'):ML S0 S' v ls:=by
 cases h with
 | nil=>exact .nil
 | acc h0 h hl hv=>exact .acc h0 (hle _ _ h) hl fun j l e=>by obtain⟨w,a,b⟩:=hv j l e;exact⟨w,a,b.up hle⟩
theorem ML.at (h:ML S0 Sz v ls){i:Nat} (hi:ls[i]? =some l):∃p w,(∀(j:IntKind) (K:V->Prop),bY 1 v (.int j (.ofNat i)) K=K p)/\(∀S',bE Sz S'->∀K:KV,aS p S' K=K w S')/\NL S0 Sz w l:=by
 have hlt:i<ls.length:=(List.getElem?_eq_some_iff.1 hi).1;cases h with
 | nil=>cases hi
 | @acc b vs _ h0 h hl hv=>
  obtain⟨w,a,q⟩:=hv i l hi;refine⟨.lX b ls.length (i*1),w,fun j K=>wX hlt,fun S' hle K=>?_,q⟩;rw [Nat.mul_one];unfold aS;simp only [hle _ _ h,bR a,true_and]
theorem ML.Ox (h:ML S0 Sz v ls):QV S0 Sz v (.list (ls.map fun l=> .list (tV l) l.length) ls.length):=by
 cases h with
 | nil=>exact .nil
 | acc h0 h hl hv=>
  refine .acc h h0 (by rw [hl,List.length_map]) fun j v d a b=>?_;rw [List.getElem?_map]at b;cases hq:ls[j]? with
  | none=>rw [hq]at b;cases b
  | some l=>
   rw [hq]at b;injection b with b;subst b;obtain⟨w,a2,q⟩:=hv j l hq;rw [a]at a2;injection a2 with a2;subst a2;exact q.Ox
theorem ML.app (h:ML S0 Sz v ls) (hs:bE S0 Sz) (hl:ls.length<=1000000) (hw:NL S0 Sz w l){K:KV}
 (hk:∀u S',bE S0 S'->(∀j o,Sz j=some o->(∀vs m,o≠ .dF vs 32 m)->S' j=some o)->ML S0 S' u (ls++[l])->jK u=true->K u S'):aP 32 1 [(.slice none 0 0)] [(0,1,w)] Sz fun v2 Sz=>kI 32 1 24 v v2 Sz K:=by
 have hc:∀{p:List V->Prop},oY w p=p [w]:=fun {p}=>by
  have:=hw.one;cases w<;>first | rfl | cases this
 have hz:AK [(.slice none 0 0)]=some [.nil]:=rfl;unfold aP mY;rw [hz];show jE [(0,1,w)] [.nil] _;unfold jE;rw [hc];refine⟨rfl,by simp,?_⟩;unfold jE;intro j hj;have hj0:S0 j=none:=hs.none hj;have hs1:bE Sz (upd Sz j (.row [w] 32)):= .aH hj;show kI 32 1 24 v (.own j 0 1 1) (upd Sz j (.row (splice 0 [w] [.nil]) 32)) K;have e:splice 0 [w] [V.nil]=[w]:=rfl;rw [e];refine uO (m:=1) upd_same rfl ?_;refine⟨by simp [hw.one],?_⟩;have hwj:=hw.up hs1;cases h with
 | nil=>
  refine⟨by decide,fun i hi=>?_⟩;have hs2:bE (upd Sz j (.row [w] 32)) (upd (upd Sz j (.row [w] 32)) i (.dF [w] 32 1)):= .aH hi;refine hk _ _ ((hs.trans hs1).trans hs2) (fun q o e _=>hs2 _ _ (hs1 _ _ e)) (.acc (ls:=[l]) ((hs.trans hs1).none hi) upd_same rfl fun q l' e=>?_) rfl
  match q,e with
  | 0,e=>injection e with e;subst e;exact⟨w,rfl,hwj.up hs2⟩
  | q+1,e=>cases e
 | @acc i vs _ h0 h hl2 hv=>
  have hne:j≠i:=fun e=>by rw [e,h]at hj;cases hj
  have h':upd Sz j (.row [w] 32) i=some (.dF vs 32 ls.length):=by rw [aB (Ne.symm hne)];exact h
  simp only [h'];refine⟨trivial,trivial,by omega,by omega,?_⟩;have el:ls.length+(0+1)=(ls++[l]).length:=by simp
  rw [el];have hs2:∀q o,q≠i->Sz q=some o->upd (upd Sz j (.row [w] 32)) i (.dF (vs++[w]) 32 (ls++[l]).length) q=some o:=fun q o hq e=>by rw [aB hq];exact hs1 _ _ e
  have hn1:∀vs m,Sz i≠some (.dF vs 22 m):=fun vs m c=>by rw [h]at c;cases c
  have hn2:∀vs,Sz i≠some (.row vs 22):=fun vs c=>by rw [h]at c;cases c
  refine hk _ _ (fun q o e=>hs2 q o (fun c=>by rw [c,h0]at e;cases e) (hs _ _ e)) (fun q o e hno=>hs2 q o (fun c=>by rw [c,h]at e;injection e with e;exact hno _ _ e.symm) e) (.acc h0 upd_same (by simp [hl2]) fun q l' e=>?_) rfl;rcases Nat.lt_or_ge q ls.length with hq | hq
  ·rw [List.getElem?_append_left hq]at e
   obtain⟨u,a,b⟩:=hv q l' e;exact⟨u,by rw [List.getElem?_append_left (by omega)];exact a,b.but hs2 hn1 hn2⟩
  ·have hq':q=ls.length:=by
    have:=(List.getElem?_eq_some_iff.1 e).1;simp at this;omega
   subst hq';simp at e;subst e;exact⟨w,by rw [List.getElem?_append_right (by omega),hl2];simp,hw.but hs2 hn1 hn2⟩
end
end Go.Am
set_option maxRecDepth 4000
namespace Go.Am
theorem NL.same{S0 Sz:Hp}{v:V}{l:List Nat} (h:NL S0 Sz v l):uP v=true:=by
 cases h with
 | val=>rfl
 | made h=>cases h<;>rfl
theorem ML.same{S0 Sz:Hp}{v:V}{l:List (List Nat)} (h:ML S0 Sz v l):uP v=true:=by cases h<;>rfl
theorem ML.one{S0 Sz:Hp}{v:V}{l:List (List Nat)} (h:ML S0 Sz v l):jK v=true:=by cases h<;>rfl
inductive RL (S0 Sz:Hp):V->List (List Nat)->Prop
 | ml {v:V} {ls:List (List Nat)} (h:ML S0 Sz v ls):RL S0 Sz v ls
 | val {t:Tag} {ls:List (List Nat)}:RL S0 Sz (.list t (ls.map fun l=> .list (tV l) l.length) ls.length) ls
theorem RL.same{S0 Sz:Hp}{v:V}{l:List (List Nat)} (h:RL S0 Sz v l):uP v=true:=by cases h with | ml h=>exact h.same | val=>rfl
theorem RL.one{S0 Sz:Hp}{v:V}{l:List (List Nat)} (h:RL S0 Sz v l):jK v=true:=by cases h with | ml h=>exact h.one | val=>rfl
theorem RL.len{S0 Sz:Hp}{v:V}{l:List (List Nat)} (h:RL S0 Sz v l){K:V->Prop}:aV v K=K (ni l.length):=by cases h with | ml h=>exact h.len | val=>rfl
theorem RL.up{S0 Sz S':Hp}{v:V}{l:List (List Nat)} (h:RL S0 Sz v l) (hle:bE Sz S'):RL S0 S' v l:=by cases h with | ml h=>exact .ml (h.up hle) | val=>exact .val
theorem RL.at{S0 Sz:Hp}{v:V}{ls:List (List Nat)}{l:List Nat} (h:RL S0 Sz v ls){i:Nat} (hi:ls[i]? =some l):∃p w,(∀(j:IntKind) (K:V->Prop),bY 1 v (.int j (.ofNat i)) K=K p)/\(∀S',bE Sz S'->∀K:KV,aS p S' K=K w S')/\NL S0 Sz w l:=by
 cases h with
 | ml h=>exact h.at hi
 | @val t _=>
  have hlt:i<ls.length:=(List.getElem?_eq_some_iff.1 hi).1;refine⟨.nP t (ls.map fun l=> .list (tV l) l.length) (i*1),.list (.sub t (i*1)) (tV l) l.length,fun j K=>sN hlt,fun S' hle K=>?_,.val⟩;rw [Nat.mul_one,uN];have e:(ls.map fun l=>Dt.list (tV l) l.length)[i]? =some (.list (tV l) l.length):=by rw [List.getElem?_map,hi];rfl
  rw [bR e];rfl
theorem MN.base{S0 S1 Sz:Hp}{w:V}{l:List Nat} (h:MN S1 Sz w l) (hle:bE S0 S1):MN S0 Sz w l:=by
 cases h with
 | nil=>exact .nil
 | acc h0 h=>exact .acc (hle.none h0) h
 | own h0 h=>exact .own (hle.none h0) h
theorem MN.same{S0 Sz:Hp}{w:V}{l:List Nat} (h:MN S0 Sz w l):uP w=true:=by cases h<;>rfl
theorem MN.one{S0 Sz:Hp}{w:V}{l:List Nat} (h:MN S0 Sz w l):jK w=true:=by cases h<;>rfl
theorem box1{t:TypeId}{v:V}{Sz:Hp}{K:KV} (h1:jK v=true) (hk:∀i,Sz i=none->K (.ptr i 0) (upd Sz i (.row [v] t))):jO t v Sz K:=by
 unfold jO;have hc:∀{p:List V->Prop},oY v p=p [v]:=fun {p}=>by cases v<;>first | rfl | cases h1
 rw [hc];exact hk
theorem Ln{a:Nat}{K:V->Prop}:Dg true (ni a) (ni a) K=K (ni a):=by
 show K (.int .i64 (max (Int.ofNat a) (Int.ofNat a)))=_;rw [Int.max_self]
section
variable{M n:Nat}{x:VE}{Sz S0:Hp}{K:KV}
theorem aGn:gM iW=none:=rfl
theorem aGo:gM fK=none:=rfl
theorem aHF:gM jI=none:=rfl
theorem aHG:gM fV=none:=rfl
theorem aGp:gM dQ=none:=rfl
theorem aGq:gM cN=none:=rfl
theorem aEJ:gM aK=none:=rfl
theorem aDd (hx:Deep PP bH gM M (n+1) x){v:V}{l:List Nat} (h:NV Sz v l){i:Nat} (hi:i<l.length) (hK:K (nu l[i]) Sz):x.call iW [v,ni i] Sz K:=by
 refine hx.call aGn fun y hy=>?_;rw [HP];unfold xI;obtain⟨p,hp,hld⟩:=h.at (i:=i) (List.getElem?_eq_getElem hi);rw [h.len,HL,decide_eq_false (by omega),aZ,hp,hld Sz (.refl Sz)];exact aJ hK
theorem aDe (hx:Deep PP bH gM M (n+1) x){v:V}{ls:List (List Nat)} (h:RL S0 Sz v ls){i:Nat} (hi:i<ls.length) (hK:∀w,NL S0 Sz w ls[i]->K w Sz):x.call fK [v,ni i] Sz K:=by
 refine hx.call aGo fun y hy=>?_;rw [AO];unfold rC;obtain⟨p,w,hp,hld,hw⟩:=h.at (i:=i) (List.getElem?_eq_getElem hi);rw [h.len,HL,decide_eq_false (by omega),aZ,hp,hld Sz (.refl Sz)];exact aJ (hK w hw)
theorem Yu (hx:Deep PP bH gM M (n+1) x){v w:V} (h1:jK v=true) (h2:jK w=true) (hK:∀b1 b2 S',Sz b1=none->Sz b2=none->b1≠b2->bE Sz S'->S' b1=some (.row [v] 32)->S' b2=some (.row [w] 32)->K (.func dQ [] [.ptr b1 0,.ptr b2 0]) S'):x.call jI [v,w] Sz K:=by
 refine hx.call aHF fun y hy=>?_;rw [CW];unfold tF;refine box1 h1 fun b1 hb1=>box1 h2 fun b2 hb2=>aJ ?_;have le1:bE Sz (upd Sz b1 (.row [v] 32)):= .aH hb1;have hne:b1≠b2:=fun e=>by rw [<-e,upd_same]at hb2;cases hb2
 exact hK b1 b2 _ hb1 (le1.none hb2) hne (le1.trans (.aH hb2)) (by rw [aB hne];exact upd_same) upd_same
theorem Yv (hx:Deep PP bH gM M (n+1) x){v w:V} (h1:jK v=true) (h2:jK w=true) (hK:∀b1 b2 S',Sz b1=none->Sz b2=none->b1≠b2->bE Sz S'->S' b1=some (.row [v] 31)->S' b2=some (.row [w] 31)->K (.func cN [] [.ptr b1 0,.ptr b2 0]) S'):x.call fV [v,w] Sz K:=by
 refine hx.call aHG fun y hy=>?_;rw [xS];unfold oT;refine box1 h1 fun b1 hb1=>box1 h2 fun b2 hb2=>aJ ?_;have le1:bE Sz (upd Sz b1 (.row [v] 31)):= .aH hb1;have hne:b1≠b2:=fun e=>by rw [<-e,upd_same]at hb2;cases hb2
 exact hK b1 b2 _ hb1 (le1.none hb2) hne (le1.trans (.aH hb2)) (by rw [aB hne];exact upd_same) upd_same
theorem Yw (hM:1000000<M) (hx:Deep PP bH gM M (n+3) x){l b1 b2:Nat}{va vb:V}{a b:List Nat} (hlen:b.length=a.length) (hl:a.length<1000000){Inv:Nat->Hp->Prop} (hI:∀i Sz,Inv i Sz->Sz b1=some (.row [va] 32)/\Sz b2=some (.row [vb] 32)/\NV Sz va a/\NV Sz vb b) (hv:uP vb=true)
 (step:∀(y:VE),Deep PP bH gM M (n+2) y->∀(i:Nat) (Sz:Hp) (h1:i<a.length) (h2:i<b.length) (K:KV),Inv i Sz->(∀S',Inv (i+1) S'->K (.bool true) S')->y.R l [nu a[i],nu b[i]] Sz K) (h0:Inv 0 Sz) (hK:∀Sz,Inv a.length Sz->K (.tuple []) Sz):x.call dQ [.yield l,.ptr b1 0,.ptr b2 0] Sz K:=by
 refine hx.call aGp fun y hy=>?_;rw [AP];unfold rD;obtain⟨q1,q2,q3,q4⟩:=hI 0 Sz h0;rw [cG q1 rfl,q3.len,cG q2 rfl,q4.len,hlen,Ln,hy.most]
 have:∀(r i m:Nat) (Sz:Hp),i+r=a.length->r<m->Inv i Sz->fW y m (.yield l) (.ptr b1 0) (.ptr b2 0) (ni a.length) (ni i) Sz K:=by
  intro r;induction r with
  | zero=>
   intro i m Sz hi hm h;obtain⟨m,rfl⟩:=Nat.exists_eq_succ_of_ne_zero (show m≠0 by omega);rw [nW];unfold iX;refine aE ?_;rw [aR,lY (by omega),aZ];have e:i=a.length:=by omega
   subst e;exact aJ (hK Sz h)
  | succ r ih=>
   intro i m Sz hi hm h;obtain⟨m,rfl⟩:=Nat.exists_eq_succ_of_ne_zero (show m≠0 by omega);rw [nW];unfold iX;refine aE ?_;obtain⟨q1,q2,q3,q4⟩:=hI i Sz h;rw [aR,AZ (by omega),cU,cG q1 rfl,cG q2 rfl];refine aDd hy q3 (show i<a.length by omega) ?_;rw [cG q2 rfl,bQ hv];refine aDd hy q4 (show i<b.length by omega) ?_;refine step y hy i Sz _ _ _ h fun S' h'=>?_;rw [jV,Bool.not_true,aZ,aX (by omega)];exact ih (i+1) m S' (by omega) (by omega) h'
 exact this a.length 0 M Sz (by omega) (by omega) h0
theorem Yx (hM:1000000<M) (hx:Deep PP bH gM M (n+3) x){l b1 b2:Nat}{va vb:V}{a b:List (List Nat)} (hlen:b.length=a.length) (hl:a.length<1000000){Inv:Nat->Hp->Prop}{Oa:Hp} (hI:∀i Sz,Inv i Sz->Sz b1=some (.row [va] 31)/\Sz b2=some (.row [vb] 31)/\RL Oa Sz va a/\RL Oa Sz vb b)
 (step:∀(y:VE),Deep PP bH gM M (n+2) y->∀(i:Nat) (Sz:Hp) (h1:i<a.length) (h2:i<b.length) (u w:V) (K:KV),Inv i Sz->NL Oa Sz u a[i]->NL Oa Sz w b[i]->(∀S',Inv (i+1) S'->K (.bool true) S')->y.R l [u,w] Sz K) (h0:Inv 0 Sz) (hK:∀Sz,Inv a.length Sz->K (.tuple []) Sz):x.call cN [.yield l,.ptr b1 0,.ptr b2 0] Sz K:=by
 refine hx.call aGq fun y hy=>?_;rw [wB];unfold nI;obtain⟨q1,q2,q3,q4⟩:=hI 0 Sz h0;rw [cG q1 rfl,q3.len,cG q2 rfl,q4.len,hlen,Ln,hy.most]
 have:∀(r i m:Nat) (Sz:Hp),i+r=a.length->r<m->Inv i Sz->eA y m (.yield l) (.ptr b1 0) (.ptr b2 0) (ni a.length) (ni i) Sz K:=by
  intro r;induction r with
  | zero=>
   intro i m Sz hi hm h;obtain⟨m,rfl⟩:=Nat.exists_eq_succ_of_ne_zero (show m≠0 by omega);rw [kT];unfold fZ;refine aE ?_;rw [aR,lY (by omega),aZ];have e:i=a.length:=by omega
   subst e;exact aJ (hK Sz h)
  | succ r ih=>
   intro i m Sz hi hm h;obtain⟨m,rfl⟩:=Nat.exists_eq_succ_of_ne_zero (show m≠0 by omega);rw [kT];unfold fZ;refine aE ?_;obtain⟨q1,q2,q3,q4⟩:=hI i Sz h;rw [aR,AZ (by omega),cU,cG q1 rfl,cG q2 rfl];refine aDe hy q3 (show i<a.length by omega) fun u hu=>?_;rw [cG q2 rfl,bQ q4.same];refine aDe hy q4 (show i<b.length by omega) fun w hw=>?_;refine step y hy i Sz (by omega) (by omega) u w _ h hu hw fun S' h'=>?_;rw [jV,Bool.not_true,aZ,aX (by omega)];exact ih (i+1) m S' (by omega) (by omega) h'
 exact this a.length 0 M Sz (by omega) (by omega) h0
end
def jX (f r:List Nat):List Nat:=List.zipWith com f r
def dW (fs rs:List (List Nat)):List (List Nat):=List.zipWith jX fs rs
section
variable{M n:Nat}{x:VE}{Sz S0:Hp}{K:KV}{two:Bool}
noncomputable def Hv (a b:Nat) (st:LoopState):Ob:= .loop [3,7] [.ptr a 0,.ptr b 0] 36 (tL PP aK [.r,.r,.l,.r,.d]) (tO PP aK [.r,.r,.l,.r,.d]) (qD PP aK [.r,.r,.l,.r,.d]) st none
noncomputable def Su (a b:Nat) (st:LoopState):Ob:= .loop [3,10] [.ptr a 0,.ptr b 0] 36 (tL PP aK [.r,.r,.l,.r,.d,.d,.d,.r,.l,.r,.d]) (tO PP aK [.r,.r,.l,.r,.d,.d,.d,.r,.l,.r,.d]) (qD PP aK [.r,.r,.l,.r,.d,.d,.d,.r,.l,.r,.d]) st none
theorem pL{S1 Sz:Hp}{i:Nat}{o:Ob} (h:bE S1 Sz) (h0:S1 i=none):bE S1 (upd Sz i o):=fun q p e=>by rw [aB (fun c=>by rw [c,h0]at e;cases e)];exact h q p e
structure aCd (S1:Hp) (bv l2 b3 b4 bp:Nat) (fa fb:V) (f r:List Nat) (i:Nat) (Sz:Hp):Prop where
 le:bE S1 Sz
 n1:S1 bv=none
 n2:S1 l2=none
 u:∃u,Sz bv=some (.row [u] 32)/\MN S1 Sz u ((jX f r).take i)
 lo:Sz l2=some (Su bp bv .ready)
 r3:Sz b3=some (.row [fa] 32)
 r4:Sz b4=some (.row [fb] 32)
 d1:bv≠l2
 d2:bv≠b3
 d3:bv≠b4
 d4:l2≠b3
 d5:l2≠b4
theorem MN.set{S1 Sz:Hp}{u:V}{l:List Nat} (h:MN S1 Sz u l){i:Nat}{o p:Ob} (hi:Sz i=some p) (h1:∀vs m,p≠ .dF vs 22 m) (h2:∀vs,p≠ .row vs 22):MN S1 (upd Sz i o) u l:=by
 cases h with
 | nil=>exact .nil
 | acc h0 h=>exact .acc h0 (by rw [aB (fun c=>by rw [c,hi]at h;injection h with h;exact h1 _ _ h)];exact h)
 | own h0 h=>exact .own h0 (by rw [aB (fun c=>by rw [c,hi]at h;injection h with h;exact h2 _ h)];exact h)
theorem Hw{f r:List Nat}{i:Nat} (h1:i<f.length) (h2:i<r.length):(jX f r).take (i+1)=(jX f r).take i++[com f[i] r[i]]:=by
 have hl:i<(List.zipWith com f r).length:=by rw [List.length_zipWith];omega
 show(List.zipWith com f r).take (i+1)=(List.zipWith com f r).take i++[com f[i] r[i]];rw [List.take_add_one,List.getElem?_eq_getElem hl,List.getElem_zipWith];rfl
theorem inner_step (hM:1000000<M) (hx:Deep PP bH gM M (n+5) x){S1:Hp}{bv l2 b3 b4 bp:Nat}{fa fb:V}{f r:List Nat} (hf:qB f) (hr:qB r) (hfl:f.length<100000) (hbp:S1 bp=some (.row (pv two) 25)){i:Nat}{Sz:Hp} (h1:i<f.length) (h2:i<r.length){K:KV} (h:aCd S1 bv l2 b3 b4 bp fa fb f r i Sz)
 (hK:∀S',aCd S1 bv l2 b3 b4 bp fa fb f r (i+1) S'->K (.bool true) S'):x.R l2 [nu f[i],nu r[i]] Sz K:=by
 refine hx.round fun y hy=>?_;refine CO (st:= .ready) (pe:=none) h.lo yL ?_;rw [yM];unfold oU;refine HH h.lo ?_;obtain⟨u,hu,mu⟩:=h.u;have hbz:upd Sz l2 (.loop [3,10] [.ptr bp 0,.ptr bv 0] 36 (tL PP aK [.r,.r,.l,.r,.d,.d,.d,.r,.l,.r,.d]) (tO PP aK [.r,.r,.l,.r,.d,.d,.d,.r,.l,.r,.d]) (qD PP aK [.r,.r,.l,.r,.d,.d,.d,.r,.l,.r,.d]) .busy none)=upd Sz l2 (Su bp bv .busy):=rfl;rw [hbz];have k1:bE S1 (upd Sz l2 (Su bp bv .busy)):=pL h.le h.n2;have kl:upd Sz l2 (Su bp bv .busy) l2=some (Su bp bv .busy):=upd_same;have ku:upd Sz l2 (Su bp bv .busy) bv=some (.row [u] 32):=by rw [aB h.d1];exact hu
 have k3:upd Sz l2 (Su bp bv .busy) b3=some (.row [fa] 32):=by rw [aB (Ne.symm h.d4)];exact h.r3
 have k4:upd Sz l2 (Su bp bv .busy) b4=some (.row [fb] 32):=by rw [aB (Ne.symm h.d5)];exact h.r4
 have km:MN S1 (upd Sz l2 (Su bp bv .busy)) u ((jX f r).take i):=mu.set h.lo (fun vs m e=>by cases e) (fun vs e=>by cases e);generalize upd Sz l2 (Su bp bv .busy)=S2 at k1 kl ku k3 k4 km;have rb:=k1 _ _ hbp
 have all:∀{K:KV},bF 12 (.ptr bp 0) S2 K=K (.agg (pv two)) S2:=fun {K}=>by
  unfold bF;simp only [rb];rw [cF (by rw [hH];omega),List.drop_zero,List.take_of_length_le (by rw [hH];omega)]
 have lu:∀{K:KV},aS (.ptr bv 0) S2 K=K u S2:=cG ku rfl;have su:∀{p:Prop},aL u u p=p:=fun {p}=>bQ km.same
 have b1:gQ [(.int .u64 (.ofNat 0)),(.int .u64 (.ofNat 0))] [(0,1,nu f[i]),(1,1,nu r[i])]=fun K:V->Prop=>K (.agg [nu f[i],nu r[i]]):=by
  funext K
  apply propext;constructor
  ·intro hv;exact hv.2.2.2.2
  ·intro hv;exact⟨rfl,by simp,rfl,by simp [splice],hv⟩
 rw [lu,all,b1];refine Yt hM hy (hf _ (List.getElem_mem h1)) (hr _ (List.getElem_mem h2)) ?_;simp only [lu,su];refine⟨⟨rfl,by simp,fun j hj=>trivial⟩,?_⟩;refine km.app k1 (by rw [List.length_take];omega) fun w S3 l3 p3 m3=>?_;rw [<-Hw h1 h2]at m3;have q:∀{j:Nat} {ob:Ob},S2 j=some ob->(∀vs m,ob≠ .dF vs 22 m)->S3 j=some ob:=fun e hno=>p3 _ _ e hno;have u3:=q ku (fun vs m e=>by cases e);rw [EB u3 (by simp) m3.one];have l4:upd S3 bv (.row ([u].set 0 w) 32) l2=some (Su bp bv .busy):=by rw [aB (Ne.symm h.d1)];exact q kl (fun vs m e=>by cases e)
 refine HI l4 (hK _ ⟨pL (pL l3 h.n1) h.n2,h.n1,h.n2,⟨w,by rw [aB h.d1];exact upd_same,?_⟩,upd_same,?_,?_,h.d1,h.d2,h.d3,h.d4,h.d5⟩)
 ·exact(m3.set u3 (fun vs m e=>by cases e) (fun vs e=>by cases e)).set l4 (fun vs m e=>by cases e) (fun vs e=>by cases e)
 ·rw [aB (Ne.symm h.d4),aB (Ne.symm h.d2)];exact q k3 (fun vs m e=>by cases e)
 ·rw [aB (Ne.symm h.d5),aB (Ne.symm h.d3)];exact q k4 (fun vs m e=>by cases e)
end
set_option maxRecDepth 4000
theorem NL.set{S1 Sz:Hp}{u:V}{l:List Nat} (h:NL S1 Sz u l){i:Nat}{o p:Ob} (hi:Sz i=some p) (h1:∀vs m,p≠ .dF vs 22 m) (h2:∀vs,p≠ .row vs 22):NL S1 (upd Sz i o) u l:=by
 cases h with
 | val=>exact .val
 | made h=>exact .made (h.set hi h1 h2)
theorem ML.set{S1 Sz:Hp}{u:V}{l:List (List Nat)} (h:ML S1 Sz u l){i:Nat}{o p:Ob} (hi:Sz i=some p) (h0:∀vs m,p≠ .dF vs 32 m) (h1:∀vs m,p≠ .dF vs 22 m) (h2:∀vs,p≠ .row vs 22):ML S1 (upd Sz i o) u l:=by
 cases h with
 | nil=>exact .nil
 | acc q0 q hl hv=>exact .acc q0 (by rw [aB (fun c=>by rw [c,hi]at q;injection q with q;exact h0 _ _ q)];exact q) hl fun j l e=>by obtain⟨w,a,b⟩:=hv j l e;exact⟨w,a,b.set hi h1 h2⟩
section
variable{M n:Nat}{x:VE}{K:KV}{two:Bool}
structure aCe (SA:Hp) (bp bo b1 b2 l:Nat) (two:Bool) (vf vr:V) (fs rs:List (List Nat)) (i:Nat) (Sz:Hp):Prop where
 le:bE SA Sz
 n1:SA bo=none
 n2:SA l=none
 rp:Sz bp=some (.row (pv two) 25)
 u:∃u,Sz bo=some (.row [u] 31)/\ML SA Sz u ((dW fs rs).take i)
 lo:Sz l=some (Hv bp bo .ready)
 r1:Sz b1=some (.row [vf] 31)
 r2:Sz b2=some (.row [vr] 31)
 d1:bo≠l
 d2:bo≠b1
 d3:bo≠b2
 d4:l≠b1
 d5:l≠b2
 d6:bo≠bp
 d7:l≠bp
theorem Lo{f r:List (List Nat)}{i:Nat} (h1:i<f.length) (h2:i<r.length):(dW f r).take (i+1)=(dW f r).take i++[jX f[i] r[i]]:=by
 have hl:i<(List.zipWith jX f r).length:=by rw [List.length_zipWith];omega
 show(List.zipWith jX f r).take (i+1)=(List.zipWith jX f r).take i++[jX f[i] r[i]];rw [List.take_add_one,List.getElem?_eq_getElem hl,List.getElem_zipWith];rfl
theorem ne_of{Sz:Hp}{i j:Nat}{o:Ob} (h1:Sz i=none) (h2:Sz j=some o):i≠j:=fun e=>by rw [e,h2]at h1;cases h1
theorem Lp (hM:1000000<M) (hx:Deep PP bH gM M (n+10) x){SA O:Hp}{bp bo b1 b2 l:Nat}{vf vr:V}{fs rs:List (List Nat)} (hf:∀q∈fs,qB q) (hr:∀q∈rs,qB q) (hfl:∀q∈fs,q.length<100000) (hsl:fs.length<100000){i:Nat}{Sz:Hp} (h1:i<fs.length) (h2:i<rs.length) (heq:rs[i].length=fs[i].length){u w:V}{K:KV}
 (h:aCe SA bp bo b1 b2 l two vf vr fs rs i Sz) (hu:NL O Sz u fs[i]) (hw:NL O Sz w rs[i]) (hK:∀S',aCe SA bp bo b1 b2 l two vf vr fs rs (i+1) S'->K (.bool true) S'):x.R l [u,w] Sz K:=by
 have f64:=hf _ (List.getElem_mem h1);have r64:=hr _ (List.getElem_mem h2);have fl:=hfl _ (List.getElem_mem h1);refine hx.round fun y hy=>?_;refine CO (st:= .ready) (pe:=none) h.lo FR ?_;rw [FT];unfold vB;refine HH h.lo ?_;obtain⟨v,hv,mv⟩:=h.u;have hbz:upd Sz l (.loop [3,7] [.ptr bp 0,.ptr bo 0] 36 (tL PP aK [.r,.r,.l,.r,.d]) (tO PP aK [.r,.r,.l,.r,.d]) (qD PP aK [.r,.r,.l,.r,.d]) .busy none)=upd Sz l (Hv bp bo .busy):=rfl;rw [hbz];have k1:bE SA (upd Sz l (Hv bp bo .busy)):=pL h.le h.n2;have kl:upd Sz l (Hv bp bo .busy) l=some (Hv bp bo .busy):=upd_same;have ko:upd Sz l (Hv bp bo .busy) bo=some (.row [v] 31):=by rw [aB h.d1];exact hv
 have kp:upd Sz l (Hv bp bo .busy) bp=some (.row (pv two) 25):=by rw [aB (Ne.symm h.d7)];exact h.rp
 have k3:upd Sz l (Hv bp bo .busy) b1=some (.row [vf] 31):=by rw [aB (Ne.symm h.d4)];exact h.r1
 have k4:upd Sz l (Hv bp bo .busy) b2=some (.row [vr] 31):=by rw [aB (Ne.symm h.d5)];exact h.r2
 have km:ML SA (upd Sz l (Hv bp bo .busy)) v ((dW fs rs).take i):=mv.set h.lo (fun vs m e=>by cases e) (fun vs m e=>by cases e) (fun vs e=>by cases e);have hu:=hu.set (o:=Hv bp bo .busy) h.lo (fun vs m e=>by cases e) (fun vs e=>by cases e);have hw:=hw.set (o:=Hv bp bo .busy) h.lo (fun vs m e=>by cases e) (fun vs e=>by cases e);generalize upd Sz l (Hv bp bo .busy)=S1 at k1 kl ko kp k3 k4 km hu hw;refine eI rfl fun bv hbv=>?_;have gP:bE S1 (upd S1 bv (.row [.nil] 32)):= .aH hbv;have rv:upd S1 bv (.row [.nil] 32) bv=some (.row [.nil] 32):=upd_same;generalize upd S1 bv (.row [.nil] 32)=S2 at gP rv;have hu2:=hu.up gP;have hw2:=hw.up gP;refine Yu hy hu2.one hw2.one fun b3 b4 S3 n3 n4 d34 kP r3 r4=>?_;have uU:=gP.trans kP;have l3:S3 l=some (Hv bp bo .busy):=uU _ _ kl;have inl:∀{p:Prop},EH l S3 p=p:=fun {p}=>by unfold EH;rw [l3];rfl
 rw [inl];refine CP fun l2 hl2=>?_;have rv3:=kP _ _ rv;have hlo:upd S3 l2 (.loop [3,10] [.ptr bp 0,.ptr bv 0] 36 (tL PP aK [.r,.r,.l,.r,.d,.d,.d,.r,.l,.r,.d]) (tO PP aK [.r,.r,.l,.r,.d,.d,.d,.r,.l,.r,.d]) (qD PP aK [.r,.r,.l,.r,.d,.d,.d,.r,.l,.r,.d]) .ready none)=upd S3 l2 (Su bp bv .ready):=rfl;rw [hlo]
 have q0:aCd S1 bv l2 b3 b4 bp u w fs[i] rs[i] 0 (upd S3 l2 (Su bp bv .ready)):=
  ⟨uU.trans (.aH hl2),hbv,uU.none hl2,⟨.nil,by rw [aB (Ne.symm (ne_of hl2 rv3))];exact rv3,.nil⟩,upd_same,by rw [aB (Ne.symm (ne_of hl2 r3))];exact r3,by rw [aB (Ne.symm (ne_of hl2 r4))];exact r4,
   Ne.symm (ne_of hl2 rv3),Ne.symm (ne_of n3 rv),Ne.symm (ne_of n4 rv),ne_of hl2 r3,ne_of hl2 r4⟩
 refine Yw (n:=n+6) hM hy heq (by omega) (Inv:=aCd S1 bv l2 b3 b4 bp u w fs[i] rs[i]) (fun j Sz q=>⟨q.r3,q.r4,(hu.up q.le).nv,(hw.up q.le).nv⟩) hw.same (fun z hz j Sz a b K q hk=>inner_step (n:=n+3) (two:=two) hM hz f64 r64 fl kp a b q hk) q0 fun S4 q4=>?_;obtain⟨u4,ru4,m4⟩:=q4.u;have aGr:(jX fs[i] rs[i]).length=fs[i].length:=by unfold jX;rw [List.length_zipWith];omega
 rw [List.take_of_length_le (by omega)]at m4;refine HJ q4.lo (by simp) ?_;rw [NE];have hex:∃ob,(∀vs m,ob≠ .dF vs 22 m)/\upd S4 l2 (.loop [3,10] [.ptr bp 0,.ptr bv 0] 36 (tL PP aK [.r,.r,.l,.r,.d,.d,.d,.r,.l,.r,.d]) (tO PP aK [.r,.r,.l,.r,.d,.d,.d,.r,.l,.r,.d]) (qD PP aK [.r,.r,.l,.r,.d,.d,.d,.r,.l,.r,.d]) .exhausted none)=upd S4 l2 ob:=⟨_,fun vs m e=>(by cases e),rfl⟩;obtain⟨ob,_,hex⟩:=hex;rw [hex];have wY:bE S1 (upd S4 l2 ob):=pL q4.le q4.n2;have ru5:upd S4 l2 ob bv=some (.row [u4] 32):=by rw [aB q4.d1];exact ru4
 have m5:MN S1 (upd S4 l2 ob) u4 (jX fs[i] rs[i]):=m4.set q4.lo (fun vs m e=>by cases e) (fun vs e=>by cases e);generalize upd S4 l2 ob=S5 at wY ru5 m5;rw [cG (wY _ _ ko) rfl,cG ru5 rfl];refine(km.up wY).app (k1.trans wY) (by rw [List.length_take];omega) (.made (m5.base k1)) fun u6 S6 VH p6 m6 o6=>?_;rw [<-Lo h1 h2]at m6;have q:∀{j:Nat} {o:Ob},S5 j=some o->(∀vs m,o≠ .dF vs 32 m)->S6 j=some o:=fun e hno=>p6 _ _ e hno;have o6':=q (wY _ _ ko) (fun vs m e=>by cases e);have l6:=q (wY _ _ kl) (fun vs m e=>by cases e);rw [EB o6' (by simp) o6];have l7:upd S6 bo (.row ([v].set 0 u6) 31) l=some (Hv bp bo .busy):=by rw [aB (Ne.symm h.d1)];exact l6
 refine HI l7 (hK _ ⟨pL (pL VH h.n1) h.n2,h.n1,h.n2,?_,⟨u6,by rw [aB h.d1];exact upd_same,?_⟩,upd_same,?_,?_,h.d1,h.d2,h.d3,h.d4,h.d5,h.d6,h.d7⟩)
 ·rw [aB (Ne.symm h.d7),aB (Ne.symm h.d6)];exact q (wY _ _ kp) (fun vs m e=>by cases e)
 ·exact(m6.set o6' (fun vs m e=>by cases e) (fun vs m e=>by cases e) (fun vs e=>by cases e)).set l7 (fun vs m e=>by cases e) (fun vs m e=>by cases e) (fun vs e=>by cases e)
 ·rw [aB (Ne.symm h.d4),aB (Ne.symm h.d2)];exact q (wY _ _ k3) (fun vs m e=>by cases e)
 ·rw [aB (Ne.symm h.d5),aB (Ne.symm h.d3)];exact q (wY _ _ k4) (fun vs m e=>by cases e)
theorem Yy (hM:1000000<M) (hx:Deep PP bH gM M (n+15) x){SA O:Hp}{vf vr:V}{fs rs:List (List Nat)} (hf:∀q∈fs,qB q) (hr:∀q∈rs,qB q) (hfl:∀q∈fs,q.length<100000) (hsl:fs.length<100000) (hlen:rs.length=fs.length) (heq:∀i (h1:i<fs.length) (h2:i<rs.length),rs[i].length=fs[i].length)
 (mf:RL O SA vf fs) (mr:RL O SA vr rs) (hK:∀u S',bE SA S'->ML SA S' u (dW fs rs)->bC u S' K):x.call aK [.agg (pv two),vf,vr] SA K:=by
 refine hx.call aEJ fun y hy=>?_;rw [SC];unfold FF;refine cO jL fun bp hbp=>?_;have le1:bE SA (upd SA bp (.row (pv two) 25)):= .aH hbp;have rp:upd SA bp (.row (pv two) 25) bp=some (.row (pv two) 25):=upd_same;generalize upd SA bp (.row (pv two) 25)=S1 at le1 rp;refine eI rfl fun bo YL=>?_;have gP:bE S1 (upd S1 bo (.row [.nil] 31)):= .aH YL;have ro:upd S1 bo (.row [.nil] 31) bo=some (.row [.nil] 31):=upd_same;generalize upd S1 bo (.row [.nil] 31)=S2 at gP ro;refine Yv hy mf.one mr.one fun b1 b2 S3 n1 n2 d12 kP r1 r2=>?_;refine CP fun l hl=>?_;have hlo:upd S3 l (.loop [3,7] [.ptr bp 0,.ptr bo 0] 36 (tL PP aK [.r,.r,.l,.r,.d]) (tO PP aK [.r,.r,.l,.r,.d]) (qD PP aK [.r,.r,.l,.r,.d]) .ready none)=upd S3 l (Hv bp bo .ready):=rfl;rw [hlo];have Xl:=kP _ _ ro;have zP:=kP _ _ (gP _ _ rp);have OL:=(le1.trans gP).trans kP
 have q0:aCe SA bp bo b1 b2 l two vf vr fs rs 0 (upd S3 l (Hv bp bo .ready)):=
  ⟨OL.trans (.aH hl),le1.none YL,OL.none hl,by rw [aB (Ne.symm (ne_of hl zP))];exact zP,⟨.nil,by rw [aB (Ne.symm (ne_of hl Xl))];exact Xl,.nil⟩,upd_same,by rw [aB (Ne.symm (ne_of hl r1))];exact r1,by rw [aB (Ne.symm (ne_of hl r2))];exact r2,
   Ne.symm (ne_of hl Xl),Ne.symm (ne_of n1 ro),Ne.symm (ne_of n2 ro),ne_of hl r1,ne_of hl r2,ne_of YL rp,ne_of hl zP⟩
 refine Yx (n:=n+11) hM hy hlen (by omega) (Inv:=aCe SA bp bo b1 b2 l two vf vr fs rs) (Oa:=O) (fun j Sz q=>⟨q.r1,q.r2,mf.up q.le,mr.up q.le⟩) (fun z hz j Sz a b u w K q hu hw hk=>Lp (n:=n+3) hM hz hf hr hfl hsl a b (heq j a b) q hu hw hk) q0 fun S4 q4=>?_;obtain⟨u4,ru4,m4⟩:=q4.u;have aGr:(dW fs rs).length=fs.length:=by unfold dW;rw [List.length_zipWith];omega
 rw [List.take_of_length_le (by omega)]at m4;refine HJ q4.lo (by simp) ?_;rw [NE];obtain⟨ob,hex⟩:∃ob,upd S4 l (.loop [3,7] [.ptr bp 0,.ptr bo 0] 36 (tL PP aK [.r,.r,.l,.r,.d]) (tO PP aK [.r,.r,.l,.r,.d]) (qD PP aK [.r,.r,.l,.r,.d]) .exhausted none)=upd S4 l ob:=⟨_,rfl⟩;rw [hex];have wY:bE SA (upd S4 l ob):=pL q4.le q4.n2;have ru5:upd S4 l ob bo=some (.row [u4] 31):=by rw [aB q4.d1];exact ru4
 have m5:ML SA (upd S4 l ob) u4 (dW fs rs):=m4.set q4.lo (fun vs m e=>by cases e) (fun vs m e=>by cases e) (fun vs e=>by cases e);rw [cG ru5 rfl];exact hK u4 _ wY m5
theorem aEb (hM:1000000<M) (hx:Deep PP bH gM M (n+15) x){SA O:Hp}{vf vr:V}{fs rs:List (List Nat)} (hf:∀q∈fs,qB q) (hr:∀q∈rs,qB q) (hfl:∀q∈fs,q.length<100000) (hsl:fs.length<100000) (hlen:rs.length=fs.length) (heq:∀i (h1:i<fs.length) (h2:i<rs.length),rs[i].length=fs[i].length)
 (mf:ML O SA vf fs) (mr:ML O SA vr rs) (hK:∀u S',bE SA S'->ML SA S' u (dW fs rs)->K u S'):x.call aK [.agg (pv two),vf,vr] SA K:=
 Yy hM hx hf hr hfl hsl hlen heq (.ml mf) (.ml mr) fun u S' h m=>aJ (hK u S' h m)
theorem aCf (hM:1000000<M) (hx:Deep PP bH gM M (n+15) x){SA O:Hp}{vf vr:V}{fs rs:List (List Nat)} (hf:∀q∈fs,qB q) (hr:∀q∈rs,qB q) (hfl:∀q∈fs,q.length<100000) (hsl:fs.length<100000) (hlen:rs.length=fs.length) (heq:∀i (h1:i<fs.length) (h2:i<rs.length),rs[i].length=fs[i].length)
 (mf:RL O SA vf fs) (mr:RL O SA vr rs) (hK:∀t,K (.list t ((dW fs rs).map fun l=> .list (tV l) l.length) (dW fs rs).length) SA):x.call aK [.agg (pv two),vf,vr] SA K:=
 Yy hM hx hf hr hfl hsl hlen heq mf mr fun u S' h m=>AA h m.Ox hK
end
end Go.Am
set_option maxRecDepth 4000
namespace Go.Am
open Go.Mq
theorem MN.but{S1 Sz S':Hp}{u:V}{l:List Nat}{t:Nat} (h:MN S1 Sz u l) (hs:∀j o,j≠t->Sz j=some o->S' j=some o){p:Ob} (ht:Sz t=some p) (h1:∀vs m,p≠ .dF vs 22 m) (h2:∀vs,p≠ .row vs 22):MN S1 S' u l:=by
 cases h with
 | nil=>exact .nil
 | acc h0 h=>exact .acc h0 (hs _ _ (fun c=>by rw [c,ht]at h;injection h with h;exact h1 _ _ h) h)
 | own h0 h=>exact .own h0 (hs _ _ (fun c=>by rw [c,ht]at h;injection h with h;exact h2 _ h) h)
def turned (S0 Sz:Hp) (t:Nat):Hp:=fun i=>if i=t then Sz t else S0 i
theorem VV{S0 Sz:Hp}{t:Nat}:turned S0 Sz t t=Sz t:=if_pos rfl
theorem AB{S0 Sz:Hp}{t i:Nat} (h:i≠t):turned S0 Sz t i=S0 i:=if_neg h
theorem Sv{S0 Sz:Hp}{t:Nat} (h:bE (del S0 t) Sz):bE (turned S0 Sz t) Sz:=fun i o e=>by
 by_cases c:i=t
 ·rw [c,VV]at e;rw [c];exact e
 ·rw [AB c]at e;exact h i o (by unfold del;rw [if_neg c];exact e)
theorem zN{Sz:Hp}{i t:Nat} (h:i≠t):del Sz t i=Sz i:=if_neg h
section
variable{M n t d:Nat}{x:VE}{K:KV}{s:BitVec 64}{ah:List Nat}
theorem Sw:gM qN=none:=rfl
theorem Za:gM mC=none:=rfl
theorem ZC{Sz:Hp}{two:Bool} (hx:Deep PP bH gM M (n+1) x) (hK:K (ni 2) Sz):x.call qN [.agg (pv two)] Sz K:=by
 refine hx.call Sw fun y hy=>?_;rw [VW];unfold HQ;refine cO jL fun b hb=>?_;rw [aN,cG (o:=7) upd_same rfl,aN,cG (o:=8) upd_same rfl,aX (by decide),pB (by decide)];exact jG (.aH hb) hK
def Hx (S0 Sz:Hp) (t:Nat) (s:BitVec 64) (ah:List Nat) (d:Nat):Prop:=∃w,Sz t=some (.row [vb s,w,ni d] 83)/\Ah (del S0 t) w ah
theorem Tape.b{Sz:Hp} (h:Tape Sz t s ah d):Hx Sz Sz t s ah d:=by
 obtain⟨w,h1,h2⟩:=h;refine⟨w,h1,?_⟩;cases h2 with
 | nil=>exact .nil
 | emp=>exact .emp
 | HE=>exact .HE
 | acc h h0=>exact .acc (by rw [zN (fun c=>by rw [c,h1]at h;cases h)];exact h) h0
 | tW h h0 hv=>exact .tW (by rw [zN (fun c=>by rw [c,h1]at h;cases h)];exact h) h0 hv
theorem aGs (hM:2<M) (hx:Deep PP bH gM M (n+2) x){S0 Sz:Hp} (h:Hx S0 Sz t s ah d) (hle:bE (del S0 t) Sz) (hd:d<1000000) (hK:∀S' a s' Eh,LD Sz S' t->bE (del S0 t) S'->Hx S0 S' t s' Eh (d+1)->(∀k,drawn (k+1) ah s=a::drawn k Eh s')->a<23->K (nu a) S'):x.call bN [.ptr t 0,nu 23] Sz K:=by
 obtain⟨w,h1,h2⟩:=h
 have leT:∀{S':Hp},LD Sz S' t->bE (del S0 t) S':=fun {S'} b i o e=>by
  have hi:i≠t:=fun c=>by rw [c,zK]at e;cases e
  rw [b i hi];exact hle i o e
 cases ah with
 | nil=>
  refine Yo hM hx ⟨w,h1,h2.up hle⟩ hd fun S' b tp=>hK S' _ _ _ b (leT b) ?_ (fun k=>rfl) (zM 1 [] s _ (.head _));obtain⟨w',q1,q2⟩:=tp;generalize hz:([]:List Nat)=z at q2;cases q2 with
  | nil=>exact⟨_,q1,.nil⟩
  | emp=>exact⟨_,q1,.emp⟩
  | HE=>exact⟨_,q1,.HE⟩
  | acc h h0=>subst hz;simp at h0
  | tW h h0 hv=>subst hz;simp at h0
 | cons a ah=>
  obtain⟨⟨p,hp,hld⟩,w',hsl,hw'⟩:=h2.head;have hw0:Ah (del S0 t) w' ah:=hw' (.refl _);refine hx.call Ll fun y hy=>?_;rw [wA];unfold qW;refine SX ptr52 ?_;have h1':upd Sz t (.row [vb s,w,ni (d+1)] 83) t=some (.row [vb s,w,ni (d+1)] 83):=upd_same;have le1:bE (del S0 t) (upd Sz t (.row [vb s,w,ni (d+1)] 83)):=pL hle zK;have hw1:Ah (upd Sz t (.row [vb s,w,ni (d+1)] 83)) w (a::ah):=h2.up le1;obtain⟨⟨p1,hp1,aB0⟩,w1,hsl1,aIm⟩:=hw1.head;rw [aZ,nG,aN,cG h1 rfl,aX (by omega),nG,aN,EB h1 (by simp) rfl];show FQ PP (.ptr t 0) (fun v7=>bI 1 v7 fun v8=>aS v8 (upd Sz t (.row [vb s,w,ni (d+1)] 83)) _);rw [nG,aN,cG h1' rfl,hw1.len,xR,decide_eq_true (by simp),cU,nG,aN,cG h1' rfl,hp1,aB0,nG,aN,cG h1' rfl]
  have hsl2:∀{k:V->Prop},k w'->HM 22 1 w (some (ni 1)) none none (upd Sz t (.row [vb s,w,ni (d+1)] 83)) k:=fun {k} hk=>by
   have hh:=hsl (k:=k) hk;cases h2 with
   | acc h h0=>
    have hh':=le1 _ _ h;unfold HM at hh ⊢;simp only [h]at hh;simp only [hh'];exact hh
   | tW h h0 hv=>
    have hh':=le1 _ _ h;unfold HM at hh ⊢;simp only [h]at hh;simp only [hh'];exact hh
  refine hsl2 ?_;rw [nG,aN,EB h1' (by simp) hw0.one];refine SW hy ?_;have bb:LD Sz (upd (upd Sz t (.row [vb s,w,ni (d+1)] 83)) t (.row ([vb s,w,ni (d+1)].set 1 w') 83)) t:=fun i hi=>by rw [fP,aB hi]
  refine aJ (hK _ _ s ah bb (leT bb) ⟨w',by rw [fP];exact upd_same,hw0⟩ (fun k=>rfl) (Nat.mod_lt _ (by decide)))
theorem Sx (hM:100000<M) (hx:Deep PP bH gM M (n+3) x){S0:Hp}{N X:Nat}{S:BitVec 64}{AH:List Nat} (hN:N<1000) (hd:d+N<1000000)
 (hK:∀Sz v s' Eh,bE (del S0 t) Sz->Hx S0 Sz t s' Eh (d+N)->MN (del S0 t) Sz v (X%23::drawn N AH S)->(∀k,drawn (N+k) AH S=drawn N AH S++drawn k Eh s')->bC v Sz K):
 ∀(r i m:Nat) (Sz:Hp) (v:V) (s:BitVec 64) (ah l:List Nat),i+r=N->r<m->bE (del S0 t) Sz->Hx S0 Sz t s ah (d+i)->MN (del S0 t) Sz v (X%23::l)->l.length=i->(∀k,drawn (i+k) AH S=l++drawn k ah s)->
  jQ x m (nu 23) (.func bN [.ptr t 0] []) v (ni N) (ni i) Sz K:=by
 intro r;induction r with
 | zero=>
  intro i m Sz v s ah l hi hm hle htp hm0 hl he;obtain⟨m,rfl⟩:=Nat.exists_eq_succ_of_ne_zero (show m≠0 by omega);rw [xJ];unfold qO;refine aE ?_;rw [aR,lY (by omega),aZ];have e:i=N:=by omega
  subst e;have e0:l=drawn i AH S:=by have:=he 0;simp [drawn]at this;exact this.symm
  subst e0;exact hK Sz v s ah hle htp hm0 he
 | succ r ih=>
  intro i m Sz v s ah l hi hm hle htp hm0 hl he;obtain⟨m,rfl⟩:=Nat.exists_eq_succ_of_ne_zero (show m≠0 by omega);rw [xJ];unfold qO;refine aE ?_;rw [aR,AZ (by omega),cU];show x.call bN [.ptr t 0,nu 23] Sz _;refine aGs (by omega) hx htp hle (by omega) fun S1 a s1 ah1 b1 le1 tp1 h1 ha=>?_;obtain⟨w,q1,q2⟩:=htp;have m1:MN (del S0 t) S1 v (X%23::l):=hm0.but (fun j o hj e=>by rw [b1 j hj];exact e) q1 (fun vs m e=>by cases e) (fun vs e=>by cases e);refine m1.app le1 (by simp;omega) fun v2 S2 gP p2 m2=>?_;rw [aX (by omega)];obtain⟨w1,q3,q4⟩:=tp1;refine ih (i+1) m S2 v2 s1 ah1 (l++[a]) (by omega) (by omega) gP ⟨w1,p2 _ _ q3 (fun vs m e=>by cases e),q4⟩ m2 (by simp [hl]) fun k=>?_;have e1:=he (k+1);rw [h1 k]at e1;rw [show i+1+k=i+(k+1)by omega,e1];simp
theorem MN.turned{S0 Sz:Hp}{v:V}{l:List Nat} (h:MN (del S0 t) Sz v l){p:Ob} (ht:Sz t=some p) (h1:∀vs m,p≠ .dF vs 22 m) (h2:∀vs,p≠ .row vs 22):MN (turned S0 Sz t) Sz v l:=by
 have go:∀{i:Nat} {o:Ob},del S0 t i=none->Sz i=some o->(∀vs m,p≠ .dF vs 22 m)->o≠p->Go.Am.turned S0 Sz t i=none:=fun {i o} h0 h _ hne=>by
  have hi:i≠t:=fun c=>by rw [c,ht]at h;injection h with h;exact hne h.symm
  rw [AB hi];rw [zN hi]at h0;exact h0
 cases h with
 | nil=>exact .nil
 | acc h0 h=>exact .acc (go h0 h h1 (fun e=>h1 _ _ e.symm)) h
 | own h0 h=>exact .own (go h0 h h1 (fun e=>h2 _ e.symm)) h
theorem UY (hM:100000<M) (hx:Deep PP bH gM M (n+4) x){Sz:Hp}{N X:Nat} (hX:b64 X) (hN:N<1000) (hd:d+N<1000000) (h:Tape Sz t s ah d)
 (hK:∀S' s' Eh,LD Sz S' t->Tape S' t s' Eh (d+N)->(∀k,drawn (N+k) ah s=drawn N ah s++drawn k Eh s')->∀O,K (.list O (tV (X%23::drawn N ah s)) (X%23::drawn N ah s).length) S'):x.call mC [nu X,ni N,nu 23,.func bN [.ptr t 0] []] Sz K:=by
 refine hx.call Za fun y hy=>?_;rw [XU];unfold KD;rw [aC5 (by decide)];refine⟨rfl,by simp,fun j hj=>?_⟩;obtain⟨w0,hw0,_⟩:=id h;have hjt:j≠t:=ne_of hj hw0;show jQ y y.most (nu 23) _ (.own j 0 1 1) (ni N) (ni 0) (upd Sz j (.row [nu (X%23)] 22)) K;rw [hy.most];have le0:bE (del Sz t) (upd Sz j (.row [nu (X%23)] 22)):=(Ci).trans (.aH hj);obtain⟨w,q1,q2⟩:=h.b;refine Sx (AH:=ah) (S:=s) hM hy hN hd (fun S2 v s2 Jl gP Uc m2 h2=>?_) N 0 M _ _ s ah [] (by omega) (by omega) le0 ⟨w,by rw [aB (Ne.symm hjt)];exact q1,q2⟩ (.own (l:=[X%23]) (by rw [zN hjt];exact hj) upd_same) rfl (fun k=>by simp);obtain⟨w2,q3,q4⟩:=Uc;have leT:=Sv gP;have mT:=m2.turned q3 (fun vs m e=>by cases e) (fun vs e=>by cases e);refine AA leT mT.Ox (hK _ s2 Jl (fun i hi=>AB hi) ⟨w2,by rw [VV];exact q3,q4.up ?_⟩ h2);intro i o e;have hi:i≠t:=fun c=>by rw [c,zK]at e;cases e
 rw [AB hi];rw [zN hi]at e;exact e
end
end Go.Am
set_option maxRecDepth 4000
namespace Go.Am
section
variable{S0 Sz S':Hp}{K:KV}{v w u:V}{l:List Nat}{ls:List (List Nat)}{t d:Nat}{s:BitVec 64}{ah:List Nat}
theorem ML.but (h:ML S0 Sz v ls) (hs:∀j o,j≠t->Sz j=some o->S' j=some o){vs:List V}{q:Nat} (ht:Sz t=some (.row vs q)) (hq:q≠22):ML S0 S' v ls:=by
 cases h with
 | nil=>exact .nil
 | acc h0 h hl hv=>
  refine .acc h0 (hs _ _ (fun c=>by rw [c,ht]at h;cases h) h) hl fun j l e=>?_;obtain⟨w,a,b⟩:=hv j l e;exact⟨w,a,b.but hs (fun vs m c=>by rw [ht]at c;cases c) (fun vs c=>by rw [ht]at c;injection c with c;injection c with c1 c2;exact hq c2)⟩
theorem ML.aFI (h:ML S0 Sz v ls) (hs:bE S0 Sz) (hl:ls.length<=1000000) (hw:NL S0 Sz w l)
 (hk:∀u S',bE S0 S'->(∀j o,Sz j=some o->(∀m,v≠ .acc j m)->S' j=some o)->ML S0 S' u (ls++[l])->(∀j m,u= .acc j m->Sz j=none\/∃m',v= .acc j m')->K u S'):aP 32 1 [(.slice none 0 0)] [(0,1,w)] Sz fun v2 Sz=>kI 32 1 24 v v2 Sz K:=by
 have hc:∀{p:List V->Prop},oY w p=p [w]:=fun {p}=>by
  have:=hw.one;cases w<;>first | rfl | cases this
 have hz:AK [(.slice none 0 0)]=some [.nil]:=rfl;unfold aP mY;rw [hz];show jE [(0,1,w)] [.nil] _;unfold jE;rw [hc];refine⟨rfl,by simp,?_⟩;unfold jE;intro j hj;have hj0:S0 j=none:=hs.none hj;have hs1:bE Sz (upd Sz j (.row [w] 32)):= .aH hj;show kI 32 1 24 v (.own j 0 1 1) (upd Sz j (.row (splice 0 [w] [.nil]) 32)) K;have e:splice 0 [w] [V.nil]=[w]:=rfl;rw [e];refine uO (m:=1) upd_same rfl ?_;refine⟨by simp [hw.one],?_⟩;have hwj:=hw.up hs1;cases h with
 | nil=>
  refine⟨by decide,fun i hi=>?_⟩;have hs2:bE (upd Sz j (.row [w] 32)) (upd (upd Sz j (.row [w] 32)) i (.dF [w] 32 1)):= .aH hi;refine hk _ _ ((hs.trans hs1).trans hs2) (fun q o e _=>hs2 _ _ (hs1 _ _ e)) (.acc (ls:=[l]) ((hs.trans hs1).none hi) upd_same rfl fun q l' e=>?_) fun q m e=>by injection e with e1 e2;subst e1;exact .inl (Wv hi).2
  match q,e with
  | 0,e=>injection e with e;subst e;exact⟨w,rfl,hwj.up hs2⟩
  | q+1,e=>cases e
 | @acc i vs _ h0 h hl2 hv=>
  have hne:j≠i:=fun e=>by rw [e,h]at hj;cases hj
  have h':upd Sz j (.row [w] 32) i=some (.dF vs 32 ls.length):=by rw [aB (Ne.symm hne)];exact h
  simp only [h'];refine⟨trivial,trivial,by omega,by omega,?_⟩;have el:ls.length+(0+1)=(ls++[l]).length:=by simp
  rw [el];have hs2:∀q o,q≠i->Sz q=some o->upd (upd Sz j (.row [w] 32)) i (.dF (vs++[w]) 32 (ls++[l]).length) q=some o:=fun q o hq e=>by rw [aB hq];exact hs1 _ _ e
  have hn1:∀vs m,Sz i≠some (.dF vs 22 m):=fun vs m c=>by rw [h]at c;cases c
  have hn2:∀vs,Sz i≠some (.row vs 22):=fun vs c=>by rw [h]at c;cases c
  refine hk _ _ (fun q o e=>hs2 q o (fun c=>by rw [c,h0]at e;cases e) (hs _ _ e)) (fun q o e hno=>hs2 q o (fun c=>hno ls.length (by subst c;rfl)) e) (.acc h0 upd_same (by simp [hl2]) fun q l' e=>?_) fun q m e=>by injection e with e1 e2;subst e1;exact .inr ⟨_,rfl⟩
  rcases Nat.lt_or_ge q ls.length with hq | hq
  ·rw [List.getElem?_append_left hq]at e
   obtain⟨u,a,b⟩:=hv q l' e;exact⟨u,by rw [List.getElem?_append_left (by omega)];exact a,b.but hs2 hn1 hn2⟩
  ·have hq':q=ls.length:=by
    have:=(List.getElem?_eq_some_iff.1 e).1;simp at this;omega
   subst hq';simp at e;subst e;exact⟨w,by rw [List.getElem?_append_right (by omega),hl2];simp,hw.but hs2 hn1 hn2⟩
theorem ML.keep (h:ML S0 Sz v ls) (hw:∀m,u≠ .acc t m) (hs:∀j o,Sz j=some o->(∀m,w≠ .acc j m)->S' j=some o) (hd:∀j m m',v= .acc j m->w≠ .acc j m') (ho:∀j vs m,w= .acc j m->Sz j≠some (.dF vs 22 m)/\Sz j≠some (.row vs 22)) (hww:∀j m,w= .acc j m->∃vs n,Sz j=some (.dF vs 32 n)):ML S0 S' v ls:=by
 cases h with
 | nil=>exact .nil
 | acc h0 h hl hv=>
  refine .acc h0 (hs _ _ h (fun m=>hd _ _ m rfl)) hl fun j l e=>?_;obtain⟨w',a,b⟩:=hv j l e;refine⟨w',a,?_⟩;cases b with
  | val=>exact .val
  | made b=>
   refine .made ?_;cases b with
   | nil=>exact .nil
   | acc g0 g=>exact .acc g0 (hs _ _ g fun m c=>by obtain⟨vs,n,q⟩:=hww _ _ c;rw [q]at g;injection g with g;injection g with _ g _;cases g)
   | own g0 g=>exact .own g0 (hs _ _ g fun m c=>by obtain⟨vs,n,q⟩:=hww _ _ c;rw [q]at g;cases g)
theorem ML.ob (h:ML S0 Sz v ls):∀j m,v= .acc j m->S0 j=none/\∃vs n,Sz j=some (.dF vs 32 n):=by
 intro j m e;cases h with
 | nil=>cases e
 | acc h0 h hl hv=>injection e with e1 e2;subst e1;exact⟨h0,_,_,h⟩
theorem Tape.keep (h:Tape Sz t s ah d) (hs:∀j o,Sz j=some o->(∀vs m,o≠ .dF vs 32 m)->S' j=some o):Tape S' t s ah d:=by
 obtain⟨w,h1,h2⟩:=h;refine⟨w,hs _ _ h1 (fun vs m c=>by cases c),?_⟩;cases h2 with
 | nil=>exact .nil
 | emp=>exact .emp
 | HE=>exact .HE
 | acc h h0=>exact .acc (hs _ _ h (fun vs m c=>by injection c with _ c _;cases c)) h0
 | tW h h0 hv=>exact .tW (hs _ _ h (fun vs m c=>by injection c with _ c _;cases c)) h0 hv
theorem aBA (hw:jK w=true):aP 32 1 [(.slice none 0 0)] [(0,1,w)] Sz fun _ _=>True:=by
 have hc:∀{p:List V->Prop},oY w p=p [w]:=fun {p}=>by cases w<;>first | rfl | cases hw
 have hz:AK [(.slice none 0 0)]=some [.nil]:=rfl;unfold aP mY;rw [hz];show jE [(0,1,w)] [.nil] _;unfold jE;rw [hc];refine⟨rfl,by simp,?_⟩;unfold jE;exact fun _ _=>trivial
end
def Oy (T:Nat):List Nat->List Nat->List (List Nat)
 | [],_=>[]
 | x::l,D=>(x%23::D.take T)::Oy T l (D.drop (T+1+T))
def Oz (T:Nat):Nat->List Nat->List (List Nat)
 | 0,_=>[]
 | k+1,D=>(D.getD T 0%23::(D.drop (T+1)).take T)::Oz T k (D.drop (T+1+T))
theorem aHu{T a:Nat}{A B C:List Nat} (hA:A.length=T) (hB:B.length=T):(A++a::(B++C)).take T=A/\(A++a::(B++C)).getD T 0=a/\((A++a::(B++C)).drop (T+1)).take T=B/\(A++a::(B++C)).drop (T+1+T)=C:=by
 subst hA;have h1:(A++a::(B++C)).drop (A.length+1)=B++C:=by rw [<-List.drop_drop,List.drop_left];rfl
 refine⟨List.take_left,by simp,by rw [h1,<-hB,List.take_left],by rw [<-List.drop_drop,h1,<-hB,List.drop_left]⟩
section
variable{M n t:Nat}{x:VE}{K:KV}{two:Bool}
theorem Ww (hM:1000000<M) (hx:Deep PP bH gM M (n+4) x){S0:Hp}{va:V}{l:List Nat} (ha:NV (del S0 t) va l) (h64:qB l) (hl:l.length<1000){bp:Nat}{v29:V}{FS RS:List (List Nat)}
 (hK:∀Sz vf vr,bE (del S0 t) Sz->Sz bp=some (.row (pv two) 25)->ML (del S0 t) Sz vf FS->ML (del S0 t) Sz vr RS->(bI 5 (.ptr bp 0) fun v24=>aS v24 Sz fun v25 Sz=>Gy 44 24 [(.slice none 0 0)] v25 v25 Sz fun v26 Sz=>aV v26 fun v27=>dS x x.most (.ptr bp 0) vf vr v26 v27 (.int .i64 (.ofNat 0)) Sz K)):
 ∀(r i m:Nat) (Sz:Hp) (vf vr:V) (s:BitVec 64) (ah:List Nat) (fs rs:List (List Nat)) (d:Nat),i+r=l.length->r<m->d+(2*tT two+1)*r<900000->fs.length=i->rs.length=i->bE (del S0 t) Sz->Tape Sz t s ah d->Sz bp=some (.row (pv two) 25)->ML (del S0 t) Sz vf fs->ML (del S0 t) Sz vr rs->(∀j m m',vf= .acc j m->vr≠ .acc j m')->
  fs++Oy (tT two) (l.drop i) (drawn ((tT two+(1+tT two))*r) ah s)=FS->rs++Oz (tT two) r (drawn ((tT two+(1+tT two))*r) ah s)=RS->
  lP x m (.ptr bp 0) (.func bN [.ptr t 0] []) vf vr va (ni l.length) (ni i) Sz K:=by
 intro r;have hT:tT two<=2:=by cases two<;>decide
 induction r with
 | zero=>
  intro i m Sz vf vr s ah fs rs d hi hm hd hf hr hle htp hbp mf mr hdis eF eR;obtain⟨m,rfl⟩:=Nat.exists_eq_succ_of_ne_zero (show m≠0 by omega);rw [vJ];unfold oZ;refine aE ?_;rw [aR,lY (by omega),aZ];have e:l.drop i=[]:=List.drop_eq_nil_of_le (by omega);rw [e]at eF;simp only [Oy,Oz,List.append_nil]at eF eR;subst eF eR;exact hK Sz vf vr hle hbp mf mr
 | succ r ih=>
  intro i m Sz vf vr s ah fs rs d hi hm hd hf hr hle htp hbp mf mr hdis eF eR;obtain⟨m,rfl⟩:=Nat.exists_eq_succ_of_ne_zero (show m≠0 by omega);rw [vJ];unfold oZ;refine aE ?_;have hlt:i<l.length:=by omega
  obtain⟨p,hp,hld⟩:=ha.at (i:=i) (List.getElem?_eq_getElem hlt);have hX:=h64 _ (List.getElem_mem hlt);have e6:(pv two)[6]? =some (ni (tT two)):=rfl;have e1:(pv two)[1]? =some (nu 23):=rfl;rw [Nat.mul_succ]at hd;rw [aR,AZ (by omega),cU,hp,hld Sz hle,aN,cG hbp e6,aN,cG hbp e1];refine UY (d:=d) (n:=n) (by omega) hx hX (by omega) (by omega) htp fun S1 s1 ah1 b1 tp1 h1 O=>?_
  have le1:bE (del S0 t) S1:=fun j o e=>by
   have hj:j≠t:=fun c=>by rw [c,zK]at e;cases e
   rw [b1 j hj];exact hle j o e
  have btp:bp≠t:=fun c=>by
   obtain⟨w,q,_⟩:=htp;rw [c,q]at hbp;injection hbp with e;injection e with _ e;cases e
  obtain⟨wt,aFJ,_⟩:=id htp;have hk1:∀j o,j≠t->Sz j=some o->S1 j=some o:=fun j o hj e=>by rw [b1 j hj];exact e
  have mf1:=mf.but hk1 aFJ (by decide);have mr1:=mr.but hk1 aFJ (by decide);have bp1:=hk1 _ _ btp hbp;refine mf1.aFI le1 (by omega) .val fun vf2 S2 gP k2 mf2 d2=>?_;have hmo:=mf1.ob
  have k2':∀j o,S1 j=some o->(∀vs m,o≠ .dF vs 32 m)->S2 j=some o:=fun j o e hno=>k2 j o e fun m c=>by
   obtain⟨_,vs,q,e2⟩:=hmo _ _ c;rw [e]at e2;injection e2 with e2;exact hno _ _ e2
  have Uc:=tp1.keep k2';have bp2:=k2' _ _ bp1 (fun vs m c=>by cases c)
  have mr2:ML (del S0 t) S2 vr rs:=mr1.keep (u:= .nil) (t:=0) (fun m c=>by cases c) k2 (fun j m m' c c2=>hdis j m' m c2 c) (fun j vs m c=>by
   obtain⟨_,vs,q,e2⟩:=hmo _ _ c;constructor<;>(rw [e2];intro c;cases c)) (fun j m c=>(hmo j m c).2)
  have aCY:∀j m m',vf2= .acc j m->vr≠ .acc j m':=fun j m m' c c2=>by
   rcases d2 j m c with q | ⟨m2,q⟩
   ·obtain⟨_,vs,n,e⟩:=mr1.ob j m' c2
    rw [q]at e;cases e
   ·exact hdis j m2 m' q c2
  rw [aN,cG bp2 e1,aN,cG bp2 e6,aN,cG bp2 e1];show x.call bN [.ptr t 0,nu 23] S2 _;refine Wx (n:=n+2) (by omega) hx Uc (by omega) fun S3 a s3 ah3 b3 tp3 h3=>?_;obtain⟨wt2,aFK,_⟩:=id Uc;have hk3:∀j o,j≠t->S2 j=some o->S3 j=some o:=fun j o hj e=>by rw [b3 j hj];exact e
  have mf3:=mf2.but hk3 aFK (by decide);have mr3:=mr2.but hk3 aFK (by decide);have bp3:=hk3 _ _ btp bp2
  have kP:bE (del S0 t) S3:=fun j o e=>by
   have hj:j≠t:=fun c=>by rw [c,zK]at e;cases e
   exact hk3 j o hj (gP j o e)
  have aIl:a<23:=by
   have:=h3 0;exact zM 1 ah1 s1 a (by rw [this];exact .head _)
  rw [cG bp3 e1,bO,cG bp3 e6,bO];refine UY (d:=d+tT two+1) (n:=n) (by omega) hx (X:=a) (show a<18446744073709551616 by omega) (by omega) (by omega) tp3 fun S4 s4 Ud b4 tp4 h4 O4=>?_;obtain⟨wt3,aFL,_⟩:=id tp3;have hk4:∀j o,j≠t->S3 j=some o->S4 j=some o:=fun j o hj e=>by rw [b4 j hj];exact e
  have mf4:=mf3.but hk4 aFL (by decide);have mr4:=mr3.but hk4 aFL (by decide);have bp4:=hk4 _ _ btp bp3
  have le4:bE (del S0 t) S4:=fun j o e=>by
   have hj:j≠t:=fun c=>by rw [c,zK]at e;cases e
   exact hk4 j o hj (kP j o e)
  refine⟨aBA rfl,?_⟩;refine mr4.aFI le4 (by omega) .val fun vr5 S5 wY k5 mr5 d5=>?_;have aEa:=mr4.ob
  have k5':∀j o,S4 j=some o->(∀vs m,o≠ .dF vs 32 m)->S5 j=some o:=fun j o e hno=>k5 j o e fun m c=>by
   obtain⟨_,vs,q,e2⟩:=aEa _ _ c;rw [e]at e2;injection e2 with e2;exact hno _ _ e2
  have tp5:=tp4.keep k5';have bp5:=k5' _ _ bp4 (fun vs m c=>by cases c)
  have mf5:ML (del S0 t) S5 vf2 _:=mf4.keep (u:= .nil) (t:=0) (fun m c=>by cases c) k5 (fun j m m' c c2=>aCY j m m' c c2) (fun j vs m c=>by
   obtain⟨_,vs,q,e2⟩:=aEa _ _ c;constructor<;>(rw [e2];intro c;cases c)) (fun j m c=>(aEa j m c).2)
  have aFM:∀j m m',vf2= .acc j m->vr5≠ .acc j m':=fun j m m' c c2=>by
   rcases d5 j m' c2 with q | ⟨m2,q⟩
   ·obtain⟨_,vs,n,e⟩:=mf4.ob j m c
    rw [q]at e;cases e
   ·exact aCY j m m2 c q
  have eD:drawn ((tT two+(1+tT two))*(r+1)) ah s=drawn (tT two) ah s++a::(drawn (tT two) ah3 s3++drawn ((tT two+(1+tT two))*r) Ud s4):=by
   have e:(tT two+(1+tT two))*(r+1)=tT two+(tT two+(tT two+(1+tT two))*r+1):=by rw [Nat.mul_succ];omega
   rw [e,h1,h3,h4]
  obtain⟨c1,c2,c3,c4⟩:=aHu (a:=a) (C:=drawn ((tT two+(1+tT two))*r) Ud s4) (mZ (tT two) ah s) (mZ (tT two) ah3 s3);have ed:l.drop i=l[i]::l.drop (i+1):=List.drop_eq_getElem_cons hlt;rw [eD]at eF eR;rw [ed]at eF;unfold Oy at eF;unfold Oz at eR;rw [c1,c4]at eF;rw [c2,c3,c4]at eR;rw [aX (by omega)];refine ih (i+1) m S5 vf2 vr5 s4 Ud _ _ (d+tT two+1+tT two) (by omega) (by omega) (by omega) (by simp [hf]) (by simp [hr]) wY tp5 bp5 mf5 mr5 aFM ?_ ?_
  ·rw [<-eF];simp
  ·rw [<-eR];simp
end
set_option maxRecDepth 4000
def XH:List (Nat×Nat)->List V
 | []=>[]
 | p::l=>nu p.1::nu p.2::XH l
def PF:List (Nat×Nat)->List Dt
 | []=>[]
 | p::l=>nd p.1::nd p.2::PF l
theorem ST (l:List (Nat×Nat)):(XH l).length=l.length*2:=by induction l with | nil=>rfl | cons a l ih=>show(XH l).length+2=_;rw [ih,List.length_cons];omega
theorem Pa (l:List (Nat×Nat)):(PF l).length=l.length*2:=by induction l with | nil=>rfl | cons a l ih=>show(PF l).length+2=_;rw [ih,List.length_cons];omega
theorem aBB (l m:List (Nat×Nat)):XH (l++m)=XH l++XH m:=by induction l with | nil=>rfl | cons a l ih=>show _::_::XH (l++m)=_;rw [ih];rfl
theorem aFN{S0 Sz:Hp} (l:List (Nat×Nat)):∀(j:Nat) (v:V) (d:Dt),(XH l)[j]? =some v->(PF l)[j]? =some d->QV S0 Sz v d:=by
 induction l with
 | nil=>intro j v d a b;cases a
 | cons p l ih=>
  intro j v d a b
  match j with
  | 0=>injection a with a;injection b with b;subst a b;exact .int
  | 1=>injection a with a;injection b with b;subst a b;exact .int
  | j+2=>exact ih j v d a b
inductive PN (S0 Sz:Hp):V->List (Nat×Nat)->Prop
 | nil:PN S0 Sz .nil []
 | acc {i:Nat} {l:List (Nat×Nat)} (h0:S0 i=none) (h:Sz i=some (.dF (XH l) 73 l.length)):PN S0 Sz (.acc i l.length) l
section
variable{S0 S1 Sz S':Hp}{K:KV}{v w:V}{l:List (Nat×Nat)}
theorem PN.one (h:PN S0 Sz v l):jK v=true:=by cases h<;>rfl
theorem PN.same (h:PN S0 Sz v l):uP v=true:=by cases h<;>rfl
theorem PN.up (h:PN S0 Sz v l) (hle:bE Sz S'):PN S0 S' v l:=by cases h with | nil=>exact .nil | acc h0 h=>exact .acc h0 (hle _ _ h)
theorem PN.base (h:PN S1 Sz v l) (hle:bE S0 S1):PN S0 Sz v l:=by cases h with | nil=>exact .nil | acc h0 h=>exact .acc (hle.none h0) h
theorem PN.but (h:PN S0 Sz v l){o:Nat} (hs:∀j p,j≠o->Sz j=some p->S' j=some p){vs:List V}{q:Nat} (ho:Sz o=some (.row vs q)):PN S0 S' v l:=by
 cases h with
 | nil=>exact .nil
 | acc h0 h=>exact .acc h0 (hs _ _ (fun c=>by rw [c,ho]at h;cases h) h)
theorem PN.Ox (h:PN S0 Sz v l):QV S0 Sz v (.list (PF l) l.length):=by
 cases h with
 | nil=>exact .nil
 | acc h0 h=>exact .acc h h0 (by rw [ST,Pa]) (aFN l)
theorem PN.app (h:PN S0 Sz v l) (hs:bE S0 Sz) (hl:l.length<=1000000){a b:Nat}
 (hk:∀u S',bE S0 S'->(∀j o,Sz j=some o->(∀vs m,o≠ .dF vs 73 m)->S' j=some o)->PN S0 S' u (l++[(a,b)])->K u S'):aP 73 1 [(.int .u64 (.ofNat 0)),(.int .u64 (.ofNat 0))] [(0,2,.agg [nu a,nu b])] Sz fun v24 Sz=>kI 73 2 16 v v24 Sz K:=by
 refine QW (z:=[nu 0,nu 0]) rfl rfl rfl rfl fun j hj=>?_;have hj0:S0 j=none:=hs.none hj;have hs1:bE Sz (upd Sz j (.row [nu a,nu b] 73)):= .aH hj;refine uO (m:=1) upd_same rfl ?_;refine⟨rfl,?_⟩;cases h with
 | nil=>
  refine⟨by decide,fun i hi=>?_⟩;have hs2:bE (upd Sz j (.row [nu a,nu b] 73)) (upd (upd Sz j (.row [nu a,nu b] 73)) i (.dF [nu a,nu b] 73 1)):= .aH hi;exact hk _ _ ((hs.trans hs1).trans hs2) (fun q o e _=>hs2 _ _ (hs1 _ _ e)) (.acc (l:=[(a,b)]) ((hs.trans hs1).none hi) upd_same)
 | @acc i _ h0 h=>
  have hne:j≠i:=fun e=>by rw [e,h]at hj;cases hj
  have h':upd Sz j (.row [nu a,nu b] 73) i=some (.dF (XH l) 73 l.length):=by rw [aB (Ne.symm hne)];exact h
  simp only [h'];refine⟨trivial,trivial,ST l,by omega,?_⟩;have el:l.length+(0+1)=(l++[(a,b)]).length:=by simp
  rw [el];have hs2:∀q o,q≠i->Sz q=some o->upd (upd Sz j (.row [nu a,nu b] 73)) i (.dF (XH l++[nu a,nu b]) 73 (l++[(a,b)]).length) q=some o:=fun q o hq e=>by rw [aB hq];exact hs1 _ _ e
  exact hk _ _ (fun q o e=>hs2 q o (fun c=>by rw [c,h0]at e;cases e) (hs _ _ e)) (fun q o e hno=>hs2 q o (fun c=>by subst c;rw [h]at e;injection e with e;exact hno _ _ e.symm) e) (.acc h0 (by rw [aBB];exact upd_same))
theorem Wy{a b:Nat}:aP 73 1 [(.int .u64 (.ofNat 0)),(.int .u64 (.ofNat 0))] [(0,2,.agg [nu a,nu b])] Sz fun _ _=>True:=QW (z:=[nu 0,nu 0]) rfl rfl rfl rfl fun _ _=>trivial
theorem Wz{a b:Nat}{k:V->Prop}:gQ [(.int .u64 (.ofNat 0)),(.int .u64 (.ofNat 0))] [(0,1,nu a),(1,1,nu b)] k=k (.agg [nu a,nu b]):=propext ⟨fun h=>h.2.2.2.2,fun h=>⟨rfl,Nat.le_of_lt (Nat.lt_of_sub_eq_succ rfl),rfl,Nat.le_refl _,h⟩⟩
end
theorem ML.base{S0 S1 Sz:Hp}{w:V}{l:List (List Nat)} (h:ML S1 Sz w l) (hle:bE S0 S1):ML S0 Sz w l:=by
 cases h with
 | nil=>exact .nil
 | acc h0 q hl hv=>
  refine .acc (hle.none h0) q hl fun j l e=>?_;obtain⟨w,a,b⟩:=hv j l e;refine⟨w,a,?_⟩;cases b with
  | val=>exact .val
  | made b=>exact .made (b.base hle)
def oQ (fs rs:List (List Nat)) (X:Nat):List (Nat×Nat):=List.zipWith (fun f r=>(ev 23 f X,ev 23 r X)) fs rs
theorem Xa{fs rs:List (List Nat)}{X i:Nat} (h1:i<fs.length) (h2:i<rs.length):(oQ fs rs X).take (i+1)=(oQ fs rs X).take i++[(ev 23 fs[i] X,ev 23 rs[i] X)]:=by
 have hl:i<(List.zipWith (fun f r=>(ev 23 f X,ev 23 r X)) fs rs).length:=by rw [List.length_zipWith];omega
 unfold oQ;rw [List.take_add_one,List.getElem?_eq_getElem hl,List.getElem_zipWith];rfl
section
variable{M n:Nat}{x:VE}{K:KV}{two:Bool}
theorem Xb (hM:1000000<M) (hx:Deep PP bH gM M (n+2) x){A SL O:Hp}{vf vr:V}{fs rs:List (List Nat)} (mf:ML A SL vf fs) (mr:ML A SL vr rs) (hf:∀q∈fs,qB q) (hr:∀q∈rs,qB q) (hfl:∀q∈fs,q.length<1000) (hrl:∀q∈rs,q.length<1000) (hlen:rs.length=fs.length) (hsl:fs.length<1000)
 {bp o N i m0:Nat} {ws:List V} (hN:N<1000) (hi:i<N) (hws:ws.length=N) (hbp:SL bp=some (.row (pv two) 25)) (ho:SL o=none) (hL:bE SL O)
 (hK:∀Sz w,bE (del O o) Sz->Sz o=some (.row (ws.set i w) 44)->PN (del O o) Sz w (oQ fs rs (i+1))->dS x m0 (.ptr bp 0) vf vr (.own o 0 N N) (ni N) (ni (i+1)) Sz K):
 ∀(r k m:Nat) (Sz:Hp) (w:V),k+r=fs.length->r<m->bE (del O o) Sz->Sz o=some (.row (ws.set i w) 44)->PN (del O o) Sz w ((oQ fs rs (i+1)).take k)->
  fF x m m0 (.ptr bp 0) vf vr (.own o 0 N N) (ni i) (ni N) (ni i) (ni fs.length) (ni k) Sz K:=by
 have hL':bE SL (del O o):=fun j p e=>by
  have hj:j≠o:=fun c=>by rw [c,ho]at e;cases e
  rw [zN hj];exact hL j p e
 intro r;induction r with
 | zero=>
  intro k m Sz w hk hm hle hso hpn;obtain⟨m,rfl⟩:=Nat.exists_eq_succ_of_ne_zero (show m≠0 by omega);rw [mF];unfold gZ;refine aE ?_;rw [aR,lY (by omega),aZ,aX (by omega)];have hl:(oQ fs rs (i+1)).length<=k:=by unfold oQ;rw [List.length_zipWith];omega
  rw [List.take_of_length_le hl]at hpn;exact hK Sz w hle hso hpn
 | succ r ih=>
  intro k m Sz w hk hm hle hso hpn;obtain⟨m,rfl⟩:=Nat.exists_eq_succ_of_ne_zero (show m≠0 by omega);rw [mF];unfold gZ;refine aE ?_;have hk1:k<fs.length:=by omega
  have hk2:k<rs.length:=by omega
  have hLS:=hL'.trans hle;have mf':=mf.up hLS;have mr':=mr.up hLS;obtain⟨p1,u1,hp1,hl1,q1⟩:=mf'.at (List.getElem?_eq_getElem hk1);obtain⟨p2,u2,hp2,hl2,q2⟩:=mr'.at (List.getElem?_eq_getElem hk2);have hl1:=fun K=>hl1 Sz (.refl Sz) K;have hl2:=fun K=>hl2 Sz (.refl Sz) K;have hb:=hLS _ _ hbp;have e1:(pv two)[1]? =some (nu 23):=rfl
  have hio:∀{k:V->Prop},bY 1 (.own o 0 N N) (ni i) k=k (.ptr o i):=fun {k}=>by
   show(i<N/\k (.ptr o (0+i*1)))=_;rw [Nat.mul_one,Nat.zero_add];exact propext ⟨fun h=>h.2,fun h=>⟨hi,h⟩⟩
  have hlw:∀{K:KV},aS (.ptr o i) Sz K=K w Sz:=fun {K}=>cG hso (by rw [List.getElem?_set_self (by omega)]);rw [aR,AZ hk1,cU,hio,hlw,hp1,hl1,aX (by omega),LB (by omega),aN,cG hb e1,hp2,hl2,aX (by omega),LB (by omega),aN,cG hb e1];refine UZ hM hx q1.nv (by have:=hfl _ (List.getElem_mem hk1);omega) (hf _ (List.getElem_mem hk1)) (show i+1<18446744073709551616 by omega) q23 ?_;rw [cG hb e1,bO,hl2,bQ q2.same,hlw,bQ hpn.same];refine UZ hM hx q2.nv (by have:=hrl _ (List.getElem_mem hk2);omega) (hr _ (List.getElem_mem hk2)) (show i+1<18446744073709551616 by omega) q23 ?_;rw [hlw,bQ hpn.same,Wz,hlw,bQ hpn.same];refine⟨Wy,?_⟩;refine hpn.app hle (by rw [List.length_take];omega) fun u S2 gP k2 pn2=>?_;rw [hio,EB (k2 _ _ hso (fun vs m c=>by cases c)) (by rw [List.length_set];omega) pn2.one,List.set_set,aX (by omega)];refine ih (k+1) m _ u (by omega) (by omega) (pL gP zK) upd_same ?_;rw [Xa hk1 hk2];exact pn2.but (o:=o) (fun j p hj e=>by rw [aB hj];exact e) (k2 _ _ hso (fun vs m c=>by cases c))
structure aFO (SL:Hp) (o N:Nat) (fs rs:List (List Nat)) (i:Nat) (Sz:Hp) (ws:List V):Prop where
 le:bE SL Sz
 row:Sz o=some (.row ws 44)
 len:ws.length=N
 done:∀j,j<i->∃w,ws[j]? =some w/\PN SL Sz w (oQ fs rs (j+1))
 todo:∀j,i<=j->j<N->ws[j]? =some .nil
theorem Sf (hM:1000000<M) (hx:Deep PP bH gM M (n+15) x){A SL:Hp}{vf vr:V}{fs rs:List (List Nat)} (mf:ML A SL vf fs) (mr:ML A SL vr rs) (hf:∀q∈fs,qB q) (hr:∀q∈rs,qB q) (hfl:∀q∈fs,q.length<1000) (hrl:∀q∈rs,q.length<1000) (hlen:rs.length=fs.length) (hsl:fs.length<1000) (heq:∀i (h1:i<fs.length) (h2:i<rs.length),rs[i].length=fs[i].length)
 {bp o N:Nat} (hN:N<1000) (hbp:SL bp=some (.row (pv two) 25)) (ho:SL o=none)
 (hK:∀Sz ws u,aFO SL o N fs rs N Sz ws->ML SL Sz u (dW fs rs)->bC (.tuple [.own o 0 N N,u,ni 0]) Sz K):
 ∀(r i m:Nat) (Sz:Hp) (ws:List V),i+r=N->r<m->aFO SL o N fs rs i Sz ws->dS x m (.ptr bp 0) vf vr (.own o 0 N N) (ni N) (ni i) Sz K:=by
 intro r;induction r with
 | zero=>
  intro i m Sz ws hi hm h;obtain⟨m,rfl⟩:=Nat.exists_eq_succ_of_ne_zero (show m≠0 by omega);rw [tB];unfold nA;refine aE ?_;rw [aR,lY (by omega),aZ,iU (h.le _ _ hbp),cF (by rw [hH];omega),List.drop_zero,List.take_of_length_le (by rw [hH];omega)];refine aEb (n:=n) hM hx hf hr (fun q hq=>by have:=hfl q hq;omega) (by omega) hlen heq (mf.up h.le) (mr.up h.le) fun u S2 gP m2=>?_;have e:i=N:=by omega
  subst e;have m2':=m2.base h.le;exact hK S2 ws u ⟨h.le.trans gP,gP _ _ h.row,h.len,fun j hj=>by obtain⟨w,a,b⟩:=h.done j hj;exact⟨w,a,b.up gP⟩,h.todo⟩ m2'
 | succ r ih=>
  intro i m Sz ws hi hm h;obtain⟨m,rfl⟩:=Nat.exists_eq_succ_of_ne_zero (show m≠0 by omega);rw [tB];unfold nA;refine aE ?_;have hlt:i<N:=by omega
  rw [aR,AZ hlt,cU,(mf.up h.le).len,hx.most];have hnil:=h.todo i (Nat.le_refl _) hlt
  have hset:ws.set i .nil=ws:=by
   apply List.ext_getElem?;intro j;rcases Nat.decEq i j with c | c
   ·rw [List.getElem?_set_ne c]
   ·subst c;rw [List.getElem?_set_self (by rw [h.len];exact hlt),hnil]
  refine Xb (n:=n+13) hM hx mf mr hf hr hfl hrl hlen hsl hN hlt h.len hbp ho h.le (fun S2 w gP so2 pn2=>?_) fs.length 0 M Sz .nil (by omega) (by omega) Ci (by rw [hset];exact h.row) (by rw [List.take_zero];exact .nil)
  have hL':bE SL (del Sz o):=fun j p e=>by
   have hj:j≠o:=fun c=>by rw [c,ho]at e;cases e
   rw [zN hj];exact h.le j p e
  refine ih (i+1) m S2 (ws.set i w) (by omega) (by omega) ⟨hL'.trans gP,so2,by rw [List.length_set];exact h.len,fun j hj=>?_,fun j h1 h2=>by rw [List.getElem?_set_ne (by omega)];exact h.todo j (by omega) h2⟩;by_cases c:j=i
  ·subst c
   exact⟨w,by rw [List.getElem?_set_self (by rw [h.len];exact hlt)],pn2.base hL'⟩
  ·obtain⟨w',a,b⟩:=h.done j (by omega)
   exact⟨w',by rw [List.getElem?_set_ne (Ne.symm c)];exact a,b.but (o:=o) (fun j p hj e=>gP j p (by rw [zN hj];exact e)) h.row⟩
theorem Cj (T:Nat):∀(l D:List Nat),(Oy T l D).length=l.length:=by
 intro l;induction l with
 | nil=>intro D;rfl
 | cons a l ih=>intro D;show(Oy T l _).length+1=_;rw [ih];rfl
theorem Ck (T:Nat):∀(k:Nat) (D:List Nat),(Oz T k D).length=k:=by
 intro k;induction k with
 | zero=>intro D;rfl
 | succ k ih=>intro D;show(Oz T k _).length+1=_;rw [ih]
theorem aBC{T:Nat}:∀(l D:List Nat),(T+1+T)*l.length<=D.length->(∀c∈D,c<23)->∀q∈Oy T l D,q.length=T+1/\∀c∈q,c<23:=by
 intro l;induction l with
 | nil=>intro D _ _ q hq;cases hq
 | cons a l ih=>
  intro D hD hc q hq;rw [List.length_cons,Nat.mul_succ]at hD;rcases List.mem_cons.1 hq with rfl | hq
  ·refine⟨by simp;omega,fun c h=>?_⟩
   rcases List.mem_cons.1 h with rfl | h
   ·exact Nat.mod_lt _ (by decide)
   ·exact hc c (List.mem_of_mem_take h)
  ·exact ih _ (by rw [List.length_drop];omega) (fun c h=>hc c (List.mem_of_mem_drop h)) q hq
theorem aBD{T:Nat}:∀(k:Nat) (D:List Nat),(T+1+T)*k<=D.length->(∀c∈D,c<23)->∀q∈Oz T k D,q.length=T+1/\∀c∈q,c<23:=by
 intro k;induction k with
 | zero=>intro D _ _ q hq;cases hq
 | succ k ih=>
  intro D hD hc q hq;rw [Nat.mul_succ]at hD;rcases List.mem_cons.1 hq with rfl | hq
  ·refine⟨by simp;omega,fun c h=>?_⟩
   rcases List.mem_cons.1 h with rfl | h
   ·exact Nat.mod_lt _ (by decide)
   ·exact hc c (List.mem_of_mem_drop (List.mem_of_mem_take h))
  ·exact ih _ (by rw [List.length_drop];omega) (fun c h=>hc c (List.mem_of_mem_drop h)) q hq
def Lb (fs rs:List (List Nat)) (N:Nat):List Dt:=(List.range N).map fun i=> .list (PF (oQ fs rs (i+1))) (oQ fs rs (i+1)).length
def pM (l:List (List Nat)):List Dt:=l.map fun l=> .list (tV l) l.length
theorem aBE:gM lQ=none:=rfl
theorem Pb (hM:1000000<M) (hx:Deep PP bH gM M (n+16) x){S0:Hp}{t:Nat}{s:BitVec 64}{ah:List Nat}{va:V}{l:List Nat} (ha:NV (del S0 t) va l) (h64:qB l) (hl:l.length=2) (h:Tape S0 t s ah 0)
 (hK:∀fs rs,fs=Oy (tT two) l (drawn ((tT two+(1+tT two))*l.length) ah s)->rs=Oz (tT two) l.length (drawn ((tT two+(1+tT two))*l.length) ah s)->∀O1 O2,K (.tuple [.list O1 (Lb fs rs (tN two)) (tN two),.list O2 (pM (dW fs rs)) (dW fs rs).length,ni 0]) (del S0 t)):x.call lQ [.agg (pv two),va,.ptr t 0] S0 K:=by
 refine hx.call aBE fun y hy=>?_;rw [Cl];unfold MZ;refine cO jL fun bp hbp=>?_;have rp:upd S0 bp (.row (pv two) 25) bp=some (.row (pv two) 25):=upd_same;have le1:bE S0 (upd S0 bp (.row (pv two) 25)):= .aH hbp;have hbt:bp≠t:=by obtain⟨w,q,_⟩:=h;exact ne_of hbp q
 have aFP:∀{K:KV},bF 12 (.ptr bp 0) (upd S0 bp (.row (pv two) 25)) K=K (.agg (pv two)) (upd S0 bp (.row (pv two) 25)):=fun {K}=>by
  rw [iU rp,cF (by rw [hH];omega),List.drop_zero,List.take_of_length_le (by rw [hH];omega)]
 rw [aFP];refine Pc hy ?_;simp only [aF,jV,Bool.not_true,aI,ha.len,aFP];refine ZC (n:=n+14) hy ?_;rw [nB,decide_eq_true hl,dB];simp only [Bool.not_true];rw [aZ,hy.most];have tp1:Tape (upd S0 bp (.row (pv two) 25)) t s ah 0:=h.keep fun j o e _=>le1 j o e;have ha1:∀c∈drawn ((tT two+(1+tT two))*l.length) ah s,c<23:=zM _ _ _;have hT:tT two<=2:=by cases two<;>decide
 have hd0:0+(2*tT two+1)*l.length<900000:=by rw [hl];omega
 refine Ww (n:=n+11) (two:=two) (S0:=S0) (t:=t) (bp:=bp) (v29:= .nil) (FS:=Oy (tT two) l (drawn ((tT two+(1+tT two))*l.length) ah s)) (RS:=Oz (tT two) l.length (drawn ((tT two+(1+tT two))*l.length) ah s)) hM hy ha h64 (by omega) ?_ l.length 0 M _ .nil .nil s ah [] [] 0 (by omega) (by omega) hd0 rfl rfl ((Ci).trans le1) tp1 rp .nil .nil (fun j m m' c=>by cases c) (by simp) (by simp);intro Sz vf vr hle hb mf mr;have hK:=hK _ _ rfl rfl;have f1:=aBC (T:=tT two) l (drawn ((tT two+(1+tT two))*l.length) ah s) (by rw [mZ];exact Nat.le_of_eq (by congr 1;omega)) ha1;have r1:=aBD (T:=tT two) l.length (drawn ((tT two+(1+tT two))*l.length) ah s) (by rw [mZ];exact Nat.le_of_eq (by congr 1;omega)) ha1;have f2:=Cj (tT two) l (drawn ((tT two+(1+tT two))*l.length) ah s);have r2:=Ck (tT two) l.length (drawn ((tT two+(1+tT two))*l.length) ah s);generalize Oy (tT two) l (drawn ((tT two+(1+tT two))*l.length) ah s)=fs at hK f1 f2 mf;generalize Oz (tT two) l.length (drawn ((tT two+(1+tT two))*l.length) ah s)=rs at hK r1 r2 mr;have hN:tN two<=7:=by cases two<;>decide
 have e5:(pv two)[5]? =some (ni (tN two)):=rfl;rw [aN,cG hb e5];refine⟨Nat.le_refl _,by omega,by omega,?_⟩;have hz:AK [(.slice none 0 0)]=some [.nil]:=rfl;unfold mY;rw [hz];intro o ho
 have e:(List.replicate (tN two) [V.nil]).flatten=List.replicate (tN two) .nil:=by
  generalize tN two=k;induction k with
  | zero=>rfl
  | succ k ih=>rw [List.replicate_succ,List.flatten_cons,ih,List.replicate_succ];rfl
 rw [e];show dS y y.most _ _ _ (.own o 0 (tN two) (tN two)) (ni (tN two)) (ni 0) _ K;rw [hy.most];refine Sf (n:=n) (SL:=Sz) hM hy mf mr (fun q hq c h=>?_) (fun q hq c h=>?_) (fun q hq=>?_) (fun q hq=>?_) (by omega) (by omega) (fun i h1 h2=>?_) (by omega) hb ho ?_ (tN two) 0 M _ (List.replicate (tN two) .nil) (by omega) (by omega) ⟨.aH ho,upd_same,by simp,fun j hj=>absurd hj (by omega),fun j _ hj=>by rw [List.getElem?_replicate,if_pos hj]⟩
 ·exact Nat.lt_trans ((f1 q hq).2 c h) (by decide)
 ·exact Nat.lt_trans ((r1 q hq).2 c h) (by decide)
 ·rw [(f1 q hq).1];omega
 ·rw [(r1 q hq).1];omega
 ·rw [(f1 _ (List.getElem_mem h1)).1,(r1 _ (List.getElem_mem h2)).1]
 ·intro S2 ws u inv m2
  have hle2:bE (del S0 t) S2:=hle.trans inv.le;have m3:=m2.base hle
  have hfz:QV (del S0 t) S2 (.own o 0 (tN two) (tN two)) (.list (Lb fs rs (tN two)) (tN two)):=by
   refine .own inv.row (hle.none ho) (Nat.le_refl _) (by unfold Lb;rw [inv.len];simp) fun j v d a b=>?_;rw [Nat.zero_add]at a;unfold Lb at b;rw [List.getElem?_map]at b;cases hq:(List.range (tN two))[j]? with
   | none=>rw [hq]at b;cases b
   | some k=>
    rw [hq]at b;injection b with b;subst b;obtain⟨hj,hk⟩:=List.getElem?_eq_some_iff.1 hq;rw [List.getElem_range]at hk;subst hk;obtain⟨w,a2,pn⟩:=inv.done j (by simpa using hj);rw [a]at a2;injection a2 with a2;subst a2;exact(pn.base hle).Ox
  refine⟨del S0 t,fun O=> .tuple [.list (O 0) (Lb fs rs (tN two)) (tN two),.list (O 1) (pM (dW fs rs)) (dW fs rs).length,ni 0],hle2,fun O=> .tup ⟨rfl,fun j v u e1 e2=>?_⟩,fun O=>hK _ _⟩
  match j with
  | 0=>injection e1 with e1;injection e2 with e2;subst e1 e2;exact .dat hfz
  | 1=>injection e1 with e1;injection e2 with e2;subst e1 e2;exact .dat m3.Ox
  | 2=>injection e1 with e1;injection e2 with e2;subst e1 e2;exact .keep _
  | j+3=>simp at e1
end
set_option maxRecDepth 100000
noncomputable def eW (x:VE) (m:Nat) (t2 t6 t7 t44 t45 t46:V) (Sz:Hp) (K:KV):Prop:=eT PP bH kC x [.r,.r,.r,.r,.r,.r,.l,.r,.d] m [] [t2,t6,t7,t44,t45,t46] Sz K
noncomputable def JS (x:VE) (a0 a1:V) (Sz:Hp) (K:KV):Prop:=
 jO 25 a0 Sz fun v0 Sz=>
 x.call gE [a1] Sz fun v1 Sz=>
 x.call fA [v1] Sz fun v2 Sz=>
 bF 12 v0 Sz fun v3 Sz=>
 x.call nU [v3] Sz fun v4 Sz=>
 IP .not v4 fun v5=>
 aD x.most (aC false v5 (fun k=>k a1 Sz) Sz fun v6 Sz=>
 aD x.most (aC false v5 (fun k=>aV v6 fun v7=>
 k v7 Sz) Sz fun v8 Sz=>
 aD x.most (aC false v5 (fun k=>bI 6 v0 fun v9=>
 k v9 Sz) Sz fun v10 Sz=>
 aD x.most (aC false v5 (fun k=>aS v10 Sz fun v11 Sz=>
 k v11 Sz) Sz fun v12 Sz=>
 aD x.most (aC false v5 (fun k=>aG PP .gtr 3 v8 v12 fun v13=>
 k v13 Sz) Sz fun v14 Sz=>
 aD x.most (dA v5 (.bool true) v14 fun v15=>
 aD x.most (aC false v15 (fun k=>k v1 Sz) Sz fun v16 Sz=>
 aD x.most (aC false v15 (fun k=>x.call cQ [v16] Sz fun v17 Sz=>
 k v17 Sz) Sz fun v18 Sz=>
 aD x.most (aC false v15 (fun k=>aV v18 fun v19=>
 k v19 Sz) Sz fun v20 Sz=>
 aD x.most (aC false v15 (fun k=>k a1 Sz) Sz fun v21 Sz=>
 aD x.most (aC false v15 (fun k=>aV v21 fun v22=>
 k v22 Sz) Sz fun v23 Sz=>
 aD x.most (aC false v15 (fun k=>aG PP .neq 3 v20 v23 fun v24=>
 k v24 Sz) Sz fun v25 Sz=>
 aD x.most (dA v15 (.bool true) v25 fun v26=>
 aD x.most (aC false v26 (fun k=>k a1 Sz) Sz fun v27 Sz=>
 aD x.most (aC false v26 (fun k=>k (.func lI [] [v0]) Sz) Sz fun v28 Sz=>
 aD x.most (aC false v26 (fun k=>x.call dU [v27,v28] Sz fun v29 Sz=>
 k v29 Sz) Sz fun v30 Sz=>
 aD x.most (dA v26 (.bool true) v30 fun v31=>
 iG v31 (bC .nil Sz K) (bI 6 v0 fun v32=>
 aS v32 Sz fun v33 Sz=>
 aG PP .add 3 v33 (.int .i64 (.ofNat 1)) fun v34=>
 Gy 22 8 [(.int .u64 (.ofNat 0))] v34 v34 Sz fun v35 Sz=>
 aP 22 1 [(.int .u64 (.ofNat 0))] [(0,1,(.int .u64 (.ofNat 1)))] Sz fun v36 Sz=>
 aV a1 fun v37=>
 eW x x.most v0 v35 v36 a1 v37 (.int .i64 (.ofNat 0)) Sz K))))))))))))))))))
theorem XJ (x:VE) (a0 a1:V) (Sz:Hp) (K:KV):lG PP bH kC x [a0,a1] Sz K=JS x a0 a1 Sz K:=by kernel_rfl
noncomputable def lZ (x:VE) (m0:Nat) (t2 t6 t7 t44 t45 t46:V) (Sz:Hp) (K:KV):Prop:=
 cT Sz fun Sz=>
 aG PP .lss 3 t46 t45 fun v0=>
 iG v0 (bY 1 t44 t46 fun v1=>
 aS v1 Sz fun v2 Sz=>
 AL .u64 v2 fun v3=>
 bI 1 t2 fun v4=>
 aS v4 Sz fun v5 Sz=>
 x.call yR [v3,v5] Sz fun v6 Sz=>
 tK 0 v6 fun v7=>
 tK 1 v6 fun v8=>
 bI 1 t2 fun v9=>
 aS v9 Sz fun v10 Sz=>
 bI 1 t2 fun v11=>
 aS v11 Sz fun v12 Sz=>
 x.call oW [(.int .u64 (.ofNat 0)),v7,v10] Sz fun v13 Sz=>
 aS v11 Sz fun v14 _=>
 aL v14 v12 (aS v11 Sz fun v15 _=>
 aL v15 v12 ((aP 22 2 [(.int .u64 (.ofNat 0))] [(0,1,(.int .u64 (.ofNat 1))),(1,1,v13)] Sz fun v16 Sz=>
 True)/\(aP 22 2 [(.int .u64 (.ofNat 0))] [(0,1,(.int .u64 (.ofNat 1))),(1,1,v13)] Sz fun v17 Sz=>
 x.call qU [t7,v17,v12] Sz fun v18 Sz=>
 aG PP .add 3 t46 (.int .i64 (.ofNat 1)) fun v19=>
 eW x m0 t2 t6 v18 t44 t45 v19 Sz K)))) (Hd 1 t6 t7 Sz fun v20 Sz=>
 bC t6 Sz K)
theorem rQ (x:VE) (m0:Nat) (t2 t6 t7 t44 t45 t46:V) (Sz:Hp) (K:KV):eW x (m0+1) t2 t6 t7 t44 t45 t46 Sz K=lZ x m0 t2 t6 t7 t44 t45 t46 Sz K:=by kernel_rfl
noncomputable def EY (x:VE) (a0 a1:V) (Sz:Hp) (K:KV):Prop:=
 aG PP .lss 3 a0 (.int .i64 (.ofNat 1)) fun v0=>
 aD x.most (aC false v0 (fun k=>k a0 Sz) Sz fun v1 Sz=>
 aD x.most (aC false v0 (fun k=>bI 5 a1 fun v2=>
 k v2 Sz) Sz fun v3 Sz=>
 aD x.most (aC false v0 (fun k=>aS v3 Sz fun v4 Sz=>
 k v4 Sz) Sz fun v5 Sz=>
 aD x.most (aC false v0 (fun k=>aG PP .gtr 3 v1 v5 fun v6=>
 k v6 Sz) Sz fun v7 Sz=>
 aD x.most (dA v0 (.bool true) v7 fun v8=>
 bC v8 Sz K)))))
theorem RV (x:VE) (a0 a1:V) (Sz:Hp) (K:KV):lG PP bH lI x [a0,a1] Sz K=EY x a0 a1 Sz K:=by kernel_rfl
noncomputable def JT (x:VE) (a0 a1 a2 a3 a4:V) (Sz:Hp) (K:KV):Prop:=
 jO 25 a0 Sz fun v0 Sz=>
 bF 12 v0 Sz fun v1 Sz=>
 x.call xA [v1,a1,a2] Sz fun v2 Sz=>
 tK 0 v2 fun v3=>
 tK 1 v2 fun v4=>
 eU [(.int .u64 (.ofNat 0)),(.int .u64 (.ofNat 0)),(.slice none 0 0)] 86 Sz fun v5 Sz=>
 rH 3 v5 v3 Sz fun Sz=>
 IP .not v4 fun v6=>
 aD x.most (aC false v6 (fun k=>k a3 Sz) Sz fun v7 Sz=>
 aD x.most (aC false v6 (fun k=>aV v7 fun v8=>
 k v8 Sz) Sz fun v9 Sz=>
 aD x.most (aC false v6 (fun k=>bI 6 v0 fun v10=>
 k v10 Sz) Sz fun v11 Sz=>
 aD x.most (aC false v6 (fun k=>aS v11 Sz fun v12 Sz=>
 k v12 Sz) Sz fun v13 Sz=>
 aD x.most (aC false v6 (fun k=>aG PP .add 3 v13 (.int .i64 (.ofNat 1)) fun v14=>
 k v14 Sz) Sz fun v15 Sz=>
 aD x.most (aC false v6 (fun k=>aG PP .neq 3 v9 v15 fun v16=>
 k v16 Sz) Sz fun v17 Sz=>
 aD x.most (dA v6 (.bool true) v17 fun v18=>
 aD x.most (aC false v18 (fun k=>k a4 Sz) Sz fun v19 Sz=>
 aD x.most (aC false v18 (fun k=>aV v19 fun v20=>
 k v20 Sz) Sz fun v21 Sz=>
 aD x.most (aC false v18 (fun k=>k a2 Sz) Sz fun v22 Sz=>
 aD x.most (aC false v18 (fun k=>aV v22 fun v23=>
 k v23 Sz) Sz fun v24 Sz=>
 aD x.most (aC false v18 (fun k=>bI 6 v0 fun v25=>
 k v25 Sz) Sz fun v26 Sz=>
 aD x.most (aC false v18 (fun k=>aS v26 Sz fun v27 Sz=>
 k v27 Sz) Sz fun v28 Sz=>
 aD x.most (aC false v18 (fun k=>aG PP .mul 3 (.int .i64 (.ofNat 2)) v28 fun v29=>
 k v29 Sz) Sz fun v30 Sz=>
 aD x.most (aC false v18 (fun k=>aG PP .add 3 v30 (.int .i64 (.ofNat 1)) fun v31=>
 k v31 Sz) Sz fun v32 Sz=>
 aD x.most (aC false v18 (fun k=>aG PP .mul 3 v24 v32 fun v33=>
 k v33 Sz) Sz fun v34 Sz=>
 aD x.most (aC false v18 (fun k=>aG PP .neq 3 v21 v34 fun v35=>
 k v35 Sz) Sz fun v36 Sz=>
 aD x.most (dA v18 (.bool true) v36 fun v37=>
 iG v37 (x.call bP [a4] Sz fun v38 Sz=>
 bC v38 Sz K) (bF 3 v5 Sz fun v39 Sz=>
 bF 3 v5 Sz fun v40 Sz=>
 x.call gC [v40,a3,(.int .i64 (.ofNat 1)),(.int .i64 (.ofNat 0))] Sz fun v41 Sz=>
 bF 3 v5 Sz fun v42 _=>
 aL v42 v39 (x.call aQ [v39,a4,v41] Sz fun v43 Sz=>
 bC v43 Sz K))))))))))))))))))))
theorem XK (x:VE) (a0 a1 a2 a3 a4:V) (Sz:Hp) (K:KV):lG PP bH rT x [a0,a1,a2,a3,a4] Sz K=JT x a0 a1 a2 a3 a4 Sz K:=by kernel_rfl
noncomputable def QX (x:VE) (a0 a1 a2:V) (Sz:Hp) (K:KV):Prop:=
 jO 25 a0 Sz fun v0 Sz=>
 eU [(.int .u64 (.ofNat 0)),(.int .u64 (.ofNat 0)),(.slice none 0 0)] 86 Sz fun v1 Sz=>
 bI 1 v0 fun v2=>
 aS v2 Sz fun v3 Sz=>
 x.call yR [a1,v3] Sz fun v4 Sz=>
 tK 0 v4 fun v5=>
 tK 1 v4 fun v6=>
 bI 1 v0 fun v7=>
 aS v7 Sz fun v8 Sz=>
 gQ [(.int .u64 (.ofNat 0)),(.int .u64 (.ofNat 0)),(.slice none 0 0)] [(0,1,v8),(1,1,v5),(2,1,a2)] fun v9=>
 bF 12 v0 Sz fun v10 Sz=>
 x.call nU [v10] Sz fun v11 Sz=>
 aS v7 Sz fun v12 _=>
 aL v12 v8 (aD x.most (aC true v11 (fun k=>k v6 Sz) Sz fun v13 Sz=>
 aD x.most (aC true v11 (fun k=>aG PP .eql 61 v13 (.int .i64 (.ofNat 0)) fun v14=>
 k v14 Sz) Sz fun v15 Sz=>
 aD x.most (dA v11 v15 (.bool false) fun v16=>
 aD x.most (aC true v16 (fun k=>k a2 Sz) Sz fun v17 Sz=>
 aD x.most (aC true v16 (fun k=>aV v17 fun v18=>
 k v18 Sz) Sz fun v19 Sz=>
 aD x.most (aC true v16 (fun k=>bI 7 v0 fun v20=>
 k v20 Sz) Sz fun v21 Sz=>
 aD x.most (aC true v16 (fun k=>aS v21 Sz fun v22 Sz=>
 k v22 Sz) Sz fun v23 Sz=>
 aD x.most (aC true v16 (fun k=>bI 8 v0 fun v24=>
 k v24 Sz) Sz fun v25 Sz=>
 aD x.most (aC true v16 (fun k=>aS v25 Sz fun v26 Sz=>
 k v26 Sz) Sz fun v27 Sz=>
 aD x.most (aC true v16 (fun k=>aG PP .add 3 v27 (.int .i64 (.ofNat 1)) fun v28=>
 k v28 Sz) Sz fun v29 Sz=>
 aD x.most (aC true v16 (fun k=>aG PP .mul 3 v23 v29 fun v30=>
 k v30 Sz) Sz fun v31 Sz=>
 aD x.most (aC true v16 (fun k=>aG PP .eql 3 v19 v31 fun v32=>
 k v32 Sz) Sz fun v33 Sz=>
 aD x.most (dA v16 v33 (.bool false) fun v34=>
 rH 3 v1 v9 Sz fun Sz=>
 aD x.most (gH true v16 v27 (fun k=>aS v25 Sz fun v35 _=>
 aL v35 v27 k) (aD x.most (gH true v16 v23 (fun k=>aS v21 Sz fun v36 _=>
 aL v36 v23 k) (bF 3 v1 Sz fun v37 _=>
 bC (.tuple [v37,v34]) Sz K))))))))))))))))))
theorem Hf (x:VE) (a0 a1 a2:V) (Sz:Hp) (K:KV):lG PP bH xA x [a0,a1,a2] Sz K=QX x a0 a1 a2 Sz K:=by kernel_rfl
noncomputable def xV (x:VE) (a0 a1 a2:V) (Sz:Hp) (K:KV):Prop:=
 jO 86 a0 Sz fun v0 Sz=>
 x.call bP [a1] Sz fun v1 Sz=>
 eU [(.slice none 0 0)] 32 Sz fun v2 Sz=>
 rH 1 v2 v1 Sz fun Sz=>
 eU [(.int .i64 (.ofNat 0))] 3 Sz fun v3 Sz=>
 rH 1 v3 (.int .i64 (.ofNat 0)) Sz fun Sz=>
 zT x a2 [3,7,8] [v0,v2,v3] 28 (tL PP aQ [.r,.r,.r,.l,.r,.d]) (tO PP aQ [.r,.r,.r,.l,.r,.d]) (qD PP aQ [.r,.r,.r,.l,.r,.d]) Sz fun pe Sz=>
 HV pe (aS v2 Sz fun v5 Sz=>
 bC v5 Sz K) (bC .nil Sz K) (fun v4=>OC v4 0 (aS v2 Sz fun v6 Sz=>
 bC v6 Sz K) (False))
theorem JC (x:VE) (a0 a1 a2:V) (Sz:Hp) (K:KV):lG PP bH aQ x [a0,a1,a2] Sz K=xV x a0 a1 a2 Sz K:=by kernel_rfl
noncomputable def pP (x:VE) (l:Nat) (t3 t7 t8 a0:V) (Sz:Hp) (K:KV):Prop:=
 KG l Sz fun Sz=>
 aS t7 Sz fun v0 Sz=>
 aS t8 Sz fun v1 Sz=>
 aS t7 Sz fun v2 Sz=>
 aS t8 Sz fun v3 Sz=>
 bY 1 v2 v3 fun v4=>
 aS v4 Sz fun v5 Sz=>
 bI 0 t3 fun v6=>
 aS v6 Sz fun v7 Sz=>
 x.call mX [v5,a0,v7] Sz fun v8 Sz=>
 aS t8 Sz fun v9 _=>
 aL v9 v3 (aS t7 Sz fun v10 _=>
 aL v10 v2 (aS t8 Sz fun v11 _=>
 aL v11 v1 (aS t7 Sz fun v12 _=>
 aL v12 v0 (bY 1 v0 v1 fun v13=>
 rH 1 v13 v8 Sz fun Sz=>
 aS t8 Sz fun v14 Sz=>
 aG PP .add 3 v14 (.int .i64 (.ofNat 1)) fun v15=>
 rH 1 t8 v15 Sz fun Sz=>
 yB l .ready none true Sz K))))
theorem zR (x:VE) (l:Nat) (t3 t7 t8 a0:V) (Sz:Hp) (K:KV):HW PP bH x 28 (tL PP aQ [.r,.r,.r,.l,.r,.d]) (tO PP aQ [.r,.r,.r,.l,.r,.d]) (qD PP aQ [.r,.r,.r,.l,.r,.d]) l [t3,t7,t8] [a0] Sz K=pP x l t3 t7 t8 a0 Sz K:=by kernel_rfl
theorem zQ:[3,7,8]=JP bH 28 (qD PP aQ [.r,.r,.r,.l,.r,.d]):=by kernel_rfl
noncomputable def qF (x:VE) (a0 a1 a2 a3:V) (Sz:Hp) (K:KV):Prop:=
 jO 86 a0 Sz fun v0 Sz=>
 jO 32 a1 Sz fun v1 Sz=>
 jO 3 a2 Sz fun v2 Sz=>
 jO 3 a3 Sz fun v3 Sz=>
 bC (.func bD [] [v0,v1,v2,v3]) Sz K
theorem xB (x:VE) (a0 a1 a2 a3:V) (Sz:Hp) (K:KV):lG PP bH gC x [a0,a1,a2,a3] Sz K=qF x a0 a1 a2 a3 Sz K:=by kernel_rfl
noncomputable def bW (x:VE) (m:Nat) (t0 t1 t2 t3 t4 t13 t14 t15:V) (Sz:Hp) (K:KV):Prop:=eT PP bH bD x [.r,.d] m [] [t0,t1,t2,t3,t4,t13,t14,t15] Sz K
noncomputable def cA (x:VE) (m:Nat) (m0:Nat) (t0 t1 t2 t3 t4 t7 t13 t14 t15 t21 t22 t23:V) (Sz:Hp) (K:KV):Prop:=eT PP bH bD x [.r,.d,.d,.r,.r,.l,.d,.r,.l,.r,.d] m [m0] [t0,t1,t2,t3,t4,t7,t13,t14,t15,t21,t22,t23] Sz K
noncomputable def bZ (x:VE) (m:Nat) (m0:Nat) (t0 t1 t2 t3 t4 t7 t13 t14 t15 t38 t39 t40:V) (Sz:Hp) (K:KV):Prop:=eT PP bH bD x [.r,.d,.d,.r,.r,.l,.d,.r,.r,.r,.d] m [m0] [t0,t1,t2,t3,t4,t7,t13,t14,t15,t38,t39,t40] Sz K
noncomputable def oF (x:VE) (a0 a1 a2 a3 a4:V) (Sz:Hp) (K:KV):Prop:=
 bI 2 a1 fun v0=>
 aS v0 Sz fun v1 Sz=>
 aV v1 fun v2=>
 bW x x.most a0 a1 a2 a3 a4 v1 v2 (.int .i64 (.ofNat 0)) Sz K
theorem uT (x:VE) (a0 a1 a2 a3 a4:V) (Sz:Hp) (K:KV):lG PP bH bD x [a0,a1,a2,a3,a4] Sz K=oF x a0 a1 a2 a3 a4 Sz K:=by kernel_rfl
noncomputable def fB (x:VE) (m0:Nat) (t0 t1 t2 t3 t4 t13 t14 t15:V) (Sz:Hp) (K:KV):Prop:=
 cT Sz fun Sz=>
 aG PP .lss 3 t15 t14 fun v0=>
 iG v0 (bY 1 t13 t15 fun v1=>
 aS v1 Sz fun v2 Sz=>
 aS t2 Sz fun v3 Sz=>
 aS t3 Sz fun v4 Sz=>
 HM 22 1 v3 (some v4) none none Sz fun v5=>
 aV v5 fun v6=>
 cA x x.most m0 t0 t1 t2 t3 t4 v2 t13 t14 t15 v5 v6 (.int .i64 (.ofNat 0)) Sz K) (bC (.tuple []) Sz K)
theorem gS (x:VE) (m0:Nat) (t0 t1 t2 t3 t4 t13 t14 t15:V) (Sz:Hp) (K:KV):bW x (m0+1) t0 t1 t2 t3 t4 t13 t14 t15 Sz K=fB x m0 t0 t1 t2 t3 t4 t13 t14 t15 Sz K:=by kernel_rfl
noncomputable def cL (x:VE) (m1:Nat) (m0:Nat) (t0 t1 t2 t3 t4 t7 t13 t14 t15 t21 t22 t23:V) (Sz:Hp) (K:KV):Prop:=
 cT Sz fun Sz=>
 aG PP .lss 3 t23 t22 fun v0=>
 iG v0 (bY 1 t21 t23 fun v1=>
 aS v1 Sz fun v2 Sz=>
 bI 0 t1 fun v3=>
 aS v3 Sz fun v4 Sz=>
 x.call lH [t7,v2,v4] Sz fun v5 Sz=>
 rL x t0 [v5] Sz fun v6 Sz=>
 IP .not v6 fun v7=>
 iG v7 (bC (.tuple []) Sz K) (aG PP .add 3 t23 (.int .i64 (.ofNat 1)) fun v8=>
 cA x m1 m0 t0 t1 t2 t3 t4 t7 t13 t14 t15 t21 t22 v8 Sz K)) (aS t2 Sz fun v9 Sz=>
 aS t4 Sz fun v10 Sz=>
 HM 22 1 v9 (some v10) none none Sz fun v11=>
 aV v11 fun v12=>
 bZ x x.most m0 t0 t1 t2 t3 t4 t7 t13 t14 t15 v11 v12 (.int .i64 (.ofNat 0)) Sz K)
theorem dJ (x:VE) (m1:Nat) (m0:Nat) (t0 t1 t2 t3 t4 t7 t13 t14 t15 t21 t22 t23:V) (Sz:Hp) (K:KV):cA x (m1+1) m0 t0 t1 t2 t3 t4 t7 t13 t14 t15 t21 t22 t23 Sz K=cL x m1 m0 t0 t1 t2 t3 t4 t7 t13 t14 t15 t21 t22 t23 Sz K:=by kernel_rfl
noncomputable def cK (x:VE) (m1:Nat) (m0:Nat) (t0 t1 t2 t3 t4 t7 t13 t14 t15 t38 t39 t40:V) (Sz:Hp) (K:KV):Prop:=
 cT Sz fun Sz=>
 aG PP .lss 3 t40 t39 fun v0=>
 iG v0 (bY 1 t38 t40 fun v1=>
 aS v1 Sz fun v2 Sz=>
 bI 0 t1 fun v3=>
 aS v3 Sz fun v4 Sz=>
 bI 1 t1 fun v5=>
 aS v5 Sz fun v6 Sz=>
 bI 0 t1 fun v7=>
 aS v7 Sz fun v8 Sz=>
 bI 0 t1 fun v9=>
 aS v9 Sz fun v10 Sz=>
 x.call lH [t7,v2,v4] Sz fun v11 Sz=>
 aS v9 Sz fun v12 _=>
 aL v12 v10 (aS v7 Sz fun v13 _=>
 aL v13 v8 (aS v5 Sz fun v14 _=>
 aL v14 v6 (x.call lH [v11,v6,v8] Sz fun v15 Sz=>
 aS v9 Sz fun v16 _=>
 aL v16 v10 (x.call oW [(.int .u64 (.ofNat 0)),v15,v10] Sz fun v17 Sz=>
 rL x t0 [v17] Sz fun v18 Sz=>
 IP .not v18 fun v19=>
 iG v19 (bC (.tuple []) Sz K) (aG PP .add 3 t40 (.int .i64 (.ofNat 1)) fun v20=>
 bZ x m1 m0 t0 t1 t2 t3 t4 t7 t13 t14 t15 t38 t39 v20 Sz K)))))) (aG PP .add 3 t15 (.int .i64 (.ofNat 1)) fun v21=>
 bW x m0 t0 t1 t2 t3 t4 t13 t14 v21 Sz K)
theorem dI (x:VE) (m1:Nat) (m0:Nat) (t0 t1 t2 t3 t4 t7 t13 t14 t15 t38 t39 t40:V) (Sz:Hp) (K:KV):bZ x (m1+1) m0 t0 t1 t2 t3 t4 t7 t13 t14 t15 t38 t39 t40 Sz K=cK x m1 m0 t0 t1 t2 t3 t4 t7 t13 t14 t15 t38 t39 t40 Sz K:=by kernel_rfl
noncomputable def qC (x:VE) (a0:V) (Sz:Hp) (K:KV):Prop:=
 aV a0 fun v0=>
 AL .u64 v0 fun v1=>
 x.call sD [v1] Sz fun v2 Sz=>
 x.call eS [a0,(.int .i64 (.ofNat 0)),v0,v2] Sz fun v3 Sz=>
 bC (.tuple []) Sz K
theorem zO (x:VE) (a0:V) (Sz:Hp) (K:KV):lG PP bH fA x [a0] Sz K=qC x a0 Sz K:=by kernel_rfl
noncomputable def mJ (x:VE) (m:Nat) (t0 t1 t2 t3 t8 t9:V) (Sz:Hp) (K:KV):Prop:=eT PP bH eS x [.r,.r,.d] m [] [t0,t1,t2,t3,t8,t9] Sz K
noncomputable def jJ (x:VE) (m0:Nat) (t0 t1 t2 t3 t8 t9 t10:V) (Sz:Hp) (K:KV):Prop:=WD PP bH eS x [.r,.r,.d,.d,.d,.r,.r,.r,.r] [m0] [t0,t1,t2,t3,t8,t9,t10] Sz K
noncomputable def pN (x:VE) (a0 a1 a2 a3:V) (Sz:Hp) (K:KV):Prop:=
 mJ x x.most a0 a1 a2 a3 (.bool true) (.bool true) Sz K
theorem yI (x:VE) (a0 a1 a2 a3:V) (Sz:Hp) (K:KV):lG PP bH eS x [a0,a1,a2,a3] Sz K=pN x a0 a1 a2 a3 Sz K:=by kernel_rfl
noncomputable def lR (x:VE) (m0:Nat) (t0 t1 t2 t3 t8 t9:V) (Sz:Hp) (K:KV):Prop:=
 cT Sz fun Sz=>
 aG PP .sub 3 t2 t1 fun v0=>
 aG PP .leq 3 v0 (.int .i64 (.ofNat 12)) fun v1=>
 iG v1 (x.call cB [t0,t1,t2] Sz fun v2 Sz=>
 bC (.tuple []) Sz K) (aG PP .eql 3 t3 (.int .i64 (.ofNat 0)) fun v3=>
 iG v3 (x.call xU [t0,t1,t2] Sz fun v4 Sz=>
 bC (.tuple []) Sz K) (IP .not t8 fun v5=>
 iG v5 (x.call tU [t0,t1,t2] Sz fun v6 Sz=>
 aG PP .sub 3 t3 (.int .i64 (.ofNat 1)) fun v7=>
 jJ x m0 t0 t1 t2 v7 t8 t9 v0 Sz K) (jJ x m0 t0 t1 t2 t3 t8 t9 v0 Sz K)))
theorem uR (x:VE) (m0:Nat) (t0 t1 t2 t3 t8 t9:V) (Sz:Hp) (K:KV):mJ x (m0+1) t0 t1 t2 t3 t8 t9 Sz K=lR x m0 t0 t1 t2 t3 t8 t9 Sz K:=by kernel_rfl
noncomputable def fN (x:VE) (m:Nat) (t0 t1 t2 t6:V) (Sz:Hp) (K:KV):Prop:=eT PP bH cB x [.r,.d] m [] [t0,t1,t2,t6] Sz K
noncomputable def bU (x:VE) (m:Nat) (m0:Nat) (t0 t1 t2 t6 t7:V) (Sz:Hp) (K:KV):Prop:=eT PP bH cB x [.r,.d,.d,.r,.l,.d,.r,.d] m [m0] [t0,t1,t2,t6,t7] Sz K
noncomputable def kX (x:VE) (a0 a1 a2:V) (Sz:Hp) (K:KV):Prop:=
 aG PP .add 3 a1 (.int .i64 (.ofNat 1)) fun v0=>
 fN x x.most a0 a1 a2 v0 Sz K
theorem tJ (x:VE) (a0 a1 a2:V) (Sz:Hp) (K:KV):lG PP bH cB x [a0,a1,a2] Sz K=kX x a0 a1 a2 Sz K:=by kernel_rfl
noncomputable def cZ (x:VE) (m0:Nat) (t0 t1 t2 t6:V) (Sz:Hp) (K:KV):Prop:=
 cT Sz fun Sz=>
 aG PP .lss 3 t6 t2 fun v0=>
 iG v0 (bU x x.most m0 t0 t1 t2 t6 t6 Sz K) (bC (.tuple []) Sz K)
theorem fG (x:VE) (m0:Nat) (t0 t1 t2 t6:V) (Sz:Hp) (K:KV):fN x (m0+1) t0 t1 t2 t6 Sz K=cZ x m0 t0 t1 t2 t6 Sz K:=by kernel_rfl
noncomputable def dL (x:VE) (m1:Nat) (m0:Nat) (t0 t1 t2 t6 t7:V) (Sz:Hp) (K:KV):Prop:=
 cT Sz fun Sz=>
 aG PP .gtr 3 t7 t1 fun v0=>
 aD x.most (aC true v0 (fun k=>k t0 Sz) Sz fun v1 Sz=>
 aD x.most (aC true v0 (fun k=>k t7 Sz) Sz fun v2 Sz=>
 aD x.most (aC true v0 (fun k=>bY 1 v1 v2 fun v3=>
 k v3 Sz) Sz fun v4 Sz=>
 aD x.most (aC true v0 (fun k=>aS v4 Sz fun v5 Sz=>
 k v5 Sz) Sz fun v6 Sz=>
 aD x.most (aC true v0 (fun k=>k t0 Sz) Sz fun v7 Sz=>
 aD x.most (aC true v0 (fun k=>k t7 Sz) Sz fun v8 Sz=>
 aD x.most (aC true v0 (fun k=>aG PP .sub 3 v8 (.int .i64 (.ofNat 1)) fun v9=>
 k v9 Sz) Sz fun v10 Sz=>
 aD x.most (aC true v0 (fun k=>bY 1 v7 v10 fun v11=>
 k v11 Sz) Sz fun v12 Sz=>
 aD x.most (aC true v0 (fun k=>aS v12 Sz fun v13 Sz=>
 k v13 Sz) Sz fun v14 Sz=>
 aD x.most (aC true v0 (fun k=>x.call uQ [v6,v14] Sz fun v15 Sz=>
 k v15 Sz) Sz fun v16 Sz=>
 aD x.most (dA v0 v16 (.bool false) fun v17=>
 iG v17 (aG PP .sub 3 t7 (.int .i64 (.ofNat 1)) fun v18=>
 aG PP .sub 3 t7 (.int .i64 (.ofNat 1)) fun v19=>
 bY 1 t0 v19 fun v20=>
 aS v20 Sz fun v21 Sz=>
 bY 1 t0 t7 fun v22=>
 aS v22 Sz fun v23 Sz=>
 bY 1 t0 t7 fun v24=>
 rH 1 v24 v21 Sz fun Sz=>
 bY 1 t0 v18 fun v25=>
 rH 1 v25 v23 Sz fun Sz=>
 aG PP .sub 3 t7 (.int .i64 (.ofNat 1)) fun v26=>
 bU x m1 m0 t0 t1 t2 t6 v26 Sz K) (aG PP .add 3 t6 (.int .i64 (.ofNat 1)) fun v27=>
 fN x m0 t0 t1 t2 v27 Sz K))))))))))))
theorem gJ (x:VE) (m1:Nat) (m0:Nat) (t0 t1 t2 t6 t7:V) (Sz:Hp) (K:KV):bU x (m1+1) m0 t0 t1 t2 t6 t7 Sz K=dL x m1 m0 t0 t1 t2 t6 t7 Sz K:=by kernel_rfl
noncomputable def HF (x:VE) (a0 a1:V) (Sz:Hp) (K:KV):Prop:=
 x.call oR [a0] Sz fun v0 Sz=>
 aD x.most (aC true v0 (fun k=>k a1 Sz) Sz fun v1 Sz=>
 aD x.most (aC true v0 (fun k=>x.call oR [v1] Sz fun v2 Sz=>
 k v2 Sz) Sz fun v3 Sz=>
 aD x.most (aC true v0 (fun k=>IP .not v3 fun v4=>
 k v4 Sz) Sz fun v5 Sz=>
 aD x.most (dA v0 v5 (.bool false) fun v6=>
 aD x.most (aC false v6 (fun k=>k a0 Sz) Sz fun v7 Sz=>
 aD x.most (aC false v6 (fun k=>k a1 Sz) Sz fun v8 Sz=>
 aD x.most (aC false v6 (fun k=>aG PP .lss 3 v7 v8 fun v9=>
 k v9 Sz) Sz fun v10 Sz=>
 aD x.most (dA v6 (.bool true) v10 fun v11=>
 bC v11 Sz K))))))))
theorem VG (x:VE) (a0 a1:V) (Sz:Hp) (K:KV):lG PP bH uQ x [a0,a1] Sz K=HF x a0 a1 Sz K:=by kernel_rfl
noncomputable def EX (x:VE) (a0:V) (Sz:Hp) (K:KV):Prop:=
 aG PP .neq 3 a0 a0 fun v0=>
 bC v0 Sz K
theorem RU (x:VE) (a0:V) (Sz:Hp) (K:KV):lG PP bH oR x [a0] Sz K=EX x a0 Sz K:=by kernel_rfl
noncomputable def EW (x:VE) (a0:V) (Sz:Hp) (K:KV):Prop:=
 iG (.bool false) (AL .u32 a0 fun v0=>
 x.call OJ [v0] Sz fun v1 Sz=>
 bC v1 Sz K) (x.call dG [a0] Sz fun v2 Sz=>
 bC v2 Sz K)
theorem RT (x:VE) (a0:V) (Sz:Hp) (K:KV):lG PP bH sD x [a0] Sz K=EW x a0 Sz K:=by kernel_rfl
noncomputable def qQ (x:VE) (t0 t2:V) (Sz:Hp) (K:KV):Prop:=WD PP bH dG x [.r,.r] [] [t0,t2] Sz K
noncomputable def pH (x:VE) (t0 t2:V) (Sz:Hp) (K:KV):Prop:=WD PP bH dG x [.r,.r,.r] [] [t0,t2] Sz K
noncomputable def oM (x:VE) (t0 t2:V) (Sz:Hp) (K:KV):Prop:=WD PP bH dG x [.r,.r,.r,.r] [] [t0,t2] Sz K
noncomputable def BA (x:VE) (a0:V) (Sz:Hp) (K:KV):Prop:=
 aG PP .geq 22 a0 (.int .u64 (.ofNat 4294967296)) fun v0=>
 iG v0 (aG PP .shr 22 a0 (.int .u64 (.ofNat 32)) fun v1=>
 qQ x v1 (.int .i64 (.ofNat 32)) Sz K) (qQ x a0 (.int .i64 (.ofNat 0)) Sz K)
theorem NB (x:VE) (a0:V) (Sz:Hp) (K:KV):lG PP bH dG x [a0] Sz K=BA x a0 Sz K:=by kernel_rfl
noncomputable def pA (x:VE) (t0 t2:V) (Sz:Hp) (K:KV):Prop:=
 cT Sz fun Sz=>
 aG PP .geq 22 t0 (.int .u64 (.ofNat 65536)) fun v0=>
 iG v0 (aG PP .shr 22 t0 (.int .u64 (.ofNat 16)) fun v1=>
 aG PP .add 3 t2 (.int .i64 (.ofNat 16)) fun v2=>
 pH x v1 v2 Sz K) (pH x t0 t2 Sz K)
theorem EO (x:VE) (t0 t2:V) (Sz:Hp) (K:KV):Ae PP bH dG x [.r,.r] [] [t0,t2] Sz K=pA x t0 t2 Sz K:=by kernel_rfl
theorem FN (x:VE) (hm:x.most≠0) (t0 t2:V) (Sz:Hp) (K:KV):qQ x t0 t2 Sz K=pA x t0 t2 Sz K:=(OD (hm:=hm) ..).trans (EO x t0 t2 Sz K)
noncomputable def oE (x:VE) (t0 t2:V) (Sz:Hp) (K:KV):Prop:=
 cT Sz fun Sz=>
 aG PP .geq 22 t0 (.int .u64 (.ofNat 256)) fun v0=>
 iG v0 (aG PP .shr 22 t0 (.int .u64 (.ofNat 8)) fun v1=>
 aG PP .add 3 t2 (.int .i64 (.ofNat 8)) fun v2=>
 oM x v1 v2 Sz K) (oM x t0 t2 Sz K)
theorem DE (x:VE) (t0 t2:V) (Sz:Hp) (K:KV):Ae PP bH dG x [.r,.r,.r] [] [t0,t2] Sz K=oE x t0 t2 Sz K:=by kernel_rfl
theorem EC (x:VE) (hm:x.most≠0) (t0 t2:V) (Sz:Hp) (K:KV):pH x t0 t2 Sz K=oE x t0 t2 Sz K:=(OD (hm:=hm) ..).trans (DE x t0 t2 Sz K)
noncomputable def nC (x:VE) (t0 t2:V) (Sz:Hp) (K:KV):Prop:=
 cT Sz fun Sz=>
 AL .u8 t0 fun v0=>
 VD (.str [0,1,2,2,3,3,3,3,4,4,4,4,4,4,4,4,5,5,5,5,5,5,5,5,5,5,5,5,5,5,5,5,6,6,6,6,6,6,6,6,6,6,6,6,6,6,6,6,6,6,6,6,6,6,6,6,6,6,6,6,6,6,6,6,7,7,7,7,7,7,7,7,7,7,7,7,7,7,7,7,7,7,7,7,7,7,7,7,7,7,7,7,7,7,7,7,7,7,7,7,7,7,7,7,7,7,7,7,7,7,7,7,7,7,7,7,7,7,7,7,7,7,7,7,7,7,7,7,8,8,8,8,8,8,8,8,8,8,8,8,8,8,8,8,8,8,8,8,8,8,8,8,8,8,8,8,8,8,8,8,8,8,8,8,8,8,8,8,8,8,8,8,8,8,8,8,8,8,8,8,8,8,8,8,8,8,8,8,8,8,8,8,8,8,8,8,8,8,8,8,8,8,8,8,8,8,8,8,8,8,8,8,8,8,8,8,8,8,8,8,8,8,8,8,8,8,8,8,8,8,8,8,8,8,8,8,8,8,8,8,8,8,8,8,8,8,8,8,8,8,8,8,8,8,8,8]) v0 fun v1=>
 AL .i64 v1 fun v2=>
 aG PP .add 3 t2 v2 fun v3=>
 bC v3 Sz K
theorem BT (x:VE) (t0 t2:V) (Sz:Hp) (K:KV):Ae PP bH dG x [.r,.r,.r,.r] [] [t0,t2] Sz K=nC x t0 t2 Sz K:=by kernel_rfl
theorem CJ (x:VE) (hm:x.most≠0) (t0 t2:V) (Sz:Hp) (K:KV):oM x t0 t2 Sz K=nC x t0 t2 Sz K:=(OD (hm:=hm) ..).trans (BT x t0 t2 Sz K)
set_option maxRecDepth 4000
def JR (l:List Nat):List V:=l.map ni
theorem Cm (l:List Nat):(JR l).length=l.length:=List.length_map _
theorem Xc{l:List Nat}{i n:Nat} (h:l[i]? =some n):(JR l)[i]? =some (ni n):=by unfold JR;rw [List.getElem?_map,h];rfl
theorem Pd (l:List Nat):(JR l).all jK=true:=by rw [List.all_eq_true];intro v hv;obtain⟨n,_,rfl⟩:=List.mem_map.1 hv;rfl
inductive IN (Sz:Hp):V->List Nat->Prop
 | nil:IN Sz .nil []
 | acc {i:Nat} {l:List Nat} (h0:0<l.length) (h:Sz i=some (.dF (JR l) 3 l.length)):IN Sz (.acc i l.length) l
section
variable{Sz S':Hp}{v:V}{l:List Nat}
theorem IN.len (h:IN Sz v l){K:V->Prop}:aV v K=K (ni l.length):=by cases h<;>rfl
theorem IN.at (h:IN Sz v l){i n:Nat} (hi:l[i]? =some n):∃p,(∀(K:V->Prop),bY 1 v (ni i) K=K p)/\(∀S',bE Sz S'->∀K:KV,aS p S' K=K (ni n) S'):=by
 have hlt:i<l.length:=(List.getElem?_eq_some_iff.1 hi).1;cases h with
 | nil=>cases hi
 | @acc b _ h0 h=>
  refine⟨.lX b l.length (i*1),fun K=>wX hlt,fun S' hle K=>?_⟩;rw [Nat.mul_one];unfold aS;simp only [hle _ _ h,bR (Xc hi),true_and]
end
inductive IV (Sz:Hp):V->List Nat->Prop
 | nil:IV Sz .nil []
 | acc {i:Nat} {l:List Nat} (h0:0<l.length) (h:Sz i=some (.dF (JR l) 3 l.length)):IV Sz (.acc i l.length) l
 | own {i:Nat} {l:List Nat} (h0:0<l.length) (h:Sz i=some (.row (JR l) 3)):IV Sz (.own i 0 l.length l.length) l
section
variable{Sz S':Hp}{v:V}{l:List Nat}
theorem IV.len (h:IV Sz v l){K:V->Prop}:aV v K=K (ni l.length):=by cases h<;>rfl
theorem IV.up (h:IV Sz v l) (hle:bE Sz S'):IV S' v l:=by
 cases h with
 | nil=>exact .nil
 | acc h0 h=>exact .acc h0 (hle _ _ h)
 | own h0 h=>exact .own h0 (hle _ _ h)
theorem IV.at (h:IV Sz v l){i n:Nat} (hi:l[i]? =some n):∃p,(∀(K:V->Prop),bY 1 v (ni i) K=K p)/\(∀S',bE Sz S'->∀K:KV,aS p S' K=K (ni n) S'):=by
 have hlt:i<l.length:=(List.getElem?_eq_some_iff.1 hi).1;cases h with
 | nil=>cases hi
 | @acc b _ h0 h=>exact(IN.acc h0 h).at hi
 | @own b _ h0 h=>
  refine⟨.ptr b (0+i*1),fun K=>by simp [bY,hlt],fun S' hle K=>?_⟩;rw [Nat.mul_one,Nat.zero_add];unfold aS;simp only [hle _ _ h,bR (Xc hi)]
end
section
variable{M n:Nat}{x:VE}{Sz:Hp}{K:KV}{v:V}{l:List Nat}
theorem aFQ:gM sD=none:=rfl
theorem aBF:gM dG=none:=rfl
theorem aEc:gM fA=none:=rfl
theorem aFR:gM eS=none:=rfl
theorem aFS:gM cB=none:=rfl
theorem aEd:gM uQ=none:=rfl
theorem aFT:gM oR=none:=rfl
theorem Xd:gM gE=none:=rfl
theorem aBG:gM cQ=none:=rfl
theorem aBH:gM dU=none:=rfl
theorem aEe:gM eY=none:=rfl
theorem aEf:gM kC=none:=rfl
theorem aBI:gM lI=none:=rfl
theorem Cn:VB PP 28=some .slice:=by kernel_rfl
theorem VC{l:List UInt8}{i:Nat}{b:UInt8}{j:IntKind} (h:l[i]? =some b){k:V->Prop}:VD (.str l) (.int j (.ofNat i)) k=k (.int .u8 (.ofNat b.toNat)):=by
 show NA l i _=_;rw [bR h]
theorem aBJ{a:Nat} (h:a<=2){k:V->Prop}:AL .u8 (nu a) k=k (.int .u8 (.ofNat a)):=by
 have h3:a=0\/a=1\/a=2:=by omega
 rcases h3 with rfl | rfl | rfl<;>rfl
theorem VF{a:Nat} (h:a<=2){j:IntKind}{k:V->Prop}:AL .i64 (.int j (.ofNat a)) k=k (ni a):=by
 have h3:a=0\/a=1\/a=2:=by omega
 rcases h3 with rfl | rfl | rfl<;>rfl
theorem aBK (hM:2<M) (hx:Deep PP bH gM M (n+1) x){a:Nat} (ha:a<=2) (hK:K (ni a) Sz):x.call dG [nu a] Sz K:=by
 refine hx.call aBF fun y hy=>?_;have hm:y.most≠0:=by rw [hy.most];omega
 rw [NB];unfold BA;rw [Ha,decide_eq_false (by omega),aZ,FN y hm];unfold pA;refine aE ?_;rw [Ha,decide_eq_false (by omega),aZ,EC y hm];unfold oE;refine aE ?_;rw [Ha,decide_eq_false (by omega),aZ,CJ y hm];unfold nC;refine aE ?_;rw [aBJ ha];have h3:a=0\/a=1\/a=2:=by omega
 rcases h3 with rfl | rfl | rfl
 ·rw [VC (b:=0) rfl,show UInt8.toNat 0=0 from rfl,VF (by decide),aX (by decide)]
  exact aJ hK
 ·rw [VC (b:=1) rfl,show UInt8.toNat 1=1 from rfl,VF (by decide),aX (by decide)]
  exact aJ hK
 ·rw [VC (b:=2) rfl,show UInt8.toNat 2=2 from rfl,VF (by decide),aX (by decide)]
  exact aJ hK
theorem aFU (hM:2<M) (hx:Deep PP bH gM M (n+2) x){a:Nat} (ha:a<=2) (hK:K (ni a) Sz):x.call sD [nu a] Sz K:=by
 refine hx.call aFQ fun y hy=>?_;rw [RT];unfold EW;rw [aZ];exact aBK hM hy ha (aJ hK)
theorem aFV (hx:Deep PP bH gM M (n+1) x){a:Nat} (hK:K (.bool false) Sz):x.call oR [ni a] Sz K:=by
 refine hx.call aFT fun y hy=>?_;rw [RU];unfold EX;rw [nB,decide_eq_true rfl];exact aJ hK
theorem aEg (hx:Deep PP bH gM M (n+2) x){a b:Nat} (hK:K (.bool (decide (a<b))) Sz):x.call uQ [ni a,ni b] Sz K:=by
 refine hx.call aEd fun y hy=>?_;rw [VG];unfold HF;refine aFV hy ?_;simp only [aF,CL,dB,aI];rw [aR];exact aJ hK
theorem XI{i c k:Nat} (h:k<c){K:V->Prop}:bY 1 (.acc i c) (ni k) K=K (.lX i c k):=by rw [wX h,Nat.mul_one]
theorem gld{i c k:Nat}{vs:List V}{v:V}{t:TypeId} (h:Sz i=some (.dF vs t c)) (hv:vs[k]? =some v){K:KV}:aS (.lX i c k) Sz K=K v Sz:=by
 unfold aS;simp only [h,bR hv,true_and]
theorem aFW (hM:10<M) (hx:Deep PP bH gM M (n+3) x) (h:IN Sz v l) (hl:l.length<=2) (hK:∀l',(l'=l\/l'=l.reverse)->(l=[]->K (.tuple []) Sz)/\(∀i,v= .acc i l.length->K (.tuple []) (upd Sz i (.dF (JR l') 3 l.length)))):x.call cB [v,ni 0,ni l.length] Sz K:=by
 refine hx.call aFS fun y hy=>?_;rw [tJ];unfold kX;obtain⟨m,hm⟩:∃m,M=m+4:=⟨M-4,by omega⟩;rw [aX (by decide),hy.most,hm,fG];unfold cZ;refine aE ?_;rw [aR];cases h with
 | nil=>rw [show decide (0+1<([]:List Nat).length)=false from rfl,aZ];exact aJ ((hK [] (.inl rfl)).1 rfl)
 | @acc i _ h0 h=>
  match l,hl,h0,h,hK with
  | [a],_,_,h,hK=>
   rw [show decide (0+1< [a].length)=false from rfl,aZ];have:=(hK [a] (.inl rfl)).2 i rfl;rw [Hb h]at this;exact aJ this
  | [a,b],_,_,h,hK=>
   show iG (.bool true) (bU y y.most (m+3) (.acc i 2) (ni 0) (ni 2) (ni 1) (ni 1) Sz K) _;rw [cU,hy.most,hm,gJ];unfold dL;refine aE ?_;have h:Sz i=some (.dF (JR [a,b]) 3 2):=h;have g1:(JR [a,b])[1]? =some (ni b):=rfl;have g0:(JR [a,b])[0]? =some (ni a):=rfl;rw [xR,decide_eq_true (by decide)];simp only [aF,aI];rw [XI (by decide),gld h g1,nD (by decide) (by decide),XI (by decide),gld h g0];refine aEg hy ?_;simp only [gR];by_cases c:b<a
   ·have h1:upd Sz i (.dF [ni a,ni a] 3 2) i=some (.dF [ni a,ni a] 3 2):=upd_same
    rw [decide_eq_true c,cU,nD (by decide) (by decide),nD (by decide) (by decide),XI (by decide),gld h g0,XI (by decide),gld h g1,XI (by decide)];refine Xe h rfl (Nat.lt_succ_self 1) ?_;show bY 1 (.acc i 2) (ni 0) (fun v25=>rH 1 v25 (ni b) (upd Sz i (.dF [ni a,ni a] 3 2)) _);rw [XI (by decide)];refine Xe h1 rfl (Nat.zero_lt_succ 1) ?_;rw [fP];show aG PP .sub 3 (ni 1) (ni 1) (fun v26=>bU y (m+3) (m+3) (.acc i 2) (ni 0) (ni 2) (ni 1) v26 (upd Sz i (.dF [ni b,ni a] 3 2)) K);rw [nD (by decide) (by decide),gJ];unfold dL;refine aE ?_;rw [xR,decide_eq_false (by decide)];simp only [aF,CL,dB];rw [aZ,aX (by decide),fG];unfold cZ;refine aE ?_;rw [aR,decide_eq_false (by decide),aZ];exact aJ ((hK [b,a] (.inr rfl)).2 i rfl)
   ·rw [decide_eq_false c,aZ,aX (by decide),fG]
    unfold cZ;refine aE ?_;rw [aR,decide_eq_false (by decide),aZ];have:=(hK [a,b] (.inl rfl)).2 i rfl;rw [show upd Sz i (.dF (JR [a,b]) 3 [a,b].length)=Sz from Hb h]at this;exact aJ this
theorem aEh (hM:10<M) (hx:Deep PP bH gM M (n+5) x) (h:IN Sz v l) (hl:l.length<=2) (hK:∀l',(l'=l\/l'=l.reverse)->(l=[]->K (.tuple []) Sz)/\(∀i,v= .acc i l.length->K (.tuple []) (upd Sz i (.dF (JR l') 3 l.length)))):x.call fA [v] Sz K:=by
 refine hx.call aEc fun y hy=>?_;rw [zO];unfold qC;rw [h.len,LB (by omega)];refine aFU (n:=n+2) (by omega) hy hl ?_;refine hy.call aFR fun z hz=>?_;rw [yI];unfold pN;obtain⟨m,hm⟩:∃m,M=m+1:=⟨M-1,by omega⟩;rw [hz.most,hm,uR];unfold lR;refine aE ?_;rw [nD (Nat.zero_le _) (by omega),PG,decide_eq_true (by simp;omega),cU];refine aFW (n:=n) hM hz h hl fun l' hl'=>⟨fun e=>aJ (aJ ((hK l' hl').1 e)),fun i e=>aJ (aJ ((hK l' hl').2 i e))⟩
theorem Xf (hx:Deep PP bH gM M (n+1) x) (h:IV Sz v l) (hl:l.length<1000) (hK:∀w S',bE Sz S'->IN S' w l->(∀i,w= .acc i l.length->Sz i=none)->K w S'):x.call gE [v] Sz K:=by
 refine hx.call Xd fun y hy=>?_;rw [yJ];unfold pO;cases h with
 | nil=>exact⟨rfl,Cn,.inl rfl,(fun _ _ e=>by cases e),aJ (hK _ _ (.refl Sz) .nil (fun i e=>by cases e))⟩
 | @own i _ h0 h=>
  refine⟨rfl,Cn,.inr rfl,(fun e=>by cases e),?_⟩;intro j hj;have hle:bE Sz (upd Sz j (.row [] 3)):= .aH hj;show kI 3 1 8 (.own j 0 0 0) (.own i 0 l.length l.length) (upd Sz j (.row [] 3)) _;refine uO (m:=l.length) (hle _ _ h) (by rw [Cm];omega) ?_;cases hl0:l.length with
  | zero=>omega
  | succ q=>
   refine⟨Pd l,?_⟩;simp only [upd_same];refine⟨by omega,by simp,fun c=>absurd c (by omega),fun _ i hi=>?_⟩;have e2:(List.take (0*1) (List.drop 0 ([]:List V)))++JR l=JR l:=by simp
   rw [e2,show 0+(q+1)=l.length by omega];exact aJ (hK _ _ (hle.trans (.aH hi)) (.acc h0 upd_same) (fun k e=>by injection e with e;subst e;exact hle.none hi))
 | @acc i _ h0 h=>
  refine⟨rfl,Cn,.inr rfl,(fun e=>by cases e),?_⟩;intro j hj;have hle:bE Sz (upd Sz j (.row [] 3)):= .aH hj;show kI 3 1 8 (.own j 0 0 0) (.acc i l.length) (upd Sz j (.row [] 3)) _;unfold kI UX;simp only [hle _ _ h];refine⟨trivial,by rw [Cm];omega,?_⟩;cases hl0:l.length with
  | zero=>omega
  | succ q=>
   refine⟨Pd l,?_⟩;simp only [upd_same];refine⟨by omega,by simp,fun c=>absurd c (by omega),fun _ i hi=>?_⟩;have e2:(List.take (0*1) (List.drop 0 ([]:List V)))++JR l=JR l:=by simp
   rw [e2,show 0+(q+1)=l.length by omega];exact aJ (hK _ _ (hle.trans (.aH hi)) (.acc h0 upd_same) (fun k e=>by injection e with e;subst e;exact hle.none hi))
theorem aEi (hM:10<M) (hx:Deep PP bH gM M (n+1) x) (h:IN Sz v l) (hl:l.length<=2) (hd:∀a b,l=[a,b]->a≠b) (hK:K v Sz):x.call cQ [v] Sz K:=by
 refine hx.call aBG fun y hy=>?_;rw [wZ];unfold nV;rw [h.len,aR];cases h with
 | nil=>exact aJ hK
 | @acc i _ h0 h=>
  match l,hl,h0,h,hd,hK with
  | [a],_,_,h,_,hK=>exact aJ hK
  | [a,b],_,_,h,hd,hK=>
   obtain⟨m,hm⟩:∃m,M=m+4:=⟨M-4,by omega⟩;show iG (.bool false) _ (dH y y.most (.acc i 2) (ni 1) Sz K);rw [aZ,hy.most,hm,jP];unfold fL;refine aE ?_;have h:Sz i=some (.dF (JR [a,b]) 3 2):=h;have g1:(JR [a,b])[1]? =some (ni b):=rfl;have g0:(JR [a,b])[0]? =some (ni a):=rfl;show aG PP .lss 3 (ni 1) (ni 2) _;rw [aR,decide_eq_true (by decide),cU,XI (by decide),gld h g1,nD (by decide) (by decide),XI (by decide),gld h g0,ED,decide_eq_false (Ne.symm (hd a b rfl)),aZ,aX (by decide),jP];unfold fL;refine aE ?_;show aG PP .lss 3 (ni 2) (ni 2) _;rw [aR,decide_eq_false (by decide),aZ];exact aJ hK
theorem aEj (hx:Deep PP bH gM M (n+1) x) (h:IV Sz v l){p:Nat}{two:Bool} (hp:Sz p=some (.row (pv two) 25)) (hr:∀c∈l,1<=c/\c<=tN two) (hl:l.length<1000) (hK:K (.int .i64 (.negSucc 0)) Sz):∀(r i m:Nat),i+r=l.length->r<m->dC x m v (.func lI [] [.ptr p 0]) (ni l.length) (ni i) Sz K:=by
 intro r;induction r with
 | zero=>
  intro i m hi hm;obtain⟨m,rfl⟩:=Nat.exists_eq_succ_of_ne_zero (show m≠0 by omega);rw [jF];unfold fH;refine aE ?_;rw [aR,lY (by omega),aZ];exact aJ hK
 | succ r ih=>
  intro i m hi hm;obtain⟨m,rfl⟩:=Nat.exists_eq_succ_of_ne_zero (show m≠0 by omega);rw [jF];unfold fH;refine aE ?_;have hlt:i<l.length:=by omega
  obtain⟨q,hq,hld⟩:=h.at (i:=i) (List.getElem?_eq_getElem hlt);obtain⟨r1,r2⟩:=hr _ (List.getElem_mem hlt);rw [aR,AZ hlt,cU,hq,hld Sz (.refl Sz)];show x.call lI [ni l[i],.ptr p 0] Sz _;refine hx.call aBI fun y hy=>?_;rw [RV];unfold EY;have e5:(pv two)[5]? =some (ni (tN two)):=rfl;rw [aR,decide_eq_false (by omega)];simp only [aF,aI,dB];rw [aN,cG hp e5,xR,decide_eq_false (by omega)];refine aJ ?_;rw [aZ,aX (by omega)];exact ih (i+1) m (by omega) (by omega)
theorem aEk (hM:10000<M) (hx:Deep PP bH gM M (n+3) x) (h:IV Sz v l){p:Nat}{two:Bool} (hp:Sz p=some (.row (pv two) 25)) (hr:∀c∈l,1<=c/\c<=tN two) (hl:l.length<1000) (hK:K (.bool false) Sz):x.call dU [v,.func lI [] [.ptr p 0]] Sz K:=by
 refine hx.call aBH fun y hy=>?_;rw [sO];unfold kQ;refine hy.call aEe fun z hz=>?_;rw [vH];unfold mG;rw [h.len,hz.most];refine aEj hz h hp hr hl ?_ l.length 0 M (by omega) (by omega);rw [CM];exact aJ hK
end
end Go.Am
set_option maxRecDepth 4000
namespace Go.Am
open Go.Proofs.JQ
def iA (c:Nat):Nat:=(vY (c%23+1) 23 (c%23) 0 (1%23) 23).2
theorem Pe{c:Nat} (h1:1<=c) (h2:c<=22):(vY (c%23+1) 23 (c%23) 0 (1%23) 23).1=1:=by
 have:∀c:Fin 23,1<=c.val->(vY (c.val%23+1) 23 (c.val%23) 0 (1%23) 23).1=1:=by decide
 exact this ⟨c,by omega⟩ h1
theorem Co{c:Nat} (h1:1<=c) (h2:c<=22):iA c<23:=by
 have:∀c:Fin 23,1<=c.val->iA c.val<23:=by decide
 exact this ⟨c,by omega⟩ h1
theorem iD{i:Nat}{vs:List V}{v:V} (h:vs[i]? =some v){k:V->Prop}:tK i (.tuple vs) k=k v:=bR h
def lineS (l:List Nat) (c:Nat):List Nat:=times 23 l [1,lC 0 (iA c) 23]
def CN (l:List Nat):List Nat:=l.foldl lineS [1]
def aBL (T:Nat) (l:List Nat):List Nat:=l++List.replicate (T+1-l.length) 0
def iH (two:Bool) (l:List Nat):List Nat:=aBL (tT two) (CN l)
theorem ZD{q:Nat}{a b:List Nat}:(times q a b).length=a.length+b.length-1:=by unfold times;rw [Sg];simp
theorem ZE (l:List Nat) (c:Nat):(lineS l c).length=l.length+1:=by unfold lineS;rw [ZD];rfl
theorem Hc{a b:List Nat}:qB (times 23 a b):=Xg q23 _ _ _ (fun c hc=>by rw [(List.mem_replicate.1 hc).2];show 0<18446744073709551616;decide)
theorem ZF (l m:List Nat):(l.foldl lineS m).length=m.length+l.length:=by
 induction l generalizing m with
 | nil=>rfl
 | cons a l ih=>show(l.foldl lineS (lineS m a)).length=_;rw [ih,ZE,List.length_cons];omega
section
variable{M n:Nat}{x:VE}{Sz:Hp}{K:KV}{v:V}{l:List Nat}{two:Bool}
theorem aBM (hM:10<M) (hx:Deep PP bH gM M (n+5) x) (h:IN Sz v l) (hl:l.length<=2) (hK:∀S' l',(l'=l\/l'=l.reverse)->(∀j o,Sz j=some o->(∀m,v≠ .acc j m)->S' j=some o)->IN S' v l'->K (.tuple []) S'):x.call fA [v] Sz K:=by
 refine aEh hM hx h hl fun l' hl'=>⟨fun e=>hK Sz l (.inl rfl) (fun j o e _=>e) h,fun i e=>?_⟩
 have h0:0<l.length:=by
  cases h with
  | nil=>cases e
  | acc h0 h=>exact h0
 have el:l'.length=l.length:=by rcases hl' with rfl | rfl;rfl;exact List.length_reverse
 subst e;refine hK _ l' hl' (fun j o e hne=>by rw [aB (fun c=>by subst c;exact hne _ rfl)];exact e) ?_;rw [<-el];exact .acc (by omega) upd_same
theorem aBN (hM:1000000<M) (hx:Deep PP bH gM M (n+3) x){S0:Hp}{bp o C:Nat} (h:IV S0 v l) (hp:S0 bp=some (.row (pv two) 25)) (hr:∀c∈l,1<=c/\c<=22) (hl:l.length<1000)
 (hK:∀S' i,bE S0 S'->S' i=some (.row (gA (CN l)) 22)->(Hd 1 (.own o 0 C C) (.own i 0 (CN l).length (CN l).length) S' fun v20 Sz=>bC (.own o 0 C C) Sz K)):
 ∀(r i m:Nat) (Sz:Hp) (j:Nat) (cur:List Nat),i+r=l.length->r<m->bE S0 Sz->Sz j=some (.row (gA cur) 22)->qB cur->cur.length=i+1->(l.drop i).foldl lineS cur=CN l->
  eW x m (.ptr bp 0) (.own o 0 C C) (.own j 0 cur.length cur.length) v (ni l.length) (ni i) Sz K:=by
 intro r;induction r with
 | zero=>
  intro i m Sz j cur hi hm hle hj h64 hc he;obtain⟨m,rfl⟩:=Nat.exists_eq_succ_of_ne_zero (show m≠0 by omega);rw [rQ];unfold lZ;refine aE ?_;rw [aR,lY (by omega),aZ];rw [List.drop_eq_nil_of_le (by omega)]at he;have e:cur=CN l:=he;subst e;exact hK Sz j hle hj
 | succ r ih=>
  intro i m Sz j cur hi hm hle hj h64 hc he;obtain⟨m,rfl⟩:=Nat.exists_eq_succ_of_ne_zero (show m≠0 by omega);rw [rQ];unfold lZ;refine aE ?_;have hlt:i<l.length:=by omega
  obtain⟨p,hp1,hld⟩:=h.at (i:=i) (List.getElem?_eq_getElem hlt);obtain⟨r1,r2⟩:=hr _ (List.getElem_mem hlt);have e1:(pv two)[1]? =some (nu 23):=rfl;have hb:=hle _ _ hp;rw [aR,AZ hlt,cU,hp1,hld Sz hle,LB (by omega),aN,cG hb e1];refine aCZ hx (show l[i]<18446744073709551616 by omega) q23 (Pe r1 r2) ?_;rw [iD (v:=nu (iA l[i])) rfl,iD (v:=ni 0) rfl];rw [aN,cG hb e1,aN,cG hb e1];have hv:=Co r1 r2;refine ZG hx (show 0<18446744073709551616 by decide) (show iA l[i]<18446744073709551616 by omega) q23 ?_;rw [cG hb e1,bO,cG hb e1,bO];refine⟨uS fun _ _=>trivial,uS fun j2 hj2=>?_⟩;have gP:bE Sz (upd Sz j2 (.row (gA [1,lC 0 (iA l[i]) 23]) 22)):= .aH hj2;have h2:upd Sz j2 (.row (gA [1,lC 0 (iA l[i]) 23]) 22) j2=some (.row (gA [1,lC 0 (iA l[i]) 23]) 22):=upd_same;have aIh:lC 0 (iA l[i]) 23<23:=Nat.mod_lt _ (by decide);refine aBO (n:=n+1) (a:=cur) (b:=[1,lC 0 (iA l[i]) 23]) hM hx (.own (o:=0) (c:=cur.length) (gP _ _ hj) (fun k n hk=>by rw [Nat.zero_add];exact rG hk) (by rw [cY];omega)) h64 (by omega) (by omega) (.own (o:=0) (c:=2) (l:=[1,lC 0 (iA l[i]) 23]) h2 (fun k n hk=>by rw [Nat.zero_add];exact rG hk) (by rw [cY];simp)) ?_ (by simp) (by simp) q23 fun o2 ho2=>?_
  ·intro c hc
   rcases List.mem_cons.1 hc with rfl | hc
   ·show 1<18446744073709551616;decide
   ·rcases List.mem_cons.1 hc with rfl | hc
    ·show _<18446744073709551616;omega
    ·cases hc
  ·have el:cur.length+[1,lC 0 (iA l[i]) 23].length-1=(lineS cur l[i]).length:=by unfold lineS;rw [ZD]
   rw [el,aX (by omega)];have ed:l.drop i=l[i]::l.drop (i+1):=List.drop_eq_getElem_cons hlt;rw [ed]at he;exact ih (i+1) m _ o2 (lineS cur l[i]) (by omega) (by omega) ((hle.trans gP).trans (.aH ho2)) upd_same Hc (by rw [ZE];omega) he
theorem Cp (hM:1000000<M) (hx:Deep PP bH gM M (n+6) x) (h:IV Sz v l) (hl:l.length<=tT two) (hr:∀c∈l,1<=c/\c<=tN two) (hd:∀a b,l=[a,b]->a≠b)
 (hK:∀o S',Sz o=none->bE Sz S'->S' o=some (.row (gA (iH two l)) 22)->K (.own o 0 (tT two+1) (tT two+1)) S'):x.call kC [.agg (pv two),v] Sz K:=by
 have hT:tT two<=2:=by cases two<;>decide
 have hN:tN two<=7:=by cases two<;>decide
 refine hx.call aEf fun y hy=>?_;rw [XJ];unfold JS;refine cO jL fun bp hbp=>?_;have le1:bE Sz (upd Sz bp (.row (pv two) 25)):= .aH hbp;have rp:upd Sz bp (.row (pv two) 25) bp=some (.row (pv two) 25):=upd_same;generalize upd Sz bp (.row (pv two) 25)=S1 at le1 rp;have h1:=h.up le1;refine Xf (n:=n+4) hy h1 (by omega) fun w S2 gP hw hnew=>?_;refine aBM (n:=n) (by omega) hy hw (by omega) fun S3 l' hl' k3 hw3=>?_;have el:l'.length=l.length:=by rcases hl' with rfl | rfl;rfl;exact List.length_reverse
 have kP:bE S1 S3:=fun j o e=>k3 j o (gP j o e) fun m c=>by
  cases hw with
  | nil=>cases c
  | acc h0 hh=>injection c with c1 c2;subst c1;rw [hnew _ rfl]at e;cases e
 have zP:=kP _ _ rp;have h3:=h1.up kP;have e6:(pv two)[6]? =some (ni (tT two)):=rfl;rw [iU zP,cF (by rw [hH];omega),List.drop_zero,List.take_of_length_le (by rw [hH];omega)];refine Pc hy ?_;simp only [aF,jV,Bool.not_true,aI,h3.len];rw [aN,cG zP e6,xR,decide_eq_false (by omega),dB];simp only [aI];refine aEi (n:=n+4) (by omega) hy hw3 (by omega) (fun a b e=>?_) ?_
 ·rcases hl' with rfl | rfl
  ·exact hd a b e
  ·have:l=[b,a]:=by have:=congrArg List.reverse e;simpa using this
   exact Ne.symm (hd b a this)
 rw [hw3.len,h3.len,nB,decide_eq_true el,Bool.not_true,dB];simp only [aI];refine aEk (n:=n+2) (by omega) hy h3 zP hr (by omega) ?_;rw [dB,aZ,aN,cG zP e6,aX (by omega)];refine⟨Nat.le_refl _,by omega,by omega,?_⟩;have hz:AK [(.int .u64 (.ofNat 0))]=some [nu 0]:=rfl;unfold mY;rw [hz];intro o ho
 have e:(List.replicate (tT two+1) [nu 0]).flatten=gA (List.replicate (tT two+1) 0):=by
  unfold gA;rw [List.map_replicate];generalize tT two+1=k;induction k with
  | zero=>rfl
  | succ k ih=>rw [List.replicate_succ,List.flatten_cons,ih,List.replicate_succ];rfl
 rw [e];have le4:bE S3 (upd S3 o (.row (gA (List.replicate (tT two+1) 0)) 22)):= .aH ho;have ro:upd S3 o (.row (gA (List.replicate (tT two+1) 0)) 22) o=some (.row (gA (List.replicate (tT two+1) 0)) 22):=upd_same;show aP 22 1 [(.int .u64 (.ofNat 0))] [(0,1,nu 1)] (upd S3 o (.row (gA (List.replicate (tT two+1) 0)) 22)) (fun v36 Sz=>eW y y.most (.ptr bp 0) (.own o 0 (tT two+1) (tT two+1)) v36 v (ni l.length) (ni 0) Sz K);generalize upd S3 o (.row (gA (List.replicate (tT two+1) 0)) 22)=S4 at le4 ro;refine⟨rfl,by simp,fun j hj=>?_⟩;show eW y y.most (.ptr bp 0) (.own o 0 (tT two+1) (tT two+1)) (.own j 0 [1].length [1].length) v (ni l.length) (ni 0) (upd S4 j (.row (gA [1]) 22)) K;have wY:bE S4 (upd S4 j (.row (gA [1]) 22)):= .aH hj;have h5:=(h3.up le4).up wY;rw [hy.most];refine aBN (n:=n+2) (two:=two) hM hy h5 (wY _ _ (le4 _ _ zP)) (fun c hc=>⟨(hr c hc).1,by have:=(hr c hc).2;omega⟩) (by omega) (fun S6 i VH hi=>?_) l.length 0 M _ j [1] (by omega) (by omega) (.refl _) upd_same (fun c hc=>by rw [List.mem_singleton.1 hc];show 1<18446744073709551616;decide) rfl rfl;have ro6:=VH _ _ (wY _ _ ro);have hpl:(CN l).length=l.length+1:=by unfold CN;rw [ZF];simp;omega
 refine uO (m:=(CN l).length) hi (by rw [cY];omega) ?_;refine⟨by omega,?_⟩;have aHv:bE Sz S6:=(((le1.trans kP).trans le4).trans wY).trans VH;have ho':Sz o=none:=(le1.trans kP).none ho;generalize hq:(CN l).length=q at hpl;cases q with
 | zero=>omega
 | succ q=>
  refine⟨SQ _,?_⟩;simp only [ro6]
  have esp:splice 0 (gA (CN l)) (gA (List.replicate (tT two+1) 0))=gA (iH two l):=by
   unfold splice iH aBL;rw [SP,cY,hq,Nat.zero_add,List.take_zero,List.nil_append]
   congr 1
   unfold gA;rw [List.map_replicate,List.map_replicate,List.drop_replicate]
  refine⟨by rw [cY,cY,hq];simp;omega,?_⟩;rw [esp];exact aJ (hK o _ ho' (fun k p e=>by rw [aB (fun c=>by subst c;rw [ho']at e;cases e)];exact aHv k p e) upd_same)
end
set_option maxRecDepth 4000
def kR (d:Nat) (l:Nat):Nat:=d*l%23
def iN (back d:Nat) (l:Nat):Nat:=lC 0 (d*l%23*back%23) 23
def rR (line:List Nat) (back:Nat):List Nat->List Nat
 | []=>[]
 | d::l=>(line.drop 1).map (kR d)++(line.map (iN back d)++rR line back l)
theorem sub_lt (a b:Nat):lC a b 23<23:=Nat.mod_lt _ (by decide)
section
variable{M n:Nat}{x:VE}{Sz:Hp}{K:KV}{two:Bool}
theorem aFX:gM xA=none:=rfl
theorem Xh:gM gC=none:=rfl
theorem Pf:gM bD=none:=rfl
theorem aFY:gM aQ=none:=rfl
theorem o_load:gM rT=none:=rfl
structure OnV (b0 b1 b2 b3 lo:Nat) (vd:V) (diff line:List Nat) (back:Nat) (Sz:Hp):Prop where
 r0:Sz b0=some (.row [nu 23,nu back,vd] 86)
 r1:Sz b1=some (.row [.own lo 0 line.length line.length] 32)
 r2:Sz b2=some (.row [ni 1] 3)
 r3:Sz b3=some (.row [ni 0] 3)
 d:NV Sz vd diff
 l:Sz lo=some (.row (gA line) 22)
theorem SU{α:Type}{xs rest:List α}{z:α}{k:Nat} (h:xs.drop k=z::rest):xs.drop (k+1)=rest:=by
 rw [<-List.drop_drop,h];rfl
theorem aBP (hM:1000000<M) (hx:Deep PP bH gM M (n+3) x){l b0 b1 b2 b3 lo:Nat}{vd:V}{diff line:List Nat}{back:Nat} (Cq:qB diff) (VI:qB line) (hb:b64 back) (hl0:0<line.length) (hll:line.length<1000) (hdl:diff.length<1000){Inv:Nat->Hp->Prop}
 (hI:∀k Sz,Inv k Sz->OnV b0 b1 b2 b3 lo vd diff line back Sz)
 (step:∀(y:VE),Deep PP bH gM M (n+2) y->∀(k:Nat) (Sz:Hp) (z:Nat) (rest:List Nat) (K:KV),(rR line back diff).drop k=z::rest->Inv k Sz->(∀S',Inv (k+1) S'->K (.bool true) S')->y.R l [nu z] Sz K) (h0:Inv 0 Sz)
 (hK:∀k Sz,(rR line back diff).drop k=[]->Inv k Sz->K (.tuple []) Sz):x.call bD [.yield l,.ptr b0 0,.ptr b1 0,.ptr b2 0,.ptr b3 0] Sz K:=by
 refine hx.call Pf fun y hy=>?_;rw [uT];unfold oF;have q0:=hI 0 Sz h0;rw [aN,cG q0.r0 rfl,q0.d.len,hy.most]
 have aEl:∀(d i m0:Nat) (KK:Hp->Prop),b64 d->(∀k Sz,Inv k Sz->(rR line back diff).drop k=rR line back (diff.drop (i+1))->bW y m0 (.yield l) (.ptr b0 0) (.ptr b1 0) (.ptr b2 0) (.ptr b3 0) vd (ni diff.length) (ni (i+1)) Sz K)->i<1000->
  ∀(r j m k:Nat) (Sz:Hp),j+r=line.length->r<m->Inv k Sz->(rR line back diff).drop k=(line.drop j).map (iN back d)++rR line back (diff.drop (i+1))->
   bZ y m m0 (.yield l) (.ptr b0 0) (.ptr b1 0) (.ptr b2 0) (.ptr b3 0) (nu d) vd (ni diff.length) (ni i) (.own lo 0 line.length line.length) (ni line.length) (ni j) Sz K:=by
  intro d i m0 _ hd hk hi r;induction r with
  | zero=>
   intro j m k Sz hj hm h he;obtain⟨m,rfl⟩:=Nat.exists_eq_succ_of_ne_zero (show m≠0 by omega);rw [dI];unfold cK;refine aE ?_;rw [aR,lY (by omega),aZ,aX (by omega)];rw [List.drop_eq_nil_of_le (show line.length<=j by omega)]at he;exact hk k Sz h he
  | succ r ih=>
   intro j m k Sz hj hm h he;obtain⟨m,rfl⟩:=Nat.exists_eq_succ_of_ne_zero (show m≠0 by omega);rw [dI];unfold cK;refine aE ?_;have hlt:j<line.length:=by omega
   have q:=hI k Sz h;have nv:NV Sz (.own lo 0 line.length line.length) line:= .own q.l (fun k n hk=>by rw [Nat.zero_add];exact rG hk) (by rw [cY];omega);obtain⟨p,hp,hld⟩:=nv.at (i:=j) (List.getElem?_eq_getElem hlt);have hz:=VI _ (List.getElem_mem hlt);rw [aR,AZ hlt,cU,hp,hld Sz (.refl Sz),aN,cG q.r0 rfl,aN,cG (o:=1) q.r0 rfl,aN,cG q.r0 rfl,aN,cG q.r0 rfl];refine HG hy hd hz q23 ?_;rw [cG q.r0 rfl,bO,cG q.r0 rfl,bO,cG (o:=1) q.r0 rfl,bO];refine HG hy (qS q23) hb q23 ?_;rw [cG q.r0 rfl,bO];refine ZG hy (show 0<18446744073709551616 by decide) (qS q23) q23 ?_;rw [NC];have ed:line.drop j=line[j]::line.drop (j+1):=List.drop_eq_getElem_cons hlt;rw [ed,List.map_cons,List.cons_append]at he;refine step y hy k Sz _ _ _ he h fun S' h'=>?_;rw [jV,Bool.not_true,aZ,aX (by omega)];exact ih (j+1) m (k+1) S' (by omega) (by omega) h' (SU he)
 have aEm:∀(d i m0:Nat),b64 d->(∀k Sz,Inv k Sz->(rR line back diff).drop k=rR line back (diff.drop (i+1))->bW y m0 (.yield l) (.ptr b0 0) (.ptr b1 0) (.ptr b2 0) (.ptr b3 0) vd (ni diff.length) (ni (i+1)) Sz K)->i<1000->
  ∀(o c r j m k:Nat) (Sz:Hp),(o=1\/line.length=1)->j+r=line.length-1->r<m->Inv k Sz->(rR line back diff).drop k=((line.drop 1).drop j).map (kR d)++(line.map (iN back d)++rR line back (diff.drop (i+1)))->
   cA y m m0 (.yield l) (.ptr b0 0) (.ptr b1 0) (.ptr b2 0) (.ptr b3 0) (nu d) vd (ni diff.length) (ni i) (.own lo o (line.length-1) c) (ni (line.length-1)) (ni j) Sz K:=by
  intro d i m0 hd hk hi o c r;induction r with
  | zero=>
   intro j m k Sz ho hj hm h he;obtain⟨m,rfl⟩:=Nat.exists_eq_succ_of_ne_zero (show m≠0 by omega);rw [dJ];unfold cL;refine aE ?_;have q:=hI k Sz h;rw [aR,lY (by omega),aZ,cG q.r1 rfl,cG q.r3 rfl];rw [List.drop_eq_nil_of_le (show(line.drop 1).length<=j by rw [List.length_drop];omega)]at he;refine⟨Nat.zero_le _,Nat.le_refl _,Nat.le_refl _,?_⟩;have e0:(if line.length=0 then 0 else 0+0*1)=0:=by rw [if_neg (by omega)]
   show bZ y y.most m0 (.yield l) (.ptr b0 0) (.ptr b1 0) (.ptr b2 0) (.ptr b3 0) (nu d) vd (ni diff.length) (ni i) (.own lo (if line.length=0 then 0 else 0+0*1) line.length line.length) (ni line.length) (ni 0) Sz K;rw [e0,hy.most];exact aEl d i m0 (fun _=>True) hd hk hi line.length 0 M k Sz (by omega) (by omega) h he
  | succ r ih=>
   intro j m k Sz ho hj hm h he;obtain⟨m,rfl⟩:=Nat.exists_eq_succ_of_ne_zero (show m≠0 by omega);rw [dJ];unfold cL;refine aE ?_;have ho1:o=1:=by rcases ho with h | h<;>omega
   subst ho1;have hlt:j<(line.drop 1).length:=by rw [List.length_drop];omega
   have q:=hI k Sz h;have nv:NV Sz (.own lo 1 (line.drop 1).length c) (line.drop 1):= .own q.l (fun k n hk=>by rw [List.getElem?_drop]at hk;exact rG hk) (by rw [cY,List.length_drop];omega);rw [List.length_drop]at nv;obtain⟨p,hp,hld⟩:=nv.at (i:=j) (List.getElem?_eq_getElem hlt);have hz:=VI _ (List.mem_of_mem_drop (List.getElem_mem hlt));rw [aR,AZ (by rw [List.length_drop]at hlt;exact hlt),cU,hp,hld Sz (.refl Sz),aN,cG q.r0 rfl];refine HG hy hd hz q23 ?_;rw [NC];have ed:(line.drop 1).drop j=(line.drop 1)[j]::(line.drop 1).drop (j+1):=List.drop_eq_getElem_cons hlt;rw [ed,List.map_cons,List.cons_append]at he;refine step y hy k Sz _ _ _ he h fun S' h'=>?_;rw [jV,Bool.not_true,aZ,aX (by omega)];exact ih (j+1) m (k+1) S' ho (by omega) (by omega) h' (SU he)
 have all:∀(r i m k:Nat) (Sz:Hp),i+r=diff.length->r<m->Inv k Sz->(rR line back diff).drop k=rR line back (diff.drop i)->bW y m (.yield l) (.ptr b0 0) (.ptr b1 0) (.ptr b2 0) (.ptr b3 0) vd (ni diff.length) (ni i) Sz K:=by
  intro r;induction r with
  | zero=>
   intro i m k Sz hi hm h he;obtain⟨m,rfl⟩:=Nat.exists_eq_succ_of_ne_zero (show m≠0 by omega);rw [gS];unfold fB;refine aE ?_;rw [aR,lY (by omega),aZ];rw [List.drop_eq_nil_of_le (show diff.length<=i by omega)]at he;exact aJ (hK k Sz he h)
  | succ r ih=>
   intro i m k Sz hi hm h he;obtain⟨m,rfl⟩:=Nat.exists_eq_succ_of_ne_zero (show m≠0 by omega);rw [gS];unfold fB;refine aE ?_;have hlt:i<diff.length:=by omega
   have q:=hI k Sz h;obtain⟨p,hp,hld⟩:=q.d.at (i:=i) (List.getElem?_eq_getElem hlt);rw [aR,AZ hlt,cU,hp,hld Sz (.refl Sz),cG q.r1 rfl,cG q.r2 rfl];refine⟨by omega,Nat.le_refl _,Nat.le_refl _,?_⟩;show cA y y.most m (.yield l) (.ptr b0 0) (.ptr b1 0) (.ptr b2 0) (.ptr b3 0) (nu diff[i]) vd (ni diff.length) (ni i) (.own lo (if line.length=1 then 0 else 0+1*1) (line.length-1) (line.length-1)) (ni (line.length-1)) (ni 0) Sz K;rw [hy.most];have ed:diff.drop i=diff[i]::diff.drop (i+1):=List.drop_eq_getElem_cons hlt;rw [ed]at he;refine aEm diff[i] i m (Cq _ (List.getElem_mem hlt)) (fun k Sz h he=>ih (i+1) m k Sz (by omega) (by omega) h he) (by omega) _ _ (line.length-1) 0 M k Sz ?_ (by omega) (by omega) h he;by_cases c:line.length=1
   ·exact .inr c
   ·rw [if_neg c];exact .inl rfl
 exact all diff.length 0 M 0 Sz (by omega) (by omega) h0 rfl
end
end Go.Am
