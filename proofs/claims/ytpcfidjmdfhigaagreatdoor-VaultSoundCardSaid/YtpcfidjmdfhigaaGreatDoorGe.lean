/- The program, and tables of its functions' live temporaries (written by a program). -/
import Derived.Test.YtpcfidjmdfhigaaGreatDoorGd
import Derived.Test.YtpcfidjmdfhigaaGreatDoorChecked
import Derived.Shelf.Bits.Mul64
import Derived.WalkKit
import Derived.Below
import Derived.BigCall
import Derived.Laws.Bits64
import Derived.Lib.Hide
import Derived.Deep.QuietTactic
import Derived.BigQuiet
import Derived.WalkSmall
import Derived.RegionTactic
import Derived.Test.YtpcfidjmdfhigaaGreatDoorGb
import Derived.Shelf.Sort.Plain
import Derived.Shelf.Slices.In.SortNone
import Derived.Ground.Names2Prog

noncomputable section
set_option linter.unusedVariables false
set_option maxRecDepth 100000
namespace Go.Am
abbrev PP:Program:=Go.Proofs.Tryz.prog
abbrev pY:FuncId:=5
abbrev yY:FuncId:=7
abbrev AO:FuncId:=8
abbrev GR:FuncId:=9
abbrev dG:FuncId:=10
abbrev BW:FuncId:=11
abbrev RT:FuncId:=14
abbrev oI:FuncId:=16
abbrev oH:FuncId:=17
abbrev JR:FuncId:=18
abbrev yX:FuncId:=24
abbrev GQ:FuncId:=25
abbrev HK:FuncId:=26
abbrev RE:FuncId:=28
abbrev uW:FuncId:=29
abbrev rU:FuncId:=30
abbrev qC:FuncId:=31
abbrev EH:FuncId:=32
abbrev uI:FuncId:=33
abbrev GU:FuncId:=34
abbrev JS:FuncId:=35
abbrev NH:FuncId:=36
abbrev vH:FuncId:=37
abbrev pF:FuncId:=40
abbrev dE:FuncId:=42
abbrev lI:FuncId:=43
abbrev cW:FuncId:=44
abbrev eQ:FuncId:=45
abbrev sY:FuncId:=46
abbrev ED:FuncId:=47
abbrev vG:FuncId:=48
abbrev HP:FuncId:=49
abbrev vI:FuncId:=50
abbrev yD:FuncId:=72
abbrev dF:FuncId:=73
abbrev sG:FuncId:=74
abbrev uJ:FuncId:=75
abbrev aR:FuncId:=76
abbrev FX:FuncId:=77
abbrev bN:FuncId:=78
abbrev pA:FuncId:=79
abbrev cI:FuncId:=80
abbrev lU:FuncId:=81
abbrev mY:FuncId:=82
abbrev cD:FuncId:=83
abbrev zC:FuncId:=84
abbrev MW:FuncId:=95
abbrev vU:FuncId:=99
abbrev oK:FuncId:=100
abbrev vW:FuncId:=101
abbrev vY:FuncId:=102
abbrev vV:FuncId:=103
abbrev vX:FuncId:=104
abbrev kR:FuncId:=105
abbrev fP:FuncId:=106
abbrev dY:FuncId:=107
abbrev gY:FuncId:=108
abbrev lM:FuncId:=109
abbrev qG:FuncId:=110
abbrev AX:FuncId:=111
abbrev GV:FuncId:=112
abbrev EG:FuncId:=113
abbrev vZ:FuncId:=114
abbrev cH:FuncId:=115
abbrev BF:FuncId:=116
abbrev wA:FuncId:=117
abbrev iU:FuncId:=118
abbrev iV:FuncId:=119
abbrev lG:FuncId:=120
abbrev lP:FuncId:=121
abbrev mZ:FuncId:=122
abbrev iM:FuncId:=123
abbrev OW:FuncId:=125
abbrev iO:FuncId:=128
abbrev zB:FuncId:=129
abbrev eS:FuncId:=130
abbrev vF:FuncId:=131
abbrev RU:FuncId:=132
abbrev JY:FuncId:=133
abbrev HQ:FuncId:=134
abbrev DW:FuncId:=154
abbrev xC:FuncId:=155
abbrev HF:FuncId:=156
abbrev CF:FuncId:=157
abbrev oC:FuncId:=158
abbrev kE:FuncId:=159
abbrev oF:FuncId:=160
abbrev DX:FuncId:=161
abbrev gW:FuncId:=162
abbrev yV:FuncId:=163
abbrev BE:FuncId:=164
abbrev LS:FuncId:=165
abbrev dM:FuncId:=168
abbrev GX:FuncId:=169
abbrev lW:FuncId:=170
abbrev lX:FuncId:=171
abbrev lY:FuncId:=172
abbrev dK:FuncId:=173
abbrev EI:FuncId:=174
abbrev lZ:FuncId:=175
abbrev mA:FuncId:=176
abbrev dD:FuncId:=177
abbrev xF:FuncId:=178
abbrev yK:FuncId:=179
abbrev fI:FuncId:=192
abbrev gZ:FuncId:=193
abbrev HR:FuncId:=194
abbrev wB:FuncId:=195
abbrev CP:FuncId:=196
abbrev eK:FuncId:=210
abbrev jJ:FuncId:=211
abbrev gI:FuncId:=212
abbrev nQ:FuncId:=213
abbrev cY:FuncId:=214
abbrev fR:FuncId:=215
abbrev NZ:FuncId:=216
abbrev jR:FuncId:=217
abbrev tU:FuncId:=218
abbrev dV:FuncId:=219
abbrev AY:FuncId:=220
abbrev dU:FuncId:=221
abbrev lN:FuncId:=228
abbrev yS:FuncId:=229
abbrev oJ:FuncId:=230
abbrev yR:FuncId:=231
abbrev jA:FuncId:=235
abbrev fF:FuncId:=236
abbrev zD:FuncId:=237
abbrev RD:FuncId:=238
abbrev OE:FuncId:=239
abbrev tV:FuncId:=241
abbrev fX:FuncId:=243
abbrev wC:FuncId:=244
def bK:FuncId->sN:=aQZ [(3,⟨cA [(5,[1,5,6],[],[4])],cB [(6,[1,5,6])]⟩),(4,⟨cA [(15,[7,8,83,84,85],[7],[6]),(6,[0,1,5,7,8,9],[0,5,8],[6])],cB []⟩),(5,⟨cA [(5,[1,5,6],[],[4])],cB []⟩),(6,⟨cA [],cB [(9,[3,4,5])]⟩),(7,⟨cA [(7,[0,3,4,5],[0,3,4],[]),(3,[0,3,4],[3],[])],cB []⟩),(10,⟨cA [(15,[0,4,8,9,10],[4,8],[])],cB [(16,[0,4,8,9,10]),(8,[4,6])]⟩),(11,⟨cA [(5,[3,5,6,8,38,39,40],[3,5,6,8],[6,7])],cB [(25,[6,8])]⟩),(13,⟨cA [(2,[2,3,5],[],[4])],cB []⟩),(15,⟨cA [(4,[0,1,5],[],[4])],cB []⟩),(19,⟨cA [(3,[1,3,4],[3],[])],cB []⟩),(20,⟨cA [(3,[1,3,4],[1,3],[])],cB []⟩),(21,⟨cA [],cB [(13,[4])]⟩),(23,⟨cA [],cB [(19,[2,4,5])]⟩),(24,⟨cA [(3,[0,3,4],[3],[])],cB []⟩),(26,⟨cA [(5,[2,3,10,11],[2,3],[])],cB []⟩),(29,⟨cA [(16,[3,10,11,14,15,63,64,68,69],[3,10,11,14,63,64],[]),(13,[3,10,11,14,63,64],[3,10,11,14],[]),(6,[3,9,10,11,29,30,31],[3,10,11],[])],cB []⟩),(30,⟨cA [(16,[2,4,8,10,11,14,15,16,17,75,76],[2,4,8,10,11,14,15,16,17],[]),(12,[2,4,8,10,11,14,15],[8,14],[]),(5,[2,3,4,8,10,11,38,39,40],[2,4,8,10,11],[])],cB []⟩),(31,⟨cA [(3,[2,3,7,10,11,12],[7],[])],cB []⟩),(32,⟨cA [(3,[1,2,3,7,8,9],[1,2,3],[])],cB []⟩),(37,⟨cA [(26,[2,7,11,13,14,15,16,17,78,79,84,85],[2,7,11,13,14,15,17,78,79],[]),(22,[2,7,11,13,14,15,78,79],[15],[]),(6,[2,6,7,32,33,34],[2,6,7],[4,5])],cB []⟩),(38,⟨cA [(4,[0,1,5],[],[4])],cB []⟩),(39,⟨cA [(4,[0,1,5],[],[4])],cB []⟩),(41,⟨cA [(4,[0,1,5],[],[4])],cB []⟩),(44,⟨cA [(9,[0,3,4,5],[0,3],[]),(4,[0,3],[0],[2])],cB [(10,[0,3,4,5])]⟩),(50,⟨cA [(8,[3,7,26,27,28],[7],[]),(3,[2,3,7,12,13,14],[2,3,7],[])],cB []⟩),(51,⟨cA [(4,[1,47,48,49],[1],[2])],cB []⟩),(53,⟨cA [(3,[0,2,14,15,16],[0],[])],cB []⟩),(55,⟨cA [(3,[0,2,14,15,16],[0],[])],cB []⟩),(58,⟨cA [(3,[0,2,14,15,16],[0],[])],cB []⟩),(59,⟨cA [(3,[0,2,14,15,16],[0],[])],cB []⟩),(63,⟨cA [(4,[0,1,5,15,16],[5],[4])],cB []⟩),(66,⟨cA [(4,[0,1,5,15,16],[5],[4])],cB []⟩),(68,⟨cA [(4,[0,1,5,15,16],[5],[4])],cB []⟩),(69,⟨cA [(4,[0,1,5,15,16],[5],[4])],cB []⟩),(73,⟨cA [(8,[0,1],[],[4])],cB []⟩),(74,⟨cA [(3,[2,3,9,14,15],[9],[])],cB []⟩),(75,⟨cA [(3,[0,1,2,7,10,11],[7],[])],cB []⟩),(76,⟨cA [(1000005,[3,7],[],[])],cB []⟩),(1360005,⟨cA [(1000000,[3,7],[],[]),(1000009,[3,10],[],[])],cB []⟩),(1360009,⟨cA [(1000000,[3,10],[],[])],cB []⟩),(77,⟨cA [(5,[7,8,9,26,27],[9],[])],cB []⟩),(78,⟨cA [(1000005,[3,7],[],[])],cB []⟩),(1230005,⟨cA [(1000000,[3,7],[],[])],cB []⟩),(79,⟨cA [(3,[0,1,5,11,12],[5],[])],cB []⟩),(80,⟨cA [(1000005,[4,5,7],[],[])],cB []⟩),(1250005,⟨cA [(1000000,[4,5,7],[],[])],cB []⟩),(81,⟨cA [(3,[1,2,7,13,14,15],[7],[])],cB []⟩),(82,⟨cA [(3,[2,3,7,10,11,12],[7],[])],cB []⟩),(84,⟨cA [(3,[3,6,7,8],[3],[])],cB []⟩),(95,⟨cA [(12,[0,3,6,16,17,36,37],[0,3,16,17],[]),(5,[0,3,16,17],[],[2])],cB []⟩),(105,⟨cA [(3,[1,3,8,9,10],[1],[2])],cB []⟩),(106,⟨cA [(6,[1,4,5,10,11,12,17,18,19],[1,4,5,10,11,12],[]),(2,[1,10,11,12],[],[2])],cB []⟩),(108,⟨cA [(3,[1,5,8,9,10],[5],[])],cB []⟩),(109,⟨cA [(3,[1,5,8,9,10],[5],[])],cB []⟩),(111,⟨cA [(3,[26,27,28],[],[8])],cB []⟩),(117,⟨cA [(3,[1,6,9,10,11],[1,6],[])],cB []⟩),(120,⟨cA [(3,[2,5,11,12,13],[5],[])],cB []⟩),(121,⟨cA [(2,[1,2,3,4,13,14,15],[2],[])],cB []⟩),(122,⟨cA [(3,[1,5,8,9,10],[5],[])],cB []⟩),(123,⟨cA [(3,[1,5,8,9,10],[5],[])],cB []⟩),(124,⟨cA [(4,[0,1,5],[],[4])],cB []⟩),(125,⟨cA [(4,[0,1,2,7],[7],[])],cB [(8,[0,1,2,7])]⟩),(126,⟨cA [(2,[0,1,2,3,8,9],[],[])],cB [(17,[0,1,2,3,8,9,10,11]),(15,[0,1,2,3,8,9,10,11,12]),(10,[0,1,2,3,8,9,10])]⟩),(128,⟨cA [(2,[0,1,7,8],[],[4])],cB []⟩),(133,⟨cA [(8,[5,31,32,33],[5],[]),(3,[0,5,14,15,16],[0,5],[])],cB []⟩),(138,⟨cA [(3,[1,2,7],[7],[])],cB []⟩),(139,⟨cA [(6,[6,19,20,21],[6],[])],cB []⟩),(143,⟨cA [(3,[5,11,12,13],[5],[])],cB []⟩),(145,⟨cA [(4,[0,2,15,16],[2],[])],cB []⟩),(163,⟨cA [(3,[3,6,7,8],[3],[])],cB []⟩),(165,⟨cA [(4,[2,3,7,8,16,17,18],[7],[])],cB []⟩),(167,⟨cA [(2,[0,1,7,8],[],[4])],cB []⟩),(168,⟨cA [(4,[0,1,12,13],[],[4])],cB []⟩),(177,⟨cA [(2,[0,1,7,8],[],[4])],cB []⟩),(179,⟨cA [(6,[0,1,2,9,21,22],[9],[6,7])],cB []⟩),(181,⟨cA [(4,[0,1,2,6,7],[0,1,2,6],[]),(1,[0,1,2,6],[],[])],cB []⟩),(182,⟨cA [(8,[0,6,7,10],[],[]),(4,[0,6,7,8,9],[0,6,7,8],[])],cB []⟩),(183,⟨cA [(5,[0,1,6,7,8,9],[],[])],cB [(10,[0,1,6,7,8,9,10])]⟩),(184,⟨cA [],cB [(12,[9,11]),(11,[0,9,10,11,12])]⟩),(185,⟨cA [(2,[0,6,7],[],[])],cB []⟩),(186,⟨cA [(20,[0,1,2,7,8,10],[0,1,2,7,8],[]),(14,[0,1,2,7,8,9],[0,1,2,7,8],[]),(5,[0,1,2,7,8],[0,1,2,7,8],[]),(3,[0,1,2,7,8],[],[6])],cB [(4,[0,1,2,7,8]),(18,[0,1,2,7,8])]⟩),(188,⟨cA [(5,[0,1,9,10],[0,1,9,10],[]),(3,[0,1,9,10],[0,1,9,10],[]),(3,[0,1,9,10],[9],[])],cB []⟩),(189,⟨cA [(15,[0,1,10,11],[0,1,10,11],[]),(13,[0,1,10,11],[0,1,10,11],[]),(13,[0,1,10,11],[0,1,11],[]),(5,[0,1,10,11],[0,1,10,11],[]),(3,[0,1,10,11],[0,1,10,11],[])],cB []⟩),(190,⟨cA [],cB [(7,[0,2]),(4,[0,2])]⟩),(191,⟨cA [],cB [(10,[0,2]),(7,[0,2]),(4,[0,2])]⟩),(192,⟨cA [(2,[0,1,7,8],[],[4])],cB []⟩),(193,⟨cA [(9,[0,4,5,54],[0,4,5],[]),(4,[0,4,5,6,32,33],[0,4,5],[])],cB []⟩),(195,⟨cA [(3,[0,5,8,9,10],[5],[])],cB []⟩),(207,⟨cA [(24,[2,8,9,10,14,15,16,17,18],[2,8,14,15,17,18],[]),(17,[2,8,9,10,11,13,14,15,16],[2,8,9,10,11,13,14,15],[])],cB [(28,[2,8,14,15,17,18]),(21,[2,8,9,10,11,13,14,15]),(5,[0,1,2]),(3,[0,1,2])]⟩),(210,⟨cA [(1,[0,1,2,9,10],[],[])],cB []⟩),(212,⟨cA [(1,[0,1,2,9,10],[],[])],cB []⟩),(214,⟨cA [(1,[0,1,2,9,10],[],[])],cB []⟩),(217,⟨cA [(5,[0,1,2,4,5,8,9,13,14],[0,1,2,4,5,8,9],[]),(1,[0,1,2,8,9],[],[])],cB []⟩),(218,⟨cA [(2,[2,7,8,9],[],[4])],cB []⟩),(219,⟨cA [(2,[0,1,7,8],[],[4])],cB []⟩),(220,⟨cA [(7,[0,1,5,19,20,21],[0,5],[])],cB []⟩),(221,⟨cA [(1000005,[7,11,12],[],[])],cB []⟩),(1450005,⟨cA [(1000000,[7,11,12],[],[])],cB []⟩),(222,⟨cA [(1,[0,2,3,8],[],[])],cB [(5,[0,2,3,8,9])]⟩),(228,⟨cA [(7,[6,32,33,34],[6],[4,5]),(3,[0,6,18],[6],[])],cB []⟩),(229,⟨cA [(5,[1,6,7,8,9],[6,8],[])],cB []⟩),(230,⟨cA [(1,[0,1,3,10,11,12],[],[])],cB []⟩),(241,⟨cA [(4,[0,5,19,20],[5],[])],cB []⟩),(243,⟨cA [(2,[0,1,7,8],[],[4])],cB []⟩),(244,⟨cA [(1,[0,1,2,3,4,8,9,10],[],[])],cB []⟩)]
end Go.Am
namespace Go.Proofs.OG
open Go Go.RowKit Go.Proofs Go.Shelf
def aOw:Go.Shelf.Ren:=⟨fun | 264=>208 | n=>n,fun | 46=>75 | 53=>22 | n=>n,fun n=>n⟩
theorem aLt:Lays.n264 Tryz.prog aOw:={
 mixed:=by kernel_rfl
 f264:=Tryz.func208.trans (congrArg some (by kernel_rfl))
 t46:=Tryz.underlying75
 a46:=Tryz.isAgg75
 z46:=Tryz.sizeOf75
 v46:=Tryz.zeroValue75
 t53:=Tryz.underlying22
 a53:=Tryz.isAgg22
 z53:=Tryz.sizeOf22
 v53:=Tryz.zeroValue22}
theorem Of (m:Nat) (w:World) (h0:0<m) (h1:m<=4294967296):Calls Tryz.prog 180 #[.int .u64 m] w fun e w'=>e= .returned (.bool true)/\w=w':=by
 have h2:m<=2305843009213693952:=by omega
 have h3:decide ((m:Int)<=2305843009213693952)=true:=by simp;omega
 go_enter Tryz.func180,Tryz.ntmps180
 go_wp2
 go_ret
 exact⟨rfl,rfl⟩
theorem aOx (lo y:Nat) (w:World) (h0:0<y) (h1:y<18446744073709551616) (h2:lo<18446744073709551616):Calls Tryz.prog 207 #[.int .u64 0,.int .u64 lo,.int .u64 y] w fun e w'=>e= .returned (.tuple #[.int .u64 ((lo / y:Nat):Int),.int .u64 ((lo%y:Nat):Int)])/\Below w.heap.size w w':=by
 have g1:((y:Int)==0)=false:=by rw [beq_eq_false_iff_ne];omega
 have g2:decide (y=0)=false:=by simp;omega
 go_enter Tryz.func207,Tryz.ntmps207
 go_wp2
 go_quiet (fail)
 go_wp2
 go_ret2
 refine⟨?_,below_drewN (Below.refl _ _) _⟩;show Ending.returned (.tuple #[.int .u64 (IntKind.u64.wrap ((lo / y:Nat):Int)),.int .u64 ((lo%y:Nat):Int)])=_;rw [Mul64.wrapN _ (Nat.lt_of_le_of_lt (Nat.div_le_self _ _) h2)]
theorem aOy (lo y:Nat) (w:World) (h0:0<y) (h1:y<18446744073709551616) (h2:lo<18446744073709551616):Calls Tryz.prog 209 #[.int .u64 0,.int .u64 lo,.int .u64 y] w fun e w'=>e= .returned (.int .u64 ((lo%y:Nat):Int))/\Below w.heap.size w w':=by
 have g1:((y:Int)==0)=false:=by rw [beq_eq_false_iff_ne];omega
 have C:=aOx lo y w h0 h1 h2
 go_enter Tryz.func209,Tryz.ntmps209
 go_wp2_with fail
 refine C.mono ?_
 rintro e W1 ⟨rfl,hb⟩
 go_wp2
 go_ret
 exact⟨rfl,hb⟩
set_option maxHeartbeats 1000000 in
theorem Og (a b m:Nat) (w:World) (ha:a<18446744073709551616) (hb:b<18446744073709551616) (hm:m<=4294967296) (h0:0<m):
 Calls Tryz.prog 158 #[.int .u64 a,.int .u64 b,.int .u64 m] w fun e w'=>e= .returned (.int .u64 ((a*b%m:Nat):Int))/\Below w.heap.size w w':=by
 have g1:((m:Int)==0)=false:=by rw [beq_eq_false_iff_ne];omega
 have la:a%m<m:=Nat.mod_lt _ h0;have lb:b%m<m:=Nat.mod_lt _ h0
 have lab:a%m*(b%m)<18446744073709551616:=by
  have:a%m*(b%m)<=4294967295*4294967295:=Nat.mul_le_mul (by omega) (by omega);omega
 have C1:∀w,Calls Tryz.prog 208 #[.int .u64 ((a%m:Nat):Int),.int .u64 ((b%m:Nat):Int)] w fun e w'=>e= .returned (.tuple #[.int .u64 0,.int .u64 ((a%m*(b%m):Nat):Int)])/\w'=w:=by
  intro w;have C:=Any.bits_Mul64 aLt (a%m) (b%m) (by omega) (by omega) w;rw [Nat.div_eq_of_lt lab,Nat.mod_eq_of_lt lab]at C;exact C
 have C2:∀w,Calls Tryz.prog 209 #[.int .u64 0,.int .u64 ((a%m*(b%m):Nat):Int),.int .u64 m] w fun e w'=>e= .returned (.int .u64 ((a*b%m:Nat):Int))/\Below w.heap.size w w':=by
  intro w;have C:=aOy (a%m*(b%m)) m w h0 (by omega) lab;rw [<-Nat.mul_mod]at C;exact C
 have hM:=Of m w h0 hm;clear la lb lab
 go_enter Tryz.func158,Tryz.ntmps158
 go_wp2_with fail
 refine hM.mono ?_
 rintro e W1 ⟨rfl,rfl⟩
 go_wp2_with fail
 go_quiet ((go_at_call 208;exact Calls.quiet_of_same (C1 _)))
 go_wp2_with fail
 refine(C2 _).mono ?_
 rintro e W2 ⟨rfl,MP⟩
 go_wp2
 go_ret
 exact⟨rfl,(below_drewN (Below.refl _ _) _).trans MP⟩
theorem aOz (a b m:Nat) (w:World) (ha:a<18446744073709551616) (hb:b<18446744073709551616) (hm:m<=4294967296) (h0:0<m):
 Calls Tryz.prog 157 #[.int .u64 a,.int .u64 b,.int .u64 m] w fun e w'=>e= .returned (.int .u64 (((a%m+b%m)%m:Nat):Int))/\Below w.heap.size w w':=by
 have g1:((m:Int)==0)=false:=by rw [beq_eq_false_iff_ne];omega
 have la:a%m<m:=Nat.mod_lt _ h0;have lb:b%m<m:=Nat.mod_lt _ h0;have g2:=Mul64.wrapN (a%m+b%m) (by omega);have hM:=Of m w h0 hm;clear la lb
 go_enter Tryz.func157,Tryz.ntmps157
 go_wp2_with fail
 refine hM.mono ?_
 rintro e W1 ⟨rfl,rfl⟩
 go_wp2_with fail
 go_quiet (fail)
 go_wp2
 go_ret
 refine⟨congrArg (fun x=>Ending.returned (.int .u64 x)) ?_,below_drewN (Below.refl _ _) _⟩;show(IntKind.u64.wrap ((a:Int)%m+(b:Int)%m)).tmod m=_;have e1:(a:Int)%m+(b:Int)%m=((a%m+b%m:Nat):Int):=by norm_cast
 rw [e1,g2,<-Int.ofNat_tmod]
theorem aH3 (a b m:Nat) (w:World) (ha:a<18446744073709551616) (hb:b<18446744073709551616) (hm:m<=4294967296) (h0:0<m):
 Calls Tryz.prog 231 #[.int .u64 a,.int .u64 b,.int .u64 m] w fun e w'=>e= .returned (.int .u64 ((iD a b m:Nat):Int))/\Below w.heap.size w w':=by
 have g1:((m:Int)==0)=false:=by rw [beq_eq_false_iff_ne];omega
 have la:a%m<m:=Nat.mod_lt _ h0;have lb:b%m<m:=Nat.mod_lt _ h0;have g2:=Mul64.wrapN (a%m+m) (by omega);have hM:=Of m w h0 hm;clear la lb
 go_enter Tryz.func231,Tryz.ntmps231
 go_wp2_with fail
 refine hM.mono ?_
 rintro e W1 ⟨rfl,rfl⟩
 go_wp2_with fail
 go_quiet (fail)
 go_wp2
 go_ret
 refine⟨congrArg (fun x=>Ending.returned (.int .u64 x)) ?_,below_drewN (Below.refl _ _) _⟩;show(IntKind.u64.wrap (IntKind.u64.wrap ((a:Int)%m+m)-(b:Int)%m)).tmod m=_;have lb:b%m<m:=Nat.mod_lt _ h0;have la:a%m<m:=Nat.mod_lt _ h0;have e1:(a:Int)%m+m=((a%m+m:Nat):Int):=by norm_cast
 have e2:((a%m+m:Nat):Int)-(b:Int)%m=((a%m+m-b%m:Nat):Int):=by
  have:((b%m:Nat):Int)=(b:Int)%m:=by norm_cast
  rw [<-this];omega
 rw [e1,g2,e2,Mul64.wrapN _ (by omega),<-Int.ofNat_tmod];rfl
theorem aLu (e:Nat) (he:e<18446744073709551616):bits .and .u64 (e:Int) 1=((e%2:Nat):Int):=by
 have h:=bits_and_u64_nat e 1 he (by omega);rw [Nat.and_one_is_mod]at h;exact h
set_option maxHeartbeats 1000000 in
theorem aOA (a e m:Nat) (w:World) (ha:a<18446744073709551616) (he:e<18446744073709551616) (h0:0<m) (hm:m<=4294967296):
 Calls Tryz.prog 125 #[.int .u64 a,.int .u64 e,.int .u64 m] w fun r w'=>r= .returned (.int .u64 ((YF 64 (1%m) a e m:Nat):Int))/\Below w.heap.size w w':=by
 have g1:((m:Int)==0)=false:=by rw [beq_eq_false_iff_ne];omega
 have hM:=Of m w h0 hm
 go_enter Tryz.func125,Tryz.ntmps125
 go_wp2_with fail
 refine hM.mono ?_
 rintro e W1 ⟨rfl,rfl⟩
 go_wp2_with fail
 go_loopw [0,1,7] (fun av ev ov wr=>∃(f a' e' o':Nat),a'<18446744073709551616/\o'<18446744073709551616/\e'<2 ^ f/\f<=64/\av= .int .u64 a'/\ev= .int .u64 e'/\ov= .int .u64 o'/\YF f o' a' e' m=YF 64 (1%m) a e m/\Below w.heap.size w wr) (fun _ ev _ _=>(intOf ev).toNat)
 case atStart=>exact⟨64,a,e,1%m,ha,by have:=Nat.mod_lt 1 h0;omega,he,Nat.le_refl _,rfl,rfl,by norm_cast,rfl,Below.refl _ _⟩
 case round=>
  obtain⟨f,a',e',o',h1,h2,h3,h4,rfl,rfl,rfl,h5,h6⟩:=hrel;have H5:=Lib.hid h5;clear h5
  have he':e'<18446744073709551616:=by
   have:2 ^ f<=2 ^ 64:=Nat.pow_le_pow_right (by omega) h4;omega
  by_cases hz:0<e'
  ·obtain⟨f,rfl⟩:∃g,f=g+1:=by
    cases f with
    | zero=>simp at h3;omega
    | succ g=>exact⟨g,rfl⟩
   have aA8:=Uf (f:=f) (out:=o') (a:=a') (m:=m) hz;have HS:=Lib.hid aA8;clear aA8;have h3':e' / 2<2 ^ f:=by rw [Nat.pow_succ]at h3;omega
   have la:a'*a'%m<m:=Nat.mod_lt _ h0;have lo:o'*a'%m<m:=Nat.mod_lt _ h0;clear h3;have ga:=aLu e' he';by_cases ho:e'%2=1
   ·have ga1:bits .and .u64 (e':Int) 1=1:=by rw [ga,ho];rfl
    have HO:=Lib.hid ho;clear ga ho
    go_wp2_with fail
    refine(Og o' a' m _ h2 h1 hm h0).mono ?_
    rintro r W1 ⟨rfl,By⟩
    go_wp2_with fail
    refine(Og a' a' m _ h1 h1 hm h0).mono ?_
    rintro r W2 ⟨rfl,MP⟩
    go_wp2
    go_roundw
    case rel=>
     refine⟨f,a'*a'%m,e' / 2,o'*a'%m,by omega,by omega,h3',by omega,rfl,?_,rfl,?_,h6.trans ((By.mono h6.size).trans (MP.mono (Nat.le_trans h6.size By.size)))⟩
     ·norm_cast
     ·rw [<-H5.out,HS.out,if_pos HO.out]
    case measure=>simp [intOf];omega
   ·have ho:e'%2=0:=by omega
    have ga1:bits .and .u64 (e':Int) 1=0:=by rw [ga,ho];rfl
    have HO:=Lib.hid ho;clear ga ho
    go_wp2_with fail
    refine(Og a' a' m _ h1 h1 hm h0).mono ?_
    rintro r W2 ⟨rfl,MP⟩
    go_wp2
    go_roundw
    case rel=>
     refine⟨f,a'*a'%m,e' / 2,o',by omega,by omega,h3',by omega,rfl,?_,rfl,?_,h6.trans (MP.mono h6.size)⟩
     ·norm_cast
     ·rw [<-H5.out,HS.out,if_neg (by rw [HO.out];omega)]
    case measure=>simp [intOf];omega
  ·obtain rfl:e'=0:=by omega
   go_wp2
   go_ret
   refine⟨?_,h6⟩;have:=H5.out;rw [Ue]at this;rw [<-this];rfl
def Lg (a m:Nat) (e:Ending):Prop:=e= .returned (if(CQ (a%m+1) m (a%m) 0 (1%m) m).1=1 then .tuple #[.int .u64 ((CQ (a%m+1) m (a%m) 0 (1%m) m).2:Nat),.int .i64 0]else .tuple #[.int .u64 0,.int .i64 5])
set_option maxHeartbeats 1000000 in
theorem aOB (a m:Nat) (w:World) (ha:a<18446744073709551616) (h0:0<m) (hm:m<=4294967296):
 Calls Tryz.prog 229 #[.int .u64 a,.int .u64 m] w fun r w'=>Lg a m r/\Below w.heap.size w w':=by
 have g1:((m:Int)==0)=false:=by rw [beq_eq_false_iff_ne];omega
 have hM:=Of m w h0 hm
 go_enter Tryz.func229,Tryz.ntmps229
 go_wp2_with fail
 refine hM.mono ?_
 rintro e W1 ⟨rfl,rfl⟩
 go_wp2_with fail
 go_quiet (fail)
 go_wp2_with fail
 go_quiet (fail)
 go_wp2_with fail
 go_loopw [6,7,8,9,10] (fun rv sv xv yv _ wr=>∃(f r s x y:Nat),r<18446744073709551616/\s<f/\s<18446744073709551616/\x<18446744073709551616/\y<18446744073709551616/\rv= .int .u64 r/\sv= .int .u64 s/\xv= .int .u64 x/\yv= .int .u64 y/\CQ f r s x y m=CQ (a%m+1) m (a%m) 0 (1%m) m/\Below w.heap.size w wr) (fun _ sv _ _ _ _=>(intOf sv).toNat)
 case atStart=>
  have l1:a%m<m:=Nat.mod_lt _ h0;have l2:1%m<m:=Nat.mod_lt _ h0;exact⟨a%m+1,m,a%m,0,1%m,by omega,by omega,by omega,by omega,by omega,rfl,by norm_cast,rfl,by norm_cast,rfl,below_drewN (below_drewN (Below.refl _ _) _) _⟩
 case round=>
  obtain⟨f,r,s,x,y,h1,h2,h3,h4,h5,rfl,rfl,rfl,rfl,h6,h7⟩:=hrel;have H6:=Lib.hid h6;clear h6;by_cases hz:0<s
  ·obtain⟨f,rfl⟩:∃g,f=g+1:=⟨f-1,by omega⟩
   have aA8:=aF3 (f:=f) (r:=r) (x:=x) (y:=y) (m:=m) hz;have HS:=Lib.hid aA8;clear aA8;have l1:r%s<s:=Nat.mod_lt _ hz;have l2:r / s<=r:=Nat.div_le_self _ _;have l3:r / s*y%m<m:=Nat.mod_lt _ h0;have l4:iD x (r / s*y%m) m<m:=Nat.mod_lt _ h0;have g2:((s:Int)==0)=false:=by rw [beq_eq_false_iff_ne];omega
   have g3:((s:Int) != 0)=true:=by rw [bne_iff_ne];omega
   have g4:IntKind.u64.wrap ((r:Int) / s)=((r / s:Nat):Int):=by
    have:=Mul64.wrapN (r / s) (by omega);rw [<-this];norm_cast
   have G4:=Lib.hid g4;clear g4
   go_wp2_with fail
   go_quiet (fail)
   go_wp2_with fail
   rw [G4.out];refine(Og (r / s) y m _ (by omega) h5 hm h0).mono ?_
   rintro e W1 ⟨rfl,By⟩
   go_wp2_with fail
   refine(aH3 x (r / s*y%m) m _ h4 (by omega) hm h0).mono ?_
   rintro e W2 ⟨rfl,MP⟩
   go_wp2
   go_roundw
   case rel=>
    refine⟨f,s,r%s,y,iD x (r / s*y%m) m,h3,by omega,by omega,h5,by omega,rfl,?_,rfl,rfl,by rw [<-H6.out,HS.out],?_⟩
    ·norm_cast
    ·refine(below_drewN h7 ?_).trans ?_
     rotate_left
     ·exact(By.mono h7.size).trans (MP.mono (Nat.le_trans h7.size By.size))
   case measure=>simp [intOf];omega
  ·obtain rfl:s=0:=by omega
   by_cases hr:r=1
   ·subst hr
    go_wp2
    go_ret2
    have:=H6.out;rw [Ug]at this;exact⟨by unfold Lg;rw [<-this];rfl,h7⟩
   ·have g5:((r:Int) != 1)=true:=by rw [bne_iff_ne];omega
    go_wp2
    go_ret2
    have:=H6.out;rw [Ug]at this;exact⟨by unfold Lg;rw [<-this,if_neg hr];rfl,h7⟩
end Go.Proofs.OG
namespace Go.Am
open Go.RowKit Go.MapKept Go.Proofs Go.Proofs.OG
def aBa (args:List Value) (k:Nat->Nat->Nat->Bool):Bool:=
 match args with
 | [.int .u64 (.ofNat a),.int .u64 (.ofNat b),.int .u64 (.ofNat m)]=>match Nat.blt a 18446744073709551616,Nat.blt b 18446744073709551616,Nat.ble m 4294967296,Nat.blt 0 m with
  | true,true,true,true=>k a b m
  | _,_,_,_=>false
 | _=>false
def ov3 (g:Nat->Nat->Nat->Nat) (args:List Value) (S:St) (K:VK):Bool:=aBa args fun a b m=>bX (g a b m) fun n=>K (.int .u64 (.ofNat n)) S
def aTn (e:Nat) (out a m:Nat) (k:Nat->Bool):Bool:=
 MF (β:=Nat->Nat->Nat->Bool) (fun out _ _=>k out) (fun _ ih out a e=>match Nat.beq e 0 with
  | true=>k out
  | false=>match Nat.beq (Nat.mod e 2) 1 with
   | true=>bX (Nat.mod (Nat.mul out a) m) fun out=>bX (Nat.mod (Nat.mul a a) m) fun a=>bX (Nat.div e 2) fun e=>ih out a e
   | false=>bX (Nat.mod (Nat.mul a a) m) fun a=>bX (Nat.div e 2) fun e=>ih out a e) 64 out a e
def aEw (args:List Value) (S:St) (K:VK):Bool:=aBa args fun a e m=>aTn e (Nat.mod 1 m) a m fun n=>K (.int .u64 (.ofNat n)) S
def aLD (f:Nat) (r s x y m:Nat) (k:Nat->Nat->Bool):Bool:=
 MF (β:=Nat->Nat->Nat->Nat->Bool) (fun r _ x _=>k r x) (fun _ ih r s x y=>match Nat.beq s 0 with
  | true=>k r x
  | false=>bX (Nat.mod r s) fun s'=>bX (iD x (Nat.mod (Nat.mul (Nat.div r s) y) m) m) fun y'=>ih s s' y y') f r s x y
def aBb (args:List Value) (S:St) (K:VK):Bool:=
 match args with
 | [.int .u64 (.ofNat a),.int .u64 (.ofNat m)]=>match Nat.blt a 18446744073709551616,Nat.ble m 4294967296,Nat.blt 0 m with
  | true,true,true=>bX (Nat.mod a m) fun s=>aLD (Nat.succ s) m s 0 (Nat.mod 1 m) m fun r x=>match Nat.beq r 1 with
   | true=>K (.tuple ⟨[.int .u64 (.ofNat x),.int .i64 (.ofNat 0)]⟩) S
   | false=>K (.tuple ⟨[.int .u64 (.ofNat 0),.int .i64 (.ofNat 5)]⟩) S
  | _,_,_=>false
 | _=>false
theorem aEx{m:Nat}{k:Nat->Bool}:∀(f out a e:Nat),MF (β:=Nat->Nat->Nat->Bool) (fun out _ _=>k out) (fun _ ih out a e=>match Nat.beq e 0 with
 | true=>k out
 | false=>match Nat.beq (Nat.mod e 2) 1 with
  | true=>bX (Nat.mod (Nat.mul out a) m) fun out=>bX (Nat.mod (Nat.mul a a) m) fun a=>bX (Nat.div e 2) fun e=>ih out a e
  | false=>bX (Nat.mod (Nat.mul a a) m) fun a=>bX (Nat.div e 2) fun e=>ih out a e) f out a e=k (YF f out a e m):=by
 intro f;induction f with
 | zero=>intro out a e;rfl
 | succ f ih=>
  intro out a e
  show(match Nat.beq e 0 with
   | true=>k out
   | false=>match Nat.beq (Nat.mod e 2) 1 with
    | true=>bX (Nat.mod (Nat.mul out a) m) fun out=>bX (Nat.mod (Nat.mul a a) m) fun a=>bX (Nat.div e 2) fun e=>MF (β:=Nat->Nat->Nat->Bool) _ _ f out a e
    | false=>bX (Nat.mod (Nat.mul a a) m) fun a=>bX (Nat.div e 2) fun e=>MF (β:=Nat->Nat->Nat->Bool) _ _ f out a e)=k (match Nat.beq e 0 with
   | true=>out
   | false=>YF f (match Nat.beq (e%2) 1 with | true=>out*a%m | false=>out) (a*a%m) (e / 2) m)
  cases Nat.beq e 0 with
  | true=>rfl
  | false=>
   show(match Nat.beq (e%2) 1 with | true=>_ | false=>_)=_;cases Nat.beq (e%2) 1 with
   | true=>
    show bX (Nat.mod (Nat.mul out a) m) (fun out=>bX (Nat.mod (Nat.mul a a) m) fun a=>bX (Nat.div e 2) fun e=>MF (β:=Nat->Nat->Nat->Bool) _ _ f out a e)=_;rw [bJ,bJ,bJ];exact ih _ _ _
   | false=>
    show bX (Nat.mod (Nat.mul a a) m) (fun a=>bX (Nat.div e 2) fun e=>MF (β:=Nat->Nat->Nat->Bool) _ _ f out a e)=_;rw [bJ,bJ];exact ih _ _ _
theorem aEv{m:Nat}{k:Nat->Nat->Bool}:∀(f r s x y:Nat),aLD f r s x y m k=k (CQ f r s x y m).1 (CQ f r s x y m).2:=by
 intro f;induction f with
 | zero=>intro r s x y;rfl
 | succ f ih=>
  intro r s x y
  show(match Nat.beq s 0 with
   | true=>k r x
   | false=>bX (Nat.mod r s) fun s'=>bX (iD x (Nat.mod (Nat.mul (Nat.div r s) y) m) m) fun y'=>aLD f s s' y y' m k)=k (match Nat.beq s 0 with
   | true=>(r,x)
   | false=>CQ f s (r%s) y (iD x (r / s*y%m) m) m).1 (match Nat.beq s 0 with
   | true=>(r,x)
   | false=>CQ f s (r%s) y (iD x (r / s*y%m) m) m).2
  cases Nat.beq s 0 with
  | true=>rfl
  | false=>simp only [bJ];exact ih _ _ _ _
section
variable{w0:World}{U:Rn}{S:St}{w:World}
theorem Or{args eV:List Value}{k:Nat->Nat->Nat->Bool} (hk:aBa args k=true) (ha:lR U args eV):∃a b m:Nat,eV=[.int .u64 a,.int .u64 b,.int .u64 m]/\a<18446744073709551616/\b<18446744073709551616/\m<=4294967296/\0<m/\k a b m=true:=by
 unfold aBa at hk;split at hk
 ·rename_i a b m
  obtain⟨a',t,rfl,h1,h2⟩:=ha.dN;obtain⟨b',t,rfl,h3,h4⟩:=h2.dN;obtain⟨c',t,rfl,h5,h6⟩:=h4.dN;cases h6.kV;cases h1.of_flat rfl;cases h3.of_flat rfl;cases h5.of_flat rfl;split at hk
  ·rename_i g1 g2 g3 g4
   exact⟨a,b,m,rfl,cJ g1,cJ g2,cJ g3,cJ g4,hk⟩
  ·cases hk
 ·cases hk
theorem aC2{f:FuncId}{g:Nat->Nat->Nat->Nat} (he:∀args w,(callFunc f args).run Tryz.prog w= .ok (.enter f args) w)
 (C:∀(a b m:Nat) (w:World),a<18446744073709551616->b<18446744073709551616->m<=4294967296->0<m->Calls Tryz.prog f #[.int .u64 a,.int .u64 b,.int .u64 m] w fun e w'=>e= .returned (.int .u64 (g a b m:Nat))/\Below w.heap.size w w'):
 kY Tryz.prog w0 (fun f' args S K=>match Nat.beq f' f with | true=>ov3 g args S K | false=>false):=by
 intro f' args S K U w eV hk h ha;dsimp only at hk;split at hk
 ·rename_i hf'
  obtain rfl:f'=f:=by simpa using hf'
  refine⟨he ⟨eV⟩,?_⟩;obtain⟨a,b,m,rfl,h1,h2,h3,h4,hk⟩:=Or hk ha;rw [bJ]at hk;refine callsIn_wide.2 ((C a b m w h1 h2 h3 h4).mono ?_)
  rintro e w' ⟨rfl,hb⟩
  obtain⟨q1,q2⟩:=h.below hb;exact⟨_,rfl,U,_,S,hk,.flat rfl,q1,q2⟩
 ·cases hk
theorem aIZ:kY Tryz.prog w0 (fun f' args S K=>match Nat.beq f' 125 with | true=>aEw args S K | false=>false):=by
 intro f' args S K U w eV hk h ha;dsimp only at hk;split at hk
 ·rename_i hf'
  obtain rfl:f'=125:=by simpa using hf'
  refine⟨enters_of Tryz.func125 (by kernel_rfl) rfl ⟨eV⟩,?_⟩;obtain⟨a,b,m,rfl,h1,h2,h3,h4,hk⟩:=Or hk ha;have hk:K (.int .u64 (.ofNat (YF 64 (1%m) a b m))) S=true:=(aEx (k:=fun n=>K (.int .u64 (.ofNat n)) S) 64 (1%m) a b).symm.trans hk;refine callsIn_wide.2 ((aOA a b m w h1 h2 h4 h3).mono ?_)
  rintro e w' ⟨rfl,hb⟩
  obtain⟨q1,q2⟩:=h.below hb;exact⟨_,rfl,U,_,S,hk,.flat rfl,q1,q2⟩
 ·cases hk
theorem aI0:kY Tryz.prog w0 (fun f' args S K=>match Nat.beq f' 229 with | true=>aBb args S K | false=>false):=by
 intro f' args S K U w eV hk h ha;dsimp only at hk;split at hk
 ·rename_i hf'
  obtain rfl:f'=229:=by simpa using hf'
  refine⟨enters_of Tryz.func229 (by kernel_rfl) rfl ⟨eV⟩,?_⟩;unfold aBb at hk;split at hk
  ·rename_i a m
   obtain⟨a',t,rfl,h1,h2⟩:=ha.dN;obtain⟨c',t,rfl,h3,h4⟩:=h2.dN;cases h4.kV;cases h1.of_flat rfl;cases h3.of_flat rfl;split at hk
   ·rename_i g1 g2 g3
    have g1:=cJ g1;have g2:=cJ g2;have g3:=cJ g3;rw [bJ,aEv]at hk;refine callsIn_wide.2 ((aOB a m w g1 g3 g2).mono ?_)
    rintro e w' ⟨he,hbe⟩
    obtain⟨q1,q2⟩:=h.below hbe;unfold Lg at he;by_cases hr:(CQ (a%m+1) m (a%m) 0 (1%m) m).1=1
    ·have hb:Nat.beq (CQ (Nat.succ (Nat.mod a m)) m (Nat.mod a m) 0 (Nat.mod 1 m) m).1 1=true:=by
      show Nat.beq (CQ (a%m+1) m (a%m) 0 (1%m) m).1 1=true;rw [hr];rfl
     rw [hb]at hk;rw [aO hr]at he;subst he;exact⟨_,rfl,U,_,S,hk,.pO (.cons (.flat rfl) (.cons (.flat rfl) (.nil U))),q1,q2⟩
    ·have hb:Nat.beq (CQ (Nat.succ (Nat.mod a m)) m (Nat.mod a m) 0 (Nat.mod 1 m) m).1 1=false:=by
      cases hq:Nat.beq (CQ (Nat.succ (Nat.mod a m)) m (Nat.mod a m) 0 (Nat.mod 1 m) m).1 1 with
      | false=>rfl
      | true=>exact bC (dH hq) hr
     rw [hb]at hk;rw [aG hr]at he;subst he;exact⟨_,rfl,U,_,S,hk,.pO (.cons (.flat rfl) (.cons (.flat rfl) (.nil U))),q1,q2⟩
   ·cases hk
  ·cases hk
 ·cases hk
def aH6 (ov:FuncId->Option (List Value->St->VK->Bool)):FuncId->Option (List Value->St->VK->Bool):=
 FR 158 (ov3 fun a b m=>a*b%m) (FR 157 (ov3 fun a b m=>(a%m+b%m)%m) (FR 231 (ov3 iD) (FR 125 aEw (FR 229 aBb ov))))
theorem aH7{ov:FuncId->Option (List Value->St->VK->Bool)} (h:Cs Tryz.prog w0 ov):Cs Tryz.prog w0 (aH6 ov):=
 wF (aC2 (enters_of Tryz.func158 (by kernel_rfl) rfl) fun a b m w h1 h2 h3 h4=>Og a b m w h1 h2 h3 h4)
  (wF (aC2 (enters_of Tryz.func157 (by kernel_rfl) rfl) fun a b m w h1 h2 h3 h4=>aOz a b m w h1 h2 h3 h4)
   (wF (aC2 (enters_of Tryz.func231 (by kernel_rfl) rfl) fun a b m w h1 h2 h3 h4=>aH3 a b m w h1 h2 h3 h4)
    (wF aIZ (wF aI0 h))))
end
end Go.Am
namespace Go.Am
open Go.Proofs Go.RowKit
theorem Oh:Tryz.prog.follows .mixedOrders=true:=by kernel_rfl
theorem aH4:Tryz.prog.funcs.toList.all (fun f=>f.name != "runtime.NumGoroutine")=true:=by kernel_rfl
theorem Oi:∀(f:FuncId) (fn:Func),Tryz.prog.funcs[f]? =some fn->fn.name≠ "runtime.NumGoroutine" :=by
 intro f fn h;have hm:fn∈Tryz.prog.funcs.toList:=CY (i:=f) (by rw [Lu];exact h);have:=List.all_eq_true.1 aH4 fn hm;simpa using this
def triedL:List Int:=[2,3,5,7,11,13,17,19,23,29,31,37]
def tabL:List Int:=[0,1,56,2,57,49,28,3,61,58,42,50,38,29,17,4,62,47,59,36,45,43,51,22,53,39,33,30,24,18,12,5,63,55,48,27,60,41,37,16,46,35,44,21,52,32,23,11,54,26,40,15,34,20,31,10,25,14,19,9,13,8,7,6]
def gs:List Nn:=[⟨0,triedL.map (Value.int .u64),228,12⟩,⟨1,tabL.map (Value.int .u8),275,64⟩]
theorem gsz:Tryz.prog.globals.size=4:=by kernel_rfl
theorem aEn:GOk Tryz.prog gs:=by
 refine⟨by decide,fun x hx=>?_⟩;rcases List.mem_cons.1 hx with rfl | hx
 ·exact⟨by rw [gsz];decide,by kernel_rfl,by simp [bY]⟩
 ·rcases List.mem_cons.1 hx with rfl | hx
  ·exact⟨by rw [gsz];decide,by kernel_rfl,by simp [bY]⟩
  ·cases hx
def aH5:FuncId->Option (List Value->St->VK->Bool):=aH6 (fun _=>none)
theorem aEo{w:World}:Cs Tryz.prog w aH5:=aH7 (fun f g hg=>by cases hg)
set_option maxRecDepth 1000000 in
theorem aCO:XJ Tryz.prog aH5 1000 60 95 gs ([.int .u64 11],.bool true):=⟨by simp [kO,bY],rfl,by kernel_rfl⟩
set_option maxRecDepth 1000000 in
theorem aCP:XJ Tryz.prog aH5 1000 60 95 gs ([.int .u64 23],.bool true):=⟨by simp [kO,bY],rfl,by kernel_rfl⟩
def Xm:List (List Value×Value):=[([.int .u64 11],.bool true),([.int .u64 23],.bool true)]
def aLv:FuncId->Option (List Value->St->VK->Bool):=FR 95 (MU Xm) aH5
theorem aEp{w:World} (hsz:Tryz.prog.globals.size<=w.heap.size) (hl:Laid gs w):Cs Tryz.prog w aLv:=by
 refine wF (Lc (most:=1000) (n:=60) aEn hsz hl (fun w _ _=>aEo) Oi Oh (enters_of Tryz.func95 (by kernel_rfl) rfl) fun x hx=>?_) aEo;unfold Xm at hx;rcases List.mem_cons.1 hx with rfl | hx
 ·exact aCO
 rcases List.mem_cons.1 hx with rfl | hx
 ·exact aCP
 cases hx
set_option maxRecDepth 1000000 in
theorem aH8:XJ Tryz.prog aLv 1000 60 33 gs ([.agg #[.int .u64 23,.int .u64 11,.int .u64 4,.int .u64 9,.int .i64 5,.int .i64 4,.int .i64 1,.int .i64 1,.int .i64 1,.int .i64 1,.int .i64 1,.int .i64 1]],.bool true):=⟨by simp [kO,bY],rfl,by kernel_rfl⟩
def aLw:List (List Value×Value):=[([.agg #[.int .u64 23,.int .u64 11,.int .u64 4,.int .u64 9,.int .i64 5,.int .i64 4,.int .i64 1,.int .i64 1,.int .i64 1,.int .i64 1,.int .i64 1,.int .i64 1]],.bool true)]
def aLx:FuncId->Option (List Value->St->VK->Bool):=FR 33 (MU aLw) aLv
theorem aEq{w:World} (hsz:Tryz.prog.globals.size<=w.heap.size) (hl:Laid gs w):Cs Tryz.prog w aLx:=by
 refine wF (Lc (most:=1000) (n:=60) aEn hsz hl (fun w hz hw=>aEp hz hw) Oi Oh (enters_of Tryz.func33 (by kernel_rfl) rfl) fun x hx=>?_) (aEp hsz hl);unfold aLw at hx;rcases List.mem_cons.1 hx with rfl | hx
 ·exact aH8
 cases hx
set_option maxRecDepth 1000000 in
theorem aF4:XJ Tryz.prog aLx 1000 60 156 gs ([.int .u64 11],.int .u64 5):=⟨by simp [kO,bY],rfl,by kernel_rfl⟩
def aEr:List (List Value×Value):=[([.int .u64 11],.int .u64 5)]
def aLy:FuncId->Option (List Value->St->VK->Bool):=FR 156 (MU aEr) aLx
theorem aEs{w:World} (hsz:Tryz.prog.globals.size<=w.heap.size) (hl:Laid gs w):Cs Tryz.prog w aLy:=by
 refine wF (Lc (most:=1000) (n:=60) aEn hsz hl (fun w hz hw=>aEq hz hw) Oi Oh (enters_of Tryz.func156 (by kernel_rfl) rfl) fun x hx=>?_) (aEq hsz hl);unfold aEr at hx;rcases List.mem_cons.1 hx with rfl | hx
 ·exact aF4
 cases hx
end Go.Am
namespace Go.Proofs
open Go.Shelf
def Tryz.sortI_ren:Go.Shelf.Ren:=⟨fun | 189=>43 | 125=>127 | 257=>126 | 128=>190 | 129=>191 | 294=>181 | 295=>182 | 296=>183 | 297=>184 | 298=>185 | 299=>186 | 216=>187 | 300=>188 | 301=>189 | 328=>222 | 329=>223 | 330=>224 | 331=>225 | 332=>226 | 215=>227 | 343=>240 | n=>n,fun | 28=>32 | 3=>3 | 46=>75 | 0=>0 | 51=>247 | 53=>22 | 4=>4 | 183=>239 | 182=>238 | 131=>244 | 5=>5 | 9=>9 | 218=>281 | 222=>284 | 228=>296 | 229=>297 | n=>n,fun | n=>n⟩
theorem Tryz.sortI:Go.Proofs.Lays.n189 Tryz.prog Tryz.sortI_ren:={
 mixed:=by kernel_rfl
 f125:=Tryz.func127.trans (congrArg some (by kernel_rfl))
 f128:=Tryz.func190.trans (congrArg some (by kernel_rfl))
 f129:=Tryz.func191.trans (congrArg some (by kernel_rfl))
 f189:=Tryz.func43.trans (congrArg some (by kernel_rfl))
 f215:=Tryz.func227.trans (congrArg some (by kernel_rfl))
 f216:=Tryz.func187.trans (congrArg some (by kernel_rfl))
 f257:=Tryz.func126.trans (congrArg some (by kernel_rfl))
 f294:=Tryz.func181.trans (congrArg some (by kernel_rfl))
 f295:=Tryz.func182.trans (congrArg some (by kernel_rfl))
 f296:=Tryz.func183.trans (congrArg some (by kernel_rfl))
 f297:=Tryz.func184.trans (congrArg some (by kernel_rfl))
 f298:=Tryz.func185.trans (congrArg some (by kernel_rfl))
 f299:=Tryz.func186.trans (congrArg some (by kernel_rfl))
 f300:=Tryz.func188.trans (congrArg some (by kernel_rfl))
 f301:=Tryz.func189.trans (congrArg some (by kernel_rfl))
 f328:=Tryz.func222.trans (congrArg some (by kernel_rfl))
 f329:=Tryz.func223.trans (congrArg some (by kernel_rfl))
 f330:=Tryz.func224.trans (congrArg some (by kernel_rfl))
 f331:=Tryz.func225.trans (congrArg some (by kernel_rfl))
 f332:=Tryz.func226.trans (congrArg some (by kernel_rfl))
 f343:=Tryz.func240.trans (congrArg some (by kernel_rfl))
 t0:=Tryz.underlying0
 a0:=Tryz.isAgg0
 z0:=Tryz.sizeOf0
 v0:=Tryz.zeroValue0
 t3:=Tryz.underlying3
 a3:=Tryz.isAgg3
 z3:=Tryz.sizeOf3
 v3:=Tryz.zeroValue3
 t4:=Tryz.underlying4
 a4:=Tryz.isAgg4
 z4:=Tryz.sizeOf4
 v4:=Tryz.zeroValue4
 t5:=Tryz.underlying5
 a5:=Tryz.isAgg5
 z5:=Tryz.sizeOf5
 v5:=Tryz.zeroValue5
 t9:=Tryz.underlying9
 a9:=Tryz.isAgg9
 z9:=Tryz.sizeOf9
 v9:=Tryz.zeroValue9
 t28:=Tryz.underlying32
 a28:=Tryz.isAgg32
 z28:=Tryz.sizeOf32
 v28:=Tryz.zeroValue32
 t46:=Tryz.underlying75
 a46:=Tryz.isAgg75
 z46:=Tryz.sizeOf75
 v46:=Tryz.zeroValue75
 t51:=Tryz.underlying247
 a51:=Tryz.isAgg247
 z51:=Tryz.sizeOf247
 v51:=Tryz.zeroValue247
 t53:=Tryz.underlying22
 a53:=Tryz.isAgg22
 z53:=Tryz.sizeOf22
 v53:=Tryz.zeroValue22
 t131:=Tryz.underlying244
 a131:=Tryz.isAgg244
 z131:=Tryz.sizeOf244
 v131:=Tryz.zeroValue244
 t182:=Tryz.underlying238
 a182:=Tryz.isAgg238
 z182:=Tryz.sizeOf238
 v182:=Tryz.zeroValue238
 t183:=Tryz.underlying239
 a183:=Tryz.isAgg239
 z183:=Tryz.sizeOf239
 v183:=Tryz.zeroValue239
 t218:=Tryz.underlying281
 a218:=Tryz.isAgg281
 z218:=Tryz.sizeOf281
 v218:=Tryz.zeroValue281
 t222:=Tryz.underlying284
 a222:=Tryz.isAgg284
 z222:=Tryz.sizeOf284
 v222:=Tryz.zeroValue284
 t228:=Tryz.underlying296
 a228:=Tryz.isAgg296
 z228:=Tryz.sizeOf296
 v228:=Tryz.zeroValue296
 t229:=Tryz.underlying297
 a229:=Tryz.isAgg297
 z229:=Tryz.sizeOf297
 v229:=Tryz.zeroValue297}
end Go.Proofs
namespace Go.Am
open Go.RowKit Go.MapKept Go.Proofs
def HG (z:Int):Value:= .int .i64 z
def FT (ls:List Int):List Int:=ls.mergeSort fun x y=>decide (x<=y)
open Classical in
def VX (args:List Value) (S:St) (K:VK):Bool:=
 match args with
 | [.slice none 0 0]=>K (.tuple #[]) S
 | [.slice (some _) 0 _]=>K (.tuple #[]) S
 | [.slice (some ⟨i,0,some 0⟩) n _]=>if h:∃ls:List Int,ls.length=n/\ls.length<1000000/\∃olds,S.obj i=some (.cells (ls.map HG) 3 (.grown olds))then uQ S i 0 ((FT h.choose).map HG) fun S=>K (.tuple #[]) S else false
 | _=>false
theorem OX (ls:List Int):(FT ls).length=ls.length:=List.length_mergeSort ls
theorem Jx (d:List Int) (off:Nat) (cs:Array Value) (h:off+d.length<=cs.size):Go.Sort.putCells HG off d.toArray cs=⟨bA off (d.map HG) cs.toList⟩:=by
 apply Array.ext_getElem?;intro k;have:=sF off (d.map HG) cs.toList (by simpa using h) k;simp only [mE]at this;simp only [Go.Sort.putCells,Array.getElem?_mapIdx,List.size_toArray];refine Eq.trans ?_ (show(bA off (d.map HG) cs.toList)[k]? =(⟨bA off (d.map HG) cs.toList⟩:Array Value)[k]? by simp);rw [this];by_cases hk:off<=k/\k<off+d.length
 ·rw [aO hk,Fu (show k<cs.size by omega),DA,aO hk,eH,aT (show k-off<d.length by omega)]
  simp [show k-off<d.length by omega]
 ·rw [aG hk]
  cases hc:cs[k]? with
  | none=>rw [Option.map_none];simpa using hc.symm
  | some y=>rw [DA,aG hk];simpa using hc.symm
section
variable{w0:World}
theorem aF5:kY Tryz.prog w0 (fun f' args S K=>match Nat.beq f' 43 with | true=>VX args S K | false=>false):=by
 intro f args S K U w eV hk h ha;dsimp only at hk;split at hk
 ·rename_i hf
  obtain rfl:f=43:=by simpa using hf
  refine⟨enters_of Tryz.func43 (by kernel_rfl) rfl ⟨eV⟩,?_⟩;have nil:∀U',VR U' (.tuple #[]) (.tuple #[]):=fun U'=> .tuple rfl fun k v v' e _=>by simp at e
  unfold VX at hk;split at hk
  ·obtain⟨t',l',rfl,ht,ha⟩:=ha.dN
   cases ha.kV;obtain rfl:=ht.of_flat rfl;have hc:Calls Tryz.prog 43 #[.slice none 0 0] w fun e w'=>e= .returned (.tuple #[])/\w'=w:=Any.slices_Sort_int_none Tryz.sortI none 0 w;refine callsIn_wide.2 (hc.mono ?_)
   rintro e w' ⟨rfl,rfl⟩
   exact⟨_,rfl,U,_,S,hk,nil U,h,.refl U _⟩
  ·obtain⟨t',l',rfl,ht,ha⟩:=ha.dN
   cases ha.kV
   obtain⟨p',c',rfl⟩:∃p' c',t'= .slice p' 0 c':=by
    cases ht with
    | flat q=>cases q
    | _=>exact⟨_,_,rfl⟩
   have hc:Calls Tryz.prog 43 #[.slice p' 0 c'] w fun e w'=>e= .returned (.tuple #[])/\w'=w:=Any.slices_Sort_int_none Tryz.sortI p' c' w;refine callsIn_wide.2 (hc.mono ?_)
   rintro e w' ⟨rfl,rfl⟩
   exact⟨_,rfl,U,_,S,hk,nil U,h,.refl U _⟩
  ·rename_i i n c _
   split at hk
   ·rename_i hex
    obtain⟨h1,h2,olds,ho⟩:=hex.choose_spec;generalize hex.choose=ls at h1 h2 ho hk;obtain⟨t',l',rfl,ht,ha⟩:=ha.dN;cases ha.kV;cases ht with
    | flat q=>cases q
    | @rM _ _ _ _ c' L hL hcc hn he hm=>
     obtain⟨cs,t,fz,hb,hcell,DS⟩:=h.cells ho hL;obtain⟨g1,g2,g3,g4,g5⟩:=DS
     have Bx:∀j (hj:j<ls.length),cs[L.s+j]? =some (HG ls[j]):=fun j hj=>by
      obtain⟨v',ON,hr⟩:=hcell j (HG ls[j]) (by rw [eH,aT hj];rfl);rw [ON,hr.of_flat rfl]
     have Ay:L.s+ls.length<=cs.size:=by
      rcases NP ls.length with hz | hz
      ·rw [<-g3,<-he,hz];omega
      ·have:=Bx (ls.length-1) (by omega)
       have:=(Array.getElem?_eq_some_iff.1 this).1;omega
     have hH:Go.Sort.Holds HG w L.b L.s ls.toArray:=fun j hj=>by
      have hj:j<ls.length:=by simpa using hj
      refine⟨?_,?_⟩
      ·rw [cell_of hb (Bx j hj)]
       simp [hj]
      ·have:=g2 (L.s+j) (by omega)
       unfold World.frozen?;simp only [hb];obtain⟨lo,hi⟩:=fz;rw [Bool.eq_false_iff];intro q;simp only [dZ,decide_eq_true_eq]at q;exact this q
     have hc:Calls Tryz.prog 43 #[.slice (some ⟨L.b,L.s,none⟩) ls.length c'] w fun e w'=>e= .returned (.tuple #[])/\∃n os,w'=Go.Sort.grow (Go.Sort.putRow HG (Go.Sort.ahead w n) L.b L.s (FT ls).toArray) os:=
      Any.slices_Sort_int Tryz.sortI L.b L.s c' ls w hH (Array.getElem?_eq_some_iff.1 hb).1 (by omega)
     obtain⟨S',w1,k1,r1,s1,aTo⟩:=DL (new':=(FT ls).map HG) h hk hL (lR.flat fun v hv=>by
      obtain⟨u,_,rfl⟩:=List.mem_map.1 hv;rfl) (fun v hv=>by obtain⟨u,_,rfl⟩:=List.mem_map.1 hv;rfl)
     have hlen:((FT ls).map HG).length=ls.length:=by rw [mE,OX]
     have aLY:=DM (P:=Tryz.prog) ((FT ls).map HG) w L.b (L.s+0) 0 cs t fz hb (by rw [hlen];omega) (fun x _ hx=>g2 x (by rw [hlen]at hx;omega)) (fun v hv=>by obtain⟨u,_,rfl⟩:=List.mem_map.1 hv;rfl);rw [aTo]at aLY;injection aLY with _ aLY;subst h1;refine callsIn_wide.2 (Calls.mono (show Calls Tryz.prog 43 #[.slice (some ⟨L.b,L.s+0,none⟩) ls.length c'] w _ from hc) ?_)
     rintro e w' ⟨rfl,m,os,rfl⟩
     have aTp:Below w1.heap.size w1 (Go.Sort.grow (Go.Sort.putRow HG (Go.Sort.ahead w m) L.b L.s (FT ls).toArray) os):=by
      subst aLY;have hsz:(w.putObj L.b (.cells ⟨bA (L.s+0+0) ((FT ls).map HG) cs.toList⟩ t fz)).heap.size=w.heap.size:=putObj_size _ _;have hhp:∀k,k<w.heap.size->(Go.Sort.grow (Go.Sort.putRow HG (Go.Sort.ahead w m) L.b L.s (FT ls).toArray) os).heap[k]? =(Go.Sort.putRow HG (Go.Sort.ahead w m) L.b L.s (FT ls).toArray).heap[k]? :=fun k hk=>Go.Sort.heap_grow_old _ os (by rw [Go.Sort.size_putRow];exact hk);refine⟨rfl,rfl,rfl,by rw [hsz,Go.Sort.size_grow,Go.Sort.size_putRow];show w.heap.size<=w.heap.size+os.size;omega,fun k hk=>?_⟩;rw [hsz]at hk;rw [hhp k hk];by_cases e:k=L.b
      ·subst e
       rw [QS hb];simp only [Go.Sort.putRow,Go.Sort.mapBlock,Array.getElem?_modify,if_true];show Option.map _ w.heap[L.b]? =_;rw [hb,DA];simp only [Go.Sort.onCells];rw [Jx _ _ _ (by rw [OX];exact Ay)];rfl
      ·rw [yP e]
       simp only [Go.Sort.putRow,Go.Sort.mapBlock,Array.getElem?_modify];rw [aG (aP e)];rfl
     obtain⟨q1,q2⟩:=r1.below aTp;exact⟨_,rfl,U,_,S',k1,nil U,q1,s1.trans q2⟩
   ·cases hk
  ·cases hk
 ·cases hk
end
end Go.Am
namespace Go.Am
open Go.Proofs Go.RowKit
def aOC:FuncId->Option (List Value->St->VK->Bool):=FR 43 VX aLy
theorem aLz{w:World} (hsz:Tryz.prog.globals.size<=w.heap.size) (hl:Laid gs w):Cs Tryz.prog w aOC:=wF aF5 (aEs hsz hl)
set_option maxRecDepth 1000000 in
theorem aF6:XJ Tryz.prog aLy 1000 60 8 gs ([],.bool true):=⟨by simp,rfl,by kernel_rfl⟩
def Xn:List (List Value×Value):=[([],.bool true)]
def Dr:FuncId->Option (List Value->St->VK->Bool):=FR 8 (MU Xn) aOC
theorem aLA{w:World} (hsz:Tryz.prog.globals.size<=w.heap.size) (hl:Laid gs w):Cs Tryz.prog w Dr:=by
 refine wF (Lc (most:=1000) (n:=60) aEn hsz hl (fun w hz hw=>aEs hz hw) Oi Oh (enters_of Tryz.func8 (by kernel_rfl) rfl) fun x hx=>?_) (aLz hsz hl);unfold Xn at hx;rcases List.mem_cons.1 hx with rfl | hx
 ·exact aF6
 cases hx
end Go.Am
namespace Go.Am
open Go.RowKit Go.MapKept Go.Proofs.OG
abbrev nu (n:Nat):V:= .int .u64 (.ofNat n)
abbrev ni (n:Nat):V:= .int .i64 (.ofNat n)
def tN (b:Bool):Nat:=4
def tT (b:Bool):Nat:=1
def tM (b:Bool):Nat:=5
def pv (b:Bool):List V:=[nu 23,nu 11,nu 4,nu 9,ni (tM b),ni (tN b),ni (tT b),ni 1,ni 1,ni 1,ni 1,ni 1]
def gM3 (g:Nat->Nat->Nat->Nat) (args:List V) (h:Hp) (K:KV):Prop:=∃a b m:Nat,args=[nu a,nu b,nu m]/\a<18446744073709551616/\b<18446744073709551616/\0<m/\m<=4294967296/\K (nu (g a b m)) h
def aEt (args:List V) (h:Hp) (K:KV):Prop:=∃a m:Nat,args=[nu a,nu m]/\a<18446744073709551616/\0<m/\m<=4294967296/\
 K (if(CQ (a%m+1) m (a%m) 0 (1%m) m).1=1 then .tuple [nu (CQ (a%m+1) m (a%m) 0 (1%m) m).2,ni 0]else .tuple [nu 0,ni 5]) h
def aEu (args:List V) (h:Hp) (K:KV):Prop:=∃b:Bool,args=[.agg (pv b)]/\K (.bool true) h
def Xo (args:List V) (h:Hp) (K:KV):Prop:=args=[nu 11]/\K (nu 5) h
def aLB (args:List V) (h:Hp) (K:KV):Prop:=args=[nu 11]/\K (.bool true) h
def Ha (args:List V) (h:Hp) (K:KV):Prop:=(args=[.nil]/\K (.tuple []) h)\/(∃i o c:Nat,args=[.own i o 0 c]/\K (.tuple []) h)\/∃(i:Nat) (ls:List Int),args=[.acc i ls.length]/\0<ls.length/\h i=some (.gD (ls.map (V.int .i64)) 3 ls.length)/\ls.length<1000000/\K (.tuple []) (aL h i (.gD ((FT ls).map (V.int .i64)) 3 ls.length))
def aLC (args:List V) (h:Hp) (K:KV):Prop:=args=[]/\K (.bool true) h
def gM (f:FuncId):Option (List V->Hp->KV->Prop):=
 if f=AO then some aLC else if f=lI then some Ha else if f=HF then some Xo else if f=uI then some aEu else if f=MW then some aLB else
 if f=oC then some (gM3 fun a b m=>a*b%m)else if f=CF then some (gM3 fun a b m=>(a%m+b%m)%m)else if f=yR then some (gM3 iD)else
 if f=OW then some (gM3 fun a e m=>YF 64 (1%m) a e m)else if f=yS then some aEt else none
section
variable{B:Nat->Prop}{Sb:St}{c:Cx}{h:Hp}{S:St}
theorem KY{a b:Nat} (h:a≠b):Nat.beq a b=false:=by
 cases e:Nat.beq a b with
 | false=>rfl
 | true=>exact bC (dH e) h
theorem Uh{a b:Nat} (h:a<b):Nat.blt a b=true:=nO h
theorem Ds{a b m:Nat} (ha:a<18446744073709551616) (hb:b<18446744073709551616) (h0:0<m) (hm:m<=4294967296) (k:Nat->Nat->Nat->Bool):aBa [.int .u64 (.ofNat a),.int .u64 (.ofNat b),.int .u64 (.ofNat m)] k=k a b m:=by
 show(match Nat.blt a 18446744073709551616,Nat.blt b 18446744073709551616,Nat.ble m 4294967296,Nat.blt 0 m with | true,true,true,true=>k a b m | _,_,_,_=>false)=_;simp only [Uh ha,Uh hb,Uh h0,nO hm]
theorem Lh{g:Nat->Nat->Nat->Nat}{g':List Value->St->VK->Bool} (hg:∀{a b m:Nat} (S:St) (K:VK),a<18446744073709551616->b<18446744073709551616->0<m->m<=4294967296->g' [.int .u64 (.ofNat a),.int .u64 (.ofNat b),.int .u64 (.ofNat m)] S K=K (.int .u64 (.ofNat (g a b m))) S)
 {args:List V} {ws:List Value} {Kv:KV} {K:VK} (s:VS PP B Sb c h S) (ra:lT c S (dO B c h) args ws) (k:KR PP B Sb c h S Kv K) (hv:gM3 g args h Kv):g' ws S K=true:=by
 obtain⟨a,b,m,rfl,h1,h2,h3,h4,hv⟩:=hv;obtain⟨w1,ws,rfl,r1,ra⟩:=ra.cons_inv;obtain⟨w2,ws,rfl,r2,ra⟩:=ra.cons_inv;obtain⟨w3,ws,rfl,r3,ra⟩:=ra.cons_inv;rw [ra.rQ];cases r1;cases r2;cases r3;rw [hg S K h1 h2 h3 h4];exact k.here s .int hv
theorem aF7{args:List V}{ws:List Value}{Kv:KV}{K:VK} (s:VS PP B Sb c h S) (ra:lT c S (dO B c h) args ws) (k:KR PP B Sb c h S Kv K) (hv:aEt args h Kv):aBb ws S K=true:=by
 obtain⟨a,m,rfl,h1,h3,h4,hv⟩:=hv;obtain⟨w1,ws,rfl,r1,ra⟩:=ra.cons_inv;obtain⟨w2,ws,rfl,r2,ra⟩:=ra.cons_inv;rw [ra.rQ];cases r1;cases r2
 show(match Nat.blt a 18446744073709551616,Nat.ble m 4294967296,Nat.blt 0 m with
  | true,true,true=>bX (Nat.mod a m) fun s=>aLD (Nat.succ s) m s 0 (Nat.mod 1 m) m fun r x=>match Nat.beq r 1 with
   | true=>K (.tuple ⟨[.int .u64 (.ofNat x),.int .i64 (.ofNat 0)]⟩) S
   | false=>K (.tuple ⟨[.int .u64 (.ofNat 0),.int .i64 (.ofNat 5)]⟩) S
  | _,_,_=>false)=true
 simp only [Uh h1,Uh h3,nO h4];rw [bJ,aEv];have t2:∀x y:Nat,lT c S (dO B c h) [nu x,ni y] [.int .u64 (.ofNat x),.int .i64 (.ofNat y)]:=fun x y=> .cons .int (.cons .int .nil);by_cases e:(CQ (a%m+1) m (a%m) 0 (1%m) m).1=1
 ·rw [aO e]at hv
  show(match Nat.beq (CQ (a%m+1) m (a%m) 0 (1%m) m).1 1 with | true=>_ | false=>_)=true;rw [e];exact k.here s (.tuple (t2 _ _).len (t2 _ _).rd) hv
 ·rw [aG e]at hv
  show(match Nat.beq (CQ (a%m+1) m (a%m) 0 (1%m) m).1 1 with | true=>_ | false=>_)=true;rw [KY e];exact k.here s (.tuple (t2 _ _).len (t2 _ _).rd) hv
theorem aF8{args:List V}{ws:List Value}{Kv:KV}{K:VK} (s:VS PP B Sb c h S) (ra:lT c S (dO B c h) args ws) (k:KR PP B Sb c h S Kv K) (hv:aEu args h Kv):MU aLw ws S K=true:=by
 obtain⟨b,rfl,hv⟩:=hv;obtain⟨w1,ws,rfl,r1,ra⟩:=ra.cons_inv;rw [ra.rQ];cases r1 with
 | @agg _ cs hl hr=>
  have hr:lT c S (dO B c h) (pv b) cs:=⟨hl,hr⟩;obtain⟨w1,ws,rfl,r1,hr⟩:=hr.cons_inv;obtain⟨w2,ws,rfl,r2,hr⟩:=hr.cons_inv;obtain⟨w3,ws,rfl,r3,hr⟩:=hr.cons_inv;obtain⟨w4,ws,rfl,r4,hr⟩:=hr.cons_inv;obtain⟨w5,ws,rfl,r5,hr⟩:=hr.cons_inv;obtain⟨w6,ws,rfl,r6,hr⟩:=hr.cons_inv;obtain⟨w7,ws,rfl,r7,hr⟩:=hr.cons_inv;obtain⟨w8,ws,rfl,r8,hr⟩:=hr.cons_inv;obtain⟨w9,ws,rfl,r9,hr⟩:=hr.cons_inv;obtain⟨w10,ws,rfl,r10,hr⟩:=hr.cons_inv;obtain⟨w11,ws,rfl,r11,hr⟩:=hr.cons_inv;obtain⟨w12,ws,rfl,r12,hr⟩:=hr.cons_inv;rw [hr.rQ];cases r1;cases r2;cases r3;cases r4;cases r5;cases r6;cases r7;cases r8;cases r9;cases r10;cases r11;cases r12;have hk:=k.here s .bool hv;cases b with
  | false=>exact hk
  | true=>exact hk
theorem aCQ{args:List V}{ws:List Value}{Kv:KV}{K:VK} (s:VS PP B Sb c h S) (ra:lT c S (dO B c h) args ws) (k:KR PP B Sb c h S Kv K) (hv:Xo args h Kv):MU aEr ws S K=true:=by
 obtain⟨rfl,hv⟩:=hv;obtain⟨w1,ws,rfl,r1,ra⟩:=ra.cons_inv;rw [ra.rQ];cases r1;exact k.here s .int hv
theorem aIa{args:List V}{ws:List Value}{Kv:KV}{K:VK} (s:VS PP B Sb c h S) (ra:lT c S (dO B c h) args ws) (k:KR PP B Sb c h S Kv K) (hv:aLB args h Kv):MU Xm ws S K=true:=by
 obtain⟨rfl,hv⟩:=hv;obtain⟨w1,ws,rfl,r1,ra⟩:=ra.cons_inv;rw [ra.rQ];cases r1;exact k.here s .bool hv
theorem aIb{C:Nat->Prop}:∀{ls:List Int} {ws:List Value},lT c S C (ls.map (V.int .i64)) ws->ws=ls.map HG:=by
 intro ls;induction ls with
 | nil=>intro ws r;exact r.rQ
 | cons l ls ih=>
  intro ws r;obtain⟨w1,ws,rfl,r1,r2⟩:=r.cons_inv;cases r1;rw [ih r2];rfl
theorem aF9{C:Nat->Prop}:∀(ls:List Int),lT c S C (ls.map (V.int .i64)) (ls.map HG):=by
 intro ls;induction ls with
 | nil=>exact .nil
 | cons l ls ih=>exact .cons .int ih
theorem aIc:∀{a b:List Int},a.map HG=b.map HG->a=b:=by
 intro a;induction a with
 | nil=>intro b h;cases b with | nil=>rfl | cons=>cases h
 | cons x a ih=>
  intro b h;cases b with
  | nil=>cases h
  | cons y b=>
   simp only [Ae,List.cons.injEq]at h
   have hx:x=y:=by
    have h:=h.1;unfold HG at h;injection h
   rw [hx,ih h.2]
theorem aGa{b n c:Nat}{K:VK}:VX [.slice (some ⟨b,0,some 0⟩) (n+1) c] S K= @dite Bool (∃ls:List Int,ls.length=n+1/\ls.length<1000000/\∃olds,S.obj b=some (.cells (ls.map HG) 3 (.grown olds))) (Classical.propDecidable _) (fun h=>uQ S b 0 ((FT h.choose).map HG) fun S=>K (.tuple #[]) S) (fun _=>false):=rfl
open Classical in
theorem aCR{args:List V}{ws:List Value}{Kv:KV}{K:VK} (s:VS PP B Sb c h S) (ra:lT c S (dO B c h) args ws) (k:KR PP B Sb c h S Kv K) (hv:Ha args h Kv):VX ws S K=true:=by
 have nil:∀{d:Cx} {S':St} {C:Nat->Prop},fN d S' C (.tuple []) (.tuple #[]):= .tuple rfl fun k v w e _=>by simp at e
 rcases hv with ⟨rfl,hv⟩ | ⟨i,o,c,rfl,hv⟩ | ⟨i,ls,rfl,h0,hi,hn,hv⟩
 ·obtain⟨w1,ws,rfl,r1,ra⟩:=ra.cons_inv
  rw [ra.rQ];cases r1;exact k.here s nil hv
 ·obtain⟨w1,ws,rfl,r1,ra⟩:=ra.cons_inv
  rw [ra.rQ];cases r1 with
  | own hZ=>exact k.here s nil hv
 ·obtain⟨w1,ws,rfl,r1,ra⟩:=ra.cons_inv
  rw [ra.rQ];cases r1 with
  | acc hG=>
   obtain⟨b,us,olds,sz,e1,e2,e3,e4,e5,_⟩:=s.gD i _ _ _ hi;rw [hG]at e1;injection e1 with e1;subst e1;have hu:=aIb e5;subst hu;obtain⟨n,hn1⟩:∃n,ls.length=n+1:=⟨ls.length-1,by omega⟩;have hex:∃aOF:List Int,aOF.length=n+1/\aOF.length<1000000/\∃olds,S.obj b=some (.cells (aOF.map HG) 3 (.grown olds)):=⟨ls,hn1,hn,olds,e4⟩;have hg:∀m,ls.length=m->VX [.slice (some ⟨b,0,some 0⟩) m m] S K=VX [.slice (some ⟨b,0,some 0⟩) (n+1) (n+1)] S K:=fun m hm=>by rw [<-hm,hn1]
   rw [hg _ rfl,aGa];rw [dif_pos hex];obtain⟨h1,h2,aUu,h3⟩:=hex.choose_spec
   have hls:hex.choose=ls:=by
    have h4:=e4.symm.trans h3;injection h4 with h4;injection h4 with h4;exact(aIc h4).symm
   rw [hls];refine RB s (o:=0) (cs:=(FT ls).map (V.int .i64)) hi hG (aF9 _) (by simp [OX]) (Kv:=fun h'=>Kv (.tuple []) h') (fun h' S' f s' ON=>k c h' S' _ _ (.refl c) f s' nil ON) ?_
   have:bA 0 ((FT ls).map (V.int .i64)) (ls.map (V.int .i64))=(FT ls).map (V.int .i64):=by
    unfold bA;simp [OX]
   rw [this];exact hv
theorem aId{args:List V}{ws:List Value}{Kv:KV}{K:VK} (s:VS PP B Sb c h S) (ra:lT c S (dO B c h) args ws) (k:KR PP B Sb c h S Kv K) (hv:aLC args h Kv):MU Xn ws S K=true:=by
 obtain⟨rfl,hv⟩:=hv;rw [ra.rQ];exact k.here s .bool hv
theorem aOG:aNm PP B Sb gM Dr:=by
 have h1:∀f,(gM f=none/\Dr f=none)\/(gM f=some aLC/\Dr f=some (MU Xn))\/(gM f=some Ha/\Dr f=some VX)\/(gM f=some Xo/\Dr f=some (MU aEr))\/(gM f=some aEu/\Dr f=some (MU aLw))\/(gM f=some aLB/\Dr f=some (MU Xm))\/
  (gM f=some (gM3 fun a b m=>a*b%m)/\Dr f=some (ov3 fun a b m=>a*b%m))\/(gM f=some (gM3 fun a b m=>(a%m+b%m)%m)/\Dr f=some (ov3 fun a b m=>(a%m+b%m)%m))\/(gM f=some (gM3 iD)/\Dr f=some (ov3 iD))\/
  (gM f=some (gM3 fun a e m=>YF 64 (1%m) a e m)/\Dr f=some aEw)\/(gM f=some aEt/\Dr f=some aBb):=by
  intro f;by_cases ea:f=AO
  ·subst ea;exact .inr (.inl ⟨rfl,rfl⟩)
  by_cases e0:f=lI
  ·subst e0;exact .inr (.inr (.inl ⟨rfl,rfl⟩))
  by_cases e1:f=HF
  ·subst e1;exact .inr (.inr (.inr (.inl ⟨rfl,rfl⟩)))
  by_cases e2:f=uI
  ·subst e2;exact .inr (.inr (.inr (.inr (.inl ⟨rfl,rfl⟩))))
  by_cases e3:f=MW
  ·subst e3;exact .inr (.inr (.inr (.inr (.inr (.inl ⟨rfl,rfl⟩)))))
  by_cases e4:f=oC
  ·subst e4;exact .inr (.inr (.inr (.inr (.inr (.inr (.inl ⟨rfl,rfl⟩))))))
  by_cases e5:f=CF
  ·subst e5;exact .inr (.inr (.inr (.inr (.inr (.inr (.inr (.inl ⟨rfl,rfl⟩)))))))
  by_cases e6:f=yR
  ·subst e6;exact .inr (.inr (.inr (.inr (.inr (.inr (.inr (.inr (.inl ⟨rfl,rfl⟩))))))))
  by_cases e7:f=OW
  ·subst e7;exact .inr (.inr (.inr (.inr (.inr (.inr (.inr (.inr (.inr (.inl ⟨rfl,rfl⟩)))))))))
  by_cases e8:f=yS
  ·subst e8;exact .inr (.inr (.inr (.inr (.inr (.inr (.inr (.inr (.inr (.inr ⟨rfl,rfl⟩)))))))))
  refine .inl ⟨by unfold gM;rw [aG ea,aG e0,aG e1,aG e2,aG e3,aG e4,aG e5,aG e6,aG e7,aG e8],?_⟩;unfold Dr aOC aLy aLx aLv aH5 aH6 FR;rw [show Nat.beq f 8=false from KY ea,show Nat.beq f 43=false from KY e0,show Nat.beq f HF=false from KY e1,show Nat.beq f uI=false from KY e2,show Nat.beq f MW=false from KY e3,show Nat.beq f oC=false from KY e4,show Nat.beq f CF=false from KY e5,show Nat.beq f yR=false from KY e6,show Nat.beq f OW=false from KY e7,show Nat.beq f yS=false from KY e8];rfl
 refine⟨fun f hf=>?_,fun f g hg=>?_⟩
 ·rcases h1 f with ⟨_,q⟩ | ⟨q,_⟩ | ⟨q,_⟩ | ⟨q,_⟩ | ⟨q,_⟩ | ⟨q,_⟩ | ⟨q,_⟩ | ⟨q,_⟩ | ⟨q,_⟩ | ⟨q,_⟩ | ⟨q,_⟩
  ·exact q
  all_goals rw [q]at hf;cases hf
 ·rcases h1 f with ⟨q,_⟩ | ⟨q,q2⟩ | ⟨q,q2⟩ | ⟨q,q2⟩ | ⟨q,q2⟩ | ⟨q,q2⟩ | ⟨q,q2⟩ | ⟨q,q2⟩ | ⟨q,q2⟩ | ⟨q,q2⟩ | ⟨q,q2⟩
  all_goals rw [q]at hg
  ·cases hg
  all_goals injection hg with hg;subst hg;refine⟨_,q2,fun s ra k hv=>?_⟩
  ·exact aId s ra k hv
  ·exact aCR s ra k hv
  ·exact aCQ s ra k hv
  ·exact aF8 s ra k hv
  ·exact aIa s ra k hv
  ·exact Lh (fun S K h1 h2 h3 h4=>by unfold ov3;rw [Ds h1 h2 h3 h4,bJ]) s ra k hv
  ·exact Lh (fun S K h1 h2 h3 h4=>by unfold ov3;rw [Ds h1 h2 h3 h4,bJ]) s ra k hv
  ·exact Lh (fun S K h1 h2 h3 h4=>by unfold ov3;rw [Ds h1 h2 h3 h4,bJ]) s ra k hv
  ·exact Lh (fun S K h1 h2 h3 h4=>by unfold aEw;rw [Ds h1 h2 h3 h4];exact aEx 64 _ _ _) s ra k hv
  ·exact aF7 s ra k hv
end
end Go.Am
namespace Go.Am
abbrev nd (n:Nat):Dt:= .int .u64 (.ofNat n)
def kK (l:List Nat):List Dt:=l.map nd
def oD (l:List Nat):List V:=l.map nu
theorem GP (l:List Nat):(kK l).length=l.length:=mE _
theorem oE (l:List Nat):(oD l).length=l.length:=mE _
theorem IJ{l:List Nat}{i n:Nat} (h:l[i]? =some n):(oD l)[i]? =some (nu n):=by unfold oD;rw [eH,h];rfl
theorem Xp{l:List Nat}{i n:Nat} (h:l[i]? =some n):(kK l)[i]? =some (nd n):=by unfold kK;rw [eH,h];rfl
theorem aEy (l m:List Nat):oD (l++m)=oD l++oD m:=QE
theorem aLE (l:List Nat):(oD l).all gB=true:=by rw [HZ];intro v hv;obtain⟨n,_,rfl⟩:=List.mem_map.1 hv;rfl
inductive NV (S:Hp):V->List Nat->Prop
 | nil:NV S .nil []
 | list {O:Tag} {l:List Nat}:NV S (.list O (kK l) l.length) l
 | acc {i:Nat} {t:TypeId} {l:List Nat} (h:S i=some (.gD (oD l) t l.length)):NV S (.acc i l.length) l
 | own {i o c:Nat} {t:TypeId} {vs:List V} {l:List Nat} (h:S i=some (.row vs t)) (hv:∀j n,l[j]? =some n->vs[o+j]? =some (nu n)) (hl:o+l.length<=vs.length):NV S (.own i o l.length c) l
 | HW {i m o c:Nat} {t:TypeId} {vs:List V} {l:List Nat} (h:S i=some (.gD vs t m)) (hv:∀j n,l[j]? =some n->vs[o+j]? =some (nu n)) (hl:o+l.length<=vs.length):NV S (.HW i m o l.length c) l
 | emp {i n:Nat}:NV S (.emp i n) []
section
variable{S S':Hp}{v:V}{l:List Nat}
theorem NV.up (h:NV S v l) (hle:bU S S'):NV S' v l:=by
 cases h with
 | nil=>exact .nil
 | list=>exact .list
 | acc h=>exact .acc (hle _ _ h)
 | own h hv hl=>exact .own (hle _ _ h) hv hl
 | HW h hv hl=>exact .HW (hle _ _ h) hv hl
 | emp=>exact .emp
theorem NV.len (h:NV S v l){K:V->Prop}:bP v K=K (ni l.length):=by cases h<;>rfl
theorem NV.at (h:NV S v l){i n:Nat} (hi:l[i]? =some n):∃p,(∀(j:IntKind) (K:V->Prop),cV 1 v (.int j (.ofNat i)) K=K p)/\(∀S',bU S S'->∀K:KV,aW p S' K=K (nu n) S'):=by
 have hlt:i<l.length:=(List.getElem?_eq_some_iff.1 hi).1;cases h with
 | nil=>cases hi
 | @list O=>
  refine⟨.uB O (kK l) (i*1),fun j K=>jL hlt,fun S' _ K=>?_⟩;rw [kX,yA,cX (Xp hi)];rfl
 | @acc b t _ h=>
  refine⟨.wL b l.length (i*1),fun j K=>KZ hlt,fun S' hle K=>?_⟩;rw [kX];unfold aW;simp only [hle _ _ h,cX (IJ hi),true_and]
 | @own b o c t vs _ h hv hl=>
  refine⟨.ptr b (o+i*1),fun j K=>by simp [cV,hlt],fun S' hle K=>?_⟩;rw [kX];unfold aW;simp only [hle _ _ h,cX (hv i n hi)]
 | @HW b m o c t vs _ h hv hl=>
  refine⟨.wL b m (o+i*1),fun j K=>by simp [cV,hlt],fun S' hle K=>?_⟩;rw [kX];unfold aW;simp only [hle _ _ h,cX (hv i n hi),true_and]
 | emp=>cases hi
theorem aIe (O:Tag) (l:List Nat):∀o,Tl O o (kK l)=oD l:=by
 induction l with
 | nil=>intro o;rfl
 | cons a l ih=>intro o;show _::Tl O (o+1) (kK l)=_;rw [ih];rfl
theorem NV.src (h:NV S v l){k:Nat->List V->Prop} (hk:k l.length (oD l)):Sa 1 v S k:=by
 cases h with
 | nil=>exact hk
 | @list O=>refine⟨by rw [GP];omega,?_⟩;rw [mC (by rw [GP];omega),aIe];exact hk
 | acc h=>unfold Sa;simp only [h];exact⟨trivial,by rw [oE];omega,hk⟩
 | @own b o c t vs _ h hv hl=>
  unfold Sa;simp only [h];rw [dR (by omega)]
  have:(vs.drop o).take (l.length*1)=oD l:=by
   apply xM;intro j;rw [sC,qY];by_cases hj:j<l.length
   ·rw [aO (by omega),hv j l[j] (aT hj),IJ (aT hj)]
   ·rw [aG (by omega)];symm;exact FC (by rw [oE];omega)
  rw [this];exact hk
 | @HW b m o c t vs _ h hv hl=>
  unfold Sa;simp only [h];rw [dR (by omega)]
  have:(vs.drop o).take (l.length*1)=oD l:=by
   apply xM;intro j;rw [sC,qY];by_cases hj:j<l.length
   ·rw [aO (by omega),hv j l[j] (aT hj),IJ (aT hj)]
   ·rw [aG (by omega)];symm;exact FC (by rw [oE];omega)
  rw [this];exact⟨trivial,hk⟩
 | emp=>exact hk
theorem Xq{S0 S:Hp}{vs:List V}{o:Nat} (hv:∀j n,l[j]? =some n->vs[o+j]? =some (nu n)) (j:Nat) (v:V) (d:Dt) (h1:vs[o+j]? =some v) (h2:(kK l)[j]? =some d):Du S0 S v d:=by
 unfold kK at h2;rw [eH]at h2;cases hq:l[j]? with
 | none=>rw [hq]at h2;cases h2
 | some n=>
  rw [hq]at h2;injection h2 with h2;subst h2;rw [hv j n hq]at h1;injection h1 with h1;subst h1;exact .int
inductive MN (S0 S:Hp):V->List Nat->Prop
 | nil:MN S0 S .nil []
 | acc {i:Nat} {l:List Nat} (h0:S0 i=none) (h:S i=some (.gD (oD l) 22 l.length)):MN S0 S (.acc i l.length) l
 | own {i:Nat} {l:List Nat} (h0:S0 i=none) (h:S i=some (.row (oD l) 22)):MN S0 S (.own i 0 l.length l.length) l
theorem MN.nv{S0:Hp} (h:MN S0 S v l):NV S v l:=by
 cases h with
 | nil=>exact .nil
 | acc _ h=>exact .acc h
 | own _ h=>exact .own h (fun j n hj=>by rw [eJ];exact IJ hj) (by rw [oE];omega)
theorem MN.Bd{S0:Hp} (h:MN S0 S v l):Du S0 S v (.list (kK l) l.length):=by
 cases h with
 | nil=>exact .nil
 | acc h0 h=>exact .acc h h0 (by rw [oE,GP]) fun j v d a b=>Xq (o:=0) (fun j n hj=>by rw [eJ];exact IJ hj) j v d (by rw [eJ];exact a) b
 | own h0 h=>exact .own h h0 (bQ _) (by rw [oE,GP];omega) fun j v d a b=>Xq (fun j n hj=>by rw [eJ];exact IJ hj) j v d a b
theorem MN.up{S0:Hp} (h:MN S0 S v l) (hle:bU S S'):MN S0 S' v l:=by
 cases h with
 | nil=>exact .nil
 | acc h0 h=>exact .acc h0 (hle _ _ h)
 | own h0 h=>exact .own h0 (hle _ _ h)
theorem MN.app{S0:Hp} (h:MN S0 S v l) (hs:bU S0 S) (hl:l.length<=1000000){n:Nat}{K:KV}
 (hk:∀w S',bU S0 S'->(∀j o,S j=some o->(∀vs m,o≠ .gD vs 22 m)->S' j=some o)->MN S0 S' w (l++[n])->K w S'):aS 22 1 [(.int .u64 (.ofNat 0))] [(0,1,nu n)] S fun v2 S=>jW 22 1 8 v v2 S K:=by
 refine⟨rfl,by simp,fun j hj=>?_⟩;have hj0:S0 j=none:=hs.none hj;have xK:bU S0 (aL S j (.row [nu n] 22)):=hs.trans (.aK hj);show jW 22 1 8 v (.own j 0 1 1) (aL S j (.row (bA 0 [nu n] [nu 0]) 22)) K;have e:bA 0 [nu n] [nu 0]=[nu n]:=rfl;rw [e];refine LA (m:=1) aB rfl ?_;refine⟨rfl,?_⟩;cases h with
 | nil=>
  refine⟨by decide,fun i hi=>hk _ _ (xK.trans (.aK hi)) (fun q o e _=>(bU.aK hi) _ _ ((bU.aK hj) _ _ e)) ?_⟩;exact .acc (l:=[n]) (xK.none hi) aB
 | @acc i _ h0 h=>
  have oM:j≠i:=fun e=>by rw [e,h]at hj;cases hj
  have h':aL S j (.row [nu n] 22) i=some (.gD (oD l) 22 l.length):=by rw [aC (aP oM)];exact h
  simp only [h'];refine⟨trivial,trivial,by rw [oE];omega,by omega,?_⟩;have el:l.length+(0+1)=(l++[n]).length:=by simp
  rw [el];refine hk _ _ (fun q o e=>?_) (fun q o e xL=>?_) (.acc h0 (by rw [aEy];exact aB))
  ·rw [aC (fun c=>by rw [c,h0]at e;cases e)];exact xK q o e
  ·rw [aC (fun c=>by rw [c,h]at e;injection e with e;exact xL _ _ e.symm)];exact(bU.aK hj) _ _ e
 | @own i _ h0 h=>
  have oM:j≠i:=fun e=>by rw [e,h]at hj;cases hj
  have h':aL S j (.row [nu n] 22) i=some (.row (oD l) 22):=by rw [aC (aP oM)];exact h
  simp only [h'];refine⟨by omega,by rw [oE];omega,fun c=>bC c (by omega),fun _ q hq=>?_⟩;have e2:(List.take (l.length*1) (List.drop 0 (oD l)))++[nu n]=oD (l++[n]):=by rw [xO,mC (by rw [oE];omega),aEy];rfl
  rw [e2];have el:l.length+(0+1)=(l++[n]).length:=by simp
  rw [el];exact hk _ _ (xK.trans (.aK hq)) (fun q o e _=>(bU.aK hq) _ _ ((bU.aK hj) _ _ e)) (.acc (xK.none hq) aB)
end
set_option maxRecDepth 100000
def xB (x:VE) (m:Nat) (t0 t1 t2 t7 t10 t11:V) (S:Hp) (K:KV):Prop:=dW PP bK uJ x [.r,.r,.l,.r,.d] m [] [t0,t1,t2,t7,t10,t11] S K
def Ix (x:VE) (a0 a1 a2:V) (S:Hp) (K:KV):Prop:=
 bP a0 fun v0=>
 xB x x.most a0 a1 a2 (.int .u64 (.ofNat 0)) v0 (.int .i64 (.ofNat 0)) S K
theorem aBd (x:VE) (a0 a1 a2:V) (S:Hp) (K:KV):jX PP bK uJ x [a0,a1,a2] S K=Ix x a0 a1 a2 S K:=by kernel_rfl
def BS (x:VE) (m0:Nat) (t0 t1 t2 t7 t10 t11:V) (S:Hp) (K:KV):Prop:=
 cR S fun S=>
 aJ PP .lss 3 t11 t10 fun v0=>
 iR v0 (bP t0 fun v1=>aJ PP .sub 3 v1 (.int .i64 (.ofNat 1)) fun v2=>aJ PP .sub 3 v2 t11 fun v3=>cV 1 t0 v3 fun v4=>aW v4 S fun v5 S=>x.call oC [t7,t1,t2] S fun v6 S=>aW v4 S fun v7 _=>aU v7 v5 (x.call CF [v6,v5,t2] S fun v8 S=>aJ PP .add 3 t11 (.int .i64 (.ofNat 1)) fun v9=>xB x m0 t0 t1 t2 v8 t10 v9 S K)) (bF t7 S K)
theorem LF (x:VE) (m0:Nat) (t0 t1 t2 t7 t10 t11:V) (S:Hp) (K:KV):xB x (m0+1) t0 t1 t2 t7 t10 t11 S K=BS x m0 t0 t1 t2 t7 t10 t11 S K:=by kernel_rfl
def Ok (x:VE) (a0:V) (S:Hp) (K:KV):Prop:=
 aJ PP .gtr 22 a0 (.int .u64 (.ofNat 0)) fun v0=>
 aI x.most (aH true v0 (fun k=>k a0 S) S fun v1 S=>aI x.most (aH true v0 (fun k=>aJ PP .leq 22 v1 (.int .u64 (.ofNat 2305843009213693952)) fun v2=>k v2 S) S fun v3 S=>aI x.most (fK v0 v3 (.bool false) fun v4=>bF v4 S K)))
theorem aCS (x:VE) (a0:V) (S:Hp) (K:KV):jX PP bK RD x [a0] S K=Ok x a0 S K:=by kernel_rfl
def Ow (x:VE) (a0:V) (S:Hp) (K:KV):Prop:=
 cS [(.int .u64 (.ofNat 0))] [(0,1,a0)] fun v0=>
 cS [(.int .u64 (.ofNat 0)),(.slice none 0 0),(.int .i64 (.ofNat 0))] [(0,1,v0)] fun v1=>
 iG 140 v1 S fun v2 S=>
 bF v2 S K
theorem aC3 (x:VE) (a0:V) (S:Hp) (K:KV):jX PP bK RE x [a0] S K=Ow x a0 S K:=by kernel_rfl
def oZ (x:VE) (m:Nat) (t0 t1:V) (S:Hp) (K:KV):Prop:=dW PP bK dF x [.r,.r,.r,.r,.d] m [] [t0,t1] S K
def FV (x:VE) (a0 a1:V) (S:Hp) (K:KV):Prop:=
 aJ PP .eql 30 a0 .Ka fun v0=>
 iR v0 (bF (.int .u64 (.ofNat 0)) S K) (nP PP a0 fun v1=>aV 2 v1 fun v2=>aW v2 S fun v3 S=>aJ PP .add 3 v3 (.int .i64 (.ofNat 1)) fun v4=>nP PP a0 fun v5=>aV 2 v5 fun v6=>nI 1 v6 v4 S fun S=>nP PP a0 fun v7=>aV 1 v7 fun v8=>aW v8 S fun v9 S=>bP v9 fun v10=>aJ PP .gtr 3 v10 (.int .i64 (.ofNat 0)) fun v11=>iR v11 (nP PP a0 fun v12=>aV 1 v12 fun qE=>aW qE S fun qU S=>cV 1 qU (.int .i64 (.ofNat 0)) fun wI=>aW wI S fun wJ S=>nP PP a0 fun wH=>aV 1 wH fun vC=>aW vC S fun yI S=>LG 22 1 yI (some (.int .i64 (.ofNat 1))) none none S fun v20=>nP PP a0 fun v21=>aV 1 v21 fun JC=>nI 1 JC v20 S fun S=>x.call DW [wJ,a1] S fun GC S=>bF GC S K) (oZ x x.most a0 a1 S K))
theorem PB (x:VE) (a0 a1:V) (S:Hp) (K:KV):jX PP bK dF x [a0,a1] S K=FV x a0 a1 S K:=by kernel_rfl
def tF (x:VE) (m0:Nat) (t0 t1:V) (S:Hp) (K:KV):Prop:=
 cR S fun S=>
 nP PP t0 fun v0=>
 aV 0 v0 fun v1=>
 x.call xC [v1] S fun v2 S=>
 SP .xor v2 fun v3=>
 x.call HF [t1] S fun v4 S=>
 aJ PP .geq 22 v3 v4 fun v5=>
 iR v5 (x.call DW [v2,t1] S fun v6 S=>bF v6 S K) (oZ x m0 t0 t1 S K)
theorem CI (x:VE) (m0:Nat) (t0 t1:V) (S:Hp) (K:KV):oZ x (m0+1) t0 t1 S K=tF x m0 t0 t1 S K:=by kernel_rfl
def MY (x:VE) (a0:V) (S:Hp) (K:KV):Prop:=
 nP PP a0 fun v0=>
 aV 0 v0 fun v1=>
 aW v1 S fun v2 S=>
 aJ PP .add 22 v2 (.int .u64 (.ofNat 11400714819323198485)) fun v3=>
 nP PP a0 fun v4=>
 aV 0 v4 fun v5=>
 nI 1 v5 v3 S fun S=>
 nP PP a0 fun v6=>
 aV 0 v6 fun v7=>
 aW v7 S fun v8 S=>
 aJ PP .shr 22 v8 (.int .u64 (.ofNat 30)) fun v9=>
 aJ PP .xor 22 v8 v9 fun v10=>
 aJ PP .mul 22 v10 (.int .u64 (.ofNat 13787848793156543929)) fun v11=>
 aJ PP .shr 22 v11 (.int .u64 (.ofNat 27)) fun v12=>
 aJ PP .xor 22 v11 v12 fun qE=>
 aJ PP .mul 22 qE (.int .u64 (.ofNat 10723151780598845931)) fun qU=>
 aJ PP .shr 22 qU (.int .u64 (.ofNat 31)) fun wI=>
 aJ PP .xor 22 qU wI fun wJ=>
 bF wJ S K
theorem Dv (x:VE) (a0:V) (S:Hp) (K:KV):jX PP bK xC x [a0] S K=MY x a0 S K:=by kernel_rfl
def Dw (x:VE) (a0 a1:V) (S:Hp) (K:KV):Prop:=
 aJ PP .eql 22 a1 (.int .u64 (.ofNat 0)) fun v0=>
 iR v0 (bF a0 S K) (aJ PP .rem 22 a0 a1 fun v1=>bF v1 S K)
theorem Xx (x:VE) (a0 a1:V) (S:Hp) (K:KV):jX PP bK DW x [a0,a1] S K=Dw x a0 a1 S K:=by kernel_rfl
def pB (x:VE) (a0:V) (S:Hp) (K:KV):Prop:=
 aJ PP .eql 32 a0 .nil fun v0=>
 iR v0 (bF .nil S K) (aS 3 0 [(.int .i64 (.ofNat 0))] [] S fun v1 S=>jW 3 1 8 v1 a0 S fun v2 S=>bF v2 S K)
theorem xE (x:VE) (a0:V) (S:Hp) (K:KV):jX PP bK dE x [a0] S K=pB x a0 S K:=by kernel_rfl
def qW (x:VE) (a0:V) (S:Hp) (K:KV):Prop:=
 aJ PP .eql 51 a0 .nil fun v0=>
 iR v0 (bF .nil S K) (aS 22 0 [(.int .u64 (.ofNat 0))] [] S fun v1 S=>jW 22 1 8 v1 a0 S fun v2 S=>bF v2 S K)
theorem CU (x:VE) (a0:V) (S:Hp) (K:KV):jX PP bK cD x [a0] S K=qW x a0 S K:=by kernel_rfl
def sS (x:VE) (a0:V) (S:Hp) (K:KV):Prop:=
 aJ PP .eql 39 a0 .nil fun v0=>
 iR v0 (bF .nil S K) (aS 2 0 [(.int .i64 (.ofNat 0))] [] S fun v1 S=>jW 2 1 8 v1 a0 S fun v2 S=>bF v2 S K)
theorem ES (x:VE) (a0:V) (S:Hp) (K:KV):jX PP bK dY x [a0] S K=sS x a0 S K:=by kernel_rfl
def fY (x:VE) (m:Nat) (t0 t3:V) (S:Hp) (K:KV):Prop:=dW PP bK cW x [.r,.r,.l,.r,.d] m [] [t0,t3] S K
def dP (x:VE) (m:Nat) (m0:Nat) (t0 t3 t4 t5:V) (S:Hp) (K:KV):Prop:=dW PP bK cW x [.r,.r,.l,.r,.d,.d,.r,.l,.d,.r,.l,.r,.l,.r,.d] m [m0] [t0,t3,t4,t5] S K
def dA (x:VE) (m0:Nat) (m1:Nat) (t0 t3 t4 t5:V) (S:Hp) (K:KV):Prop:=Uq PP bK cW x [.r,.r,.l,.r,.d,.d,.r,.l,.d,.r,.l,.r,.l,.r,.d,.d,.r,.r] [m0,m1] [t0,t3,t4,t5] S K
def uM (x:VE) (a0:V) (S:Hp) (K:KV):Prop:=
 bP a0 fun v0=>
 aJ PP .lss 3 v0 (.int .i64 (.ofNat 2)) fun v1=>
 iR v1 (bF a0 S K) (fY x x.most a0 (.int .i64 (.ofNat 1)) S K)
theorem HN (x:VE) (a0:V) (S:Hp) (K:KV):jX PP bK cW x [a0] S K=uM x a0 S K:=by kernel_rfl
def jP (x:VE) (m0:Nat) (t0 t3:V) (S:Hp) (K:KV):Prop:=
 cR S fun S=>
 bP t0 fun v0=>
 aJ PP .lss 3 t3 v0 fun v1=>
 iR v1 (cV 1 t0 t3 fun v2=>aW v2 S fun v3 S=>aJ PP .sub 3 t3 (.int .i64 (.ofNat 1)) fun v4=>cV 1 t0 v4 fun v5=>aW v5 S fun v6 S=>aJ PP .eql 3 v3 v6 fun v7=>iR v7 (LG 3 1 t0 (some t3) none none S fun v8=>dP x x.most m0 t0 t3 v8 (.int .i64 (.ofNat 1)) S K) (aJ PP .add 3 t3 (.int .i64 (.ofNat 1)) fun v9=>fY x m0 t0 v9 S K)) (bF t0 S K)
theorem oT (x:VE) (m0:Nat) (t0 t3:V) (S:Hp) (K:KV):fY x (m0+1) t0 t3 S K=jP x m0 t0 t3 S K:=by kernel_rfl
def fH (x:VE) (m1:Nat) (m0:Nat) (t0 t3 t4 t5:V) (S:Hp) (K:KV):Prop:=
 cR S fun S=>
 bP t4 fun v0=>
 aJ PP .lss 3 t5 v0 fun v1=>
 iR v1 (cV 1 t4 t5 fun v2=>aW v2 S fun v3 S=>aJ PP .sub 3 t5 (.int .i64 (.ofNat 1)) fun v4=>cV 1 t4 v4 fun v5=>aW v5 S fun v6 S=>aJ PP .neq 3 v3 v6 fun v7=>iR v7 (cV 1 t4 t5 fun v8=>aW v8 S fun v9 S=>cV 1 t0 t3 fun v10=>nI 1 v10 v9 S fun S=>aJ PP .add 3 t3 (.int .i64 (.ofNat 1)) fun v11=>dA x m0 m1 t0 v11 t4 t5 S K) (dA x m0 m1 t0 t3 t4 t5 S K)) (LG 3 1 t0 (some t3) none none S fun v12=>Bj [(.int .i64 (.ofNat 0))] v12 S fun S=>LG 3 1 t0 none (some t3) none S fun qE=>bF qE S K)
theorem kA (x:VE) (m1:Nat) (m0:Nat) (t0 t3 t4 t5:V) (S:Hp) (K:KV):dP x (m1+1) m0 t0 t3 t4 t5 S K=fH x m1 m0 t0 t3 t4 t5 S K:=by kernel_rfl
def eW (x:VE) (m0:Nat) (m1:Nat) (t0 t3 t4 t5:V) (S:Hp) (K:KV):Prop:=
 cR S fun S=>
 aJ PP .add 3 t5 (.int .i64 (.ofNat 1)) fun v0=>
 dP x m1 m0 t0 t3 t4 v0 S K
theorem qH (x:VE) (m0:Nat) (m1:Nat) (t0 t3 t4 t5:V) (S:Hp) (K:KV):Ur PP bK cW x [.r,.r,.l,.r,.d,.d,.r,.l,.d,.r,.l,.r,.l,.r,.d,.d,.r,.r] [m0,m1] [t0,t3,t4,t5] S K=eW x m0 m1 t0 t3 t4 t5 S K:=by kernel_rfl
theorem qS (x:VE) (hm:x.most≠0) (m0:Nat) (m1:Nat) (t0 t3 t4 t5:V) (S:Hp) (K:KV):dA x m0 m1 t0 t3 t4 t5 S K=eW x m0 m1 t0 t3 t4 t5 S K:=(Er (hm:=hm) ..).trans (qH x m0 m1 t0 t3 t4 t5 S K)
def kN (x:VE) (a0 a1:V) (S:Hp) (K:KV):Prop:=
 x.call iO [a0,a1] S fun v0 S=>
 aJ PP .geq 3 v0 (.int .i64 (.ofNat 0)) fun v1=>
 bF v1 S K
theorem qD (x:VE) (a0 a1:V) (S:Hp) (K:KV):jX PP bK eQ x [a0,a1] S K=kN x a0 a1 S K:=by kernel_rfl
def fQ (x:VE) (m:Nat) (t0 t1 t7 t8:V) (S:Hp) (K:KV):Prop:=dW PP bK iO x [.r,.l,.r,.d] m [] [t0,t1,t7,t8] S K
def mJ (x:VE) (a0 a1:V) (S:Hp) (K:KV):Prop:=
 bP a0 fun v0=>
 fQ x x.most a0 a1 v0 (.int .i64 (.ofNat 0)) S K
theorem sR (x:VE) (a0 a1:V) (S:Hp) (K:KV):jX PP bK iO x [a0,a1] S K=mJ x a0 a1 S K:=by kernel_rfl
def cU (x:VE) (m0:Nat) (t0 t1 t7 t8:V) (S:Hp) (K:KV):Prop:=
 cR S fun S=>
 aJ PP .lss 3 t8 t7 fun v0=>
 iR v0 (cV 1 t0 t8 fun v1=>aW v1 S fun v2 S=>mH x t1 [v2] S fun v3 S=>iR v3 (bF t8 S K) (aJ PP .add 3 t8 (.int .i64 (.ofNat 1)) fun v4=>fQ x m0 t0 t1 t7 v4 S K)) (bF (.int .i64 (.negSucc 0)) S K)
theorem dS (x:VE) (m0:Nat) (t0 t1 t7 t8:V) (S:Hp) (K:KV):fQ x (m0+1) t0 t1 t7 t8 S K=cU x m0 t0 t1 t7 t8 S K:=by kernel_rfl
def nW (x:VE) (a0 a1:V) (S:Hp) (K:KV):Prop:=
 x.call fX [a0,a1] S fun v0 S=>
 aJ PP .geq 3 v0 (.int .i64 (.ofNat 0)) fun v1=>
 bF v1 S K
theorem yJ (x:VE) (a0 a1:V) (S:Hp) (K:KV):jX PP bK fF x [a0,a1] S K=nW x a0 a1 S K:=by kernel_rfl
def eU (x:VE) (m:Nat) (t0 t1 t7 t8:V) (S:Hp) (K:KV):Prop:=dW PP bK fX x [.r,.l,.r,.d] m [] [t0,t1,t7,t8] S K
def pH (x:VE) (a0 a1:V) (S:Hp) (K:KV):Prop:=
 bP a0 fun v0=>
 eU x x.most a0 a1 v0 (.int .i64 (.ofNat 0)) S K
theorem AW (x:VE) (a0 a1:V) (S:Hp) (K:KV):jX PP bK fX x [a0,a1] S K=pH x a0 a1 S K:=by kernel_rfl
def gQ (x:VE) (m0:Nat) (t0 t1 t7 t8:V) (S:Hp) (K:KV):Prop:=
 cR S fun S=>
 aJ PP .lss 3 t8 t7 fun v0=>
 iR v0 (cV 1 t0 t8 fun v1=>aW v1 S fun v2 S=>mH x t1 [v2] S fun v3 S=>iR v3 (bF t8 S K) (aJ PP .add 3 t8 (.int .i64 (.ofNat 1)) fun v4=>eU x m0 t0 t1 t7 v4 S K)) (bF (.int .i64 (.negSucc 0)) S K)
theorem lV (x:VE) (m0:Nat) (t0 t1 t7 t8:V) (S:Hp) (K:KV):eU x (m0+1) t0 t1 t7 t8 S K=gQ x m0 t0 t1 t7 t8 S K:=by kernel_rfl
def mR (x:VE) (a0 a1:V) (S:Hp) (K:KV):Prop:=
 x.call fI [a0,a1] S fun v0 S=>
 aJ PP .geq 3 v0 (.int .i64 (.ofNat 0)) fun v1=>
 bF v1 S K
theorem wR (x:VE) (a0 a1:V) (S:Hp) (K:KV):jX PP bK eS x [a0,a1] S K=mR x a0 a1 S K:=by kernel_rfl
def eA (x:VE) (m:Nat) (t0 t1 t7 t8:V) (S:Hp) (K:KV):Prop:=dW PP bK fI x [.r,.l,.r,.d] m [] [t0,t1,t7,t8] S K
def oG (x:VE) (a0 a1:V) (S:Hp) (K:KV):Prop:=
 bP a0 fun v0=>
 eA x x.most a0 a1 v0 (.int .i64 (.ofNat 0)) S K
theorem zA (x:VE) (a0 a1:V) (S:Hp) (K:KV):jX PP bK fI x [a0,a1] S K=oG x a0 a1 S K:=by kernel_rfl
def gC (x:VE) (m0:Nat) (t0 t1 t7 t8:V) (S:Hp) (K:KV):Prop:=
 cR S fun S=>
 aJ PP .lss 3 t8 t7 fun v0=>
 iR v0 (cV 1 t0 t8 fun v1=>aW v1 S fun v2 S=>mH x t1 [v2] S fun v3 S=>iR v3 (bF t8 S K) (aJ PP .add 3 t8 (.int .i64 (.ofNat 1)) fun v4=>eA x m0 t0 t1 t7 v4 S K)) (bF (.int .i64 (.negSucc 0)) S K)
theorem lC (x:VE) (m0:Nat) (t0 t1 t7 t8:V) (S:Hp) (K:KV):eA x (m0+1) t0 t1 t7 t8 S K=gC x m0 t0 t1 t7 t8 S K:=by kernel_rfl
def iT (x:VE) (a0 a1:V) (S:Hp) (K:KV):Prop:=
 x.call dD [a0,a1] S fun v0 S=>
 aJ PP .geq 3 v0 (.int .i64 (.ofNat 0)) fun v1=>
 bF v1 S K
theorem qB (x:VE) (a0 a1:V) (S:Hp) (K:KV):jX PP bK cH x [a0,a1] S K=iT x a0 a1 S K:=by kernel_rfl
def cQ (x:VE) (m:Nat) (t0 t1 t7 t8:V) (S:Hp) (K:KV):Prop:=dW PP bK dD x [.r,.l,.r,.d] m [] [t0,t1,t7,t8] S K
def jT (x:VE) (a0 a1:V) (S:Hp) (K:KV):Prop:=
 bP a0 fun v0=>
 cQ x x.most a0 a1 v0 (.int .i64 (.ofNat 0)) S K
theorem rW (x:VE) (a0 a1:V) (S:Hp) (K:KV):jX PP bK dD x [a0,a1] S K=jT x a0 a1 S K:=by kernel_rfl
def dX (x:VE) (m0:Nat) (t0 t1 t7 t8:V) (S:Hp) (K:KV):Prop:=
 cR S fun S=>
 aJ PP .lss 3 t8 t7 fun v0=>
 iR v0 (cV 1 t0 t8 fun v1=>aW v1 S fun v2 S=>mH x t1 [v2] S fun v3 S=>iR v3 (bF t8 S K) (aJ PP .add 3 t8 (.int .i64 (.ofNat 1)) fun v4=>cQ x m0 t0 t1 t7 v4 S K)) (bF (.int .i64 (.negSucc 0)) S K)
theorem iC (x:VE) (m0:Nat) (t0 t1 t7 t8:V) (S:Hp) (K:KV):cQ x (m0+1) t0 t1 t7 t8 S K=dX x m0 t0 t1 t7 t8 S K:=by kernel_rfl
def kC (x:VE) (a0 a1:V) (S:Hp) (K:KV):Prop:=
 x.call dV [a0,a1] S fun v0 S=>
 aJ PP .geq 3 v0 (.int .i64 (.ofNat 0)) fun v1=>
 bF v1 S K
theorem sI (x:VE) (a0 a1:V) (S:Hp) (K:KV):jX PP bK dK x [a0,a1] S K=kC x a0 a1 S K:=by kernel_rfl
def dB (x:VE) (m:Nat) (t0 t1 t7 t8:V) (S:Hp) (K:KV):Prop:=dW PP bK dV x [.r,.l,.r,.d] m [] [t0,t1,t7,t8] S K
def lD (x:VE) (a0 a1:V) (S:Hp) (K:KV):Prop:=
 bP a0 fun v0=>
 dB x x.most a0 a1 v0 (.int .i64 (.ofNat 0)) S K
theorem uC (x:VE) (a0 a1:V) (S:Hp) (K:KV):jX PP bK dV x [a0,a1] S K=lD x a0 a1 S K:=by kernel_rfl
def eX (x:VE) (m0:Nat) (t0 t1 t7 t8:V) (S:Hp) (K:KV):Prop:=
 cR S fun S=>
 aJ PP .lss 3 t8 t7 fun v0=>
 iR v0 (cV 2 t0 t8 fun v1=>bR 2 v1 S fun v2 S=>mH x t1 [v2] S fun v3 S=>iR v3 (bF t8 S K) (aJ PP .add 3 t8 (.int .i64 (.ofNat 1)) fun v4=>dB x m0 t0 t1 t7 v4 S K)) (bF (.int .i64 (.negSucc 0)) S K)
theorem jC (x:VE) (m0:Nat) (t0 t1 t7 t8:V) (S:Hp) (K:KV):dB x (m0+1) t0 t1 t7 t8 S K=eX x m0 t0 t1 t7 t8 S K:=by kernel_rfl
def fB (x:VE) (m:Nat) (t0 t1 t12 t13:V) (S:Hp) (K:KV):Prop:=dW PP bK dM x [.r,.r,.l,.r,.d] m [] [t0,t1,t12,t13] S K
def qX (x:VE) (a0 a1:V) (S:Hp) (K:KV):Prop:=
 bP a0 fun v0=>
 bP a1 fun v1=>
 aJ PP .neq 3 v0 v1 fun v2=>
 iR v2 (bF (.bool false) S K) (bP a0 fun v3=>fB x x.most a0 a1 v3 (.int .i64 (.ofNat 0)) S K)
theorem CW (x:VE) (a0 a1:V) (S:Hp) (K:KV):jX PP bK dM x [a0,a1] S K=qX x a0 a1 S K:=by kernel_rfl
def iE (x:VE) (m0:Nat) (t0 t1 t12 t13:V) (S:Hp) (K:KV):Prop:=
 cR S fun S=>
 aJ PP .lss 3 t13 t12 fun v0=>
 iR v0 (cV 1 t0 t13 fun v1=>aW v1 S fun v2 S=>cV 1 t1 t13 fun v3=>aW v3 S fun v4 S=>aJ PP .neq 22 v2 v4 fun v5=>iR v5 (bF (.bool false) S K) (aJ PP .add 3 t13 (.int .i64 (.ofNat 1)) fun v6=>fB x m0 t0 t1 t12 v6 S K)) (bF (.bool true) S K)
theorem mS (x:VE) (m0:Nat) (t0 t1 t12 t13:V) (S:Hp) (K:KV):fB x (m0+1) t0 t1 t12 t13 S K=iE x m0 t0 t1 t12 t13 S K:=by kernel_rfl
end Go.Am
set_option maxRecDepth 4000
namespace Go.Am
open Go.Proofs.OG
section
variable{k:V->Prop}{a b:Nat}{t:TypeId}
theorem aQ:aJ PP .lss t (ni a) (ni b) k=k (.bool (decide (a<b))):=by rw [rK];congr 2;simp
theorem uX:aJ PP .gtr t (ni a) (ni b) k=k (.bool (decide (b<a))):=by rw [OY];congr 2;simp
theorem zX:aJ PP .geq t (ni a) (ni b) k=k (.bool (decide (b<=a))):=by rw [CH];congr 2;simp
theorem IK:aJ PP .eql t (ni a) (ni b) k=k (.bool (decide (a=b))):=by rw [JV];congr 2;simp;omega
theorem yB:aJ PP .neq t (ni a) (ni b) k=k (.bool (!decide (a=b))):=by rw [OZ];congr 3;simp;omega
theorem bG (h:a+b<4611686018427387904):aJ PP .add t (ni a) (ni b) k=k (ni (a+b)):=by
 rw [JW]
 congr 2
 rw [wrap_small (by simp only [UD];omega) (by simp only [UD];omega)];simp
theorem Xt (h:b<=a) (h2:a<4611686018427387904):aJ PP .sub t (ni a) (ni b) k=k (ni (a-b)):=by
 rw [Hc]
 congr 2
 rw [wrap_small (by simp only [UD];omega) (by simp only [UD];omega)];simp only [UD];omega
theorem Be (h:a*b<4611686018427387904):aJ PP .mul t (ni a) (ni b) k=k (ni (a*b)):=by
 rw [Ui]
 congr 2
 have e:Int.ofNat a*Int.ofNat b=((a*b:Nat):Int):=by simp
 rw [e,wrap_small (by omega) (by omega)];rfl
theorem aQ5 (h:True):aJ PP .gtr t (nu a) (nu b) k=k (.bool (decide (b<a))):=by rw [OY];congr 2;simp
theorem aEE:aJ PP .leq t (nu a) (nu b) k=k (.bool (decide (a<=b))):=by rw [JX];congr 2;simp
theorem aIk:aJ PP .neq t (nu a) (nu b) k=k (.bool (!decide (a=b))):=by rw [OZ];congr 3;simp;omega
theorem aNn:aJ PP .eql t (nu a) (nu b) k=k (.bool (decide (a=b))):=by rw [JV];congr 2;simp;omega
theorem YZ (h:b≠0):aJ PP .rem t (nu a) (nu b) k=k (nu (a%b)):=by
 rw [aGc (by simp only [UD];omega)]
 congr 2
theorem zJ{a b:Nat} (h:a<b):decide (a<b)=true:=bI h
theorem jM{a b:Nat} (h:¬a<b):decide (a<b)=false:=bO h
theorem bW{p q:Prop}:iR (.bool true) p q=p:=rfl
theorem bE{p q:Prop}:iR (.bool false) p q=q:=rfl
theorem dI{a b:V}{k:V->Prop}:fK (.bool true) a b k=k a:=rfl
theorem dJ{a b:V}{k:V->Prop}:fK (.bool false) a b k=k b:=rfl
theorem Hb{n:Nat} (h:n<18446744073709551616){k:V->Prop}:LE .u64 (ni n) k=k (nu n):=by
 show k (.int .u64 (sM .u64 (.ofNat n)))=_;rw [show sM .u64 (.ofNat n)= .ofNat n from by show(match Nat.blt n 18446744073709551616 with | true=>_ | false=>_)=_;rw [Uh h]]
end
section
variable{M n a b m:Nat}{x:VE}{S:Hp}{K:KV}
abbrev EQ (n:Nat):Prop:=n<18446744073709551616
def bq (m:Nat):Prop:=0<m/\m<=4294967296
theorem qQ:bq 11:=⟨by decide,by decide⟩
theorem qP:bq 23:=⟨by decide,by decide⟩
theorem Xu{a m:Nat} (h:bq m):EQ (a%m):=CZ (jD _ h.1) (zR h.2 (by decide))
theorem PA (hx:Deep PP bK gM M (n+1) x) (ha:EQ a) (hb:EQ b) (hm:bq m) (hK:K (nu (a*b%m)) S):x.call oC [nu a,nu b,nu m] S K:=hx.IL (g:=gM3 fun a b m=>a*b%m) rfl ⟨a,b,m,rfl,ha,hb,hm.1,hm.2,hK⟩
theorem aIl (hx:Deep PP bK gM M (n+1) x) (ha:EQ a) (hb:EQ b) (hm:bq m) (hK:K (nu ((a%m+b%m)%m)) S):x.call CF [nu a,nu b,nu m] S K:=hx.IL (g:=gM3 fun a b m=>(a%m+b%m)%m) rfl ⟨a,b,m,rfl,ha,hb,hm.1,hm.2,hK⟩
theorem aBc (hx:Deep PP bK gM M (n+1) x) (ha:EQ a) (hb:EQ b) (hm:bq m) (hK:K (nu (iD a b m)) S):x.call yR [nu a,nu b,nu m] S K:=hx.IL (g:=gM3 iD) rfl ⟨a,b,m,rfl,ha,hb,hm.1,hm.2,hK⟩
theorem aQ6 (hx:Deep PP bK gM M (n+1) x) (ha:EQ a) (hb:EQ b) (hm:bq m) (hK:K (nu (YF 64 (1%m) a b m)) S):x.call OW [nu a,nu b,nu m] S K:=hx.IL (g:=gM3 fun a e m=>YF 64 (1%m) a e m) rfl ⟨a,b,m,rfl,ha,hb,hm.1,hm.2,hK⟩
theorem aEF (hx:Deep PP bK gM M (n+1) x){two:Bool} (hK:K (.bool true) S):x.call uI [.agg (pv two)] S K:=hx.IL (g:=aEu) rfl ⟨two,rfl,hK⟩
theorem aIm (hx:Deep PP bK gM M (n+1) x) (hK:K (nu 5) S):x.call HF [nu 11] S K:=hx.IL (g:=Xo) rfl ⟨rfl,hK⟩
theorem aIn (hx:Deep PP bK gM M (n+1) x) (ha:EQ a) (hm:bq m) (hi:(CQ (a%m+1) m (a%m) 0 (1%m) m).1=1) (hK:K (.tuple [nu (CQ (a%m+1) m (a%m) 0 (1%m) m).2,ni 0]) S):x.call yS [nu a,nu m] S K:=
 hx.IL (g:=aEt) rfl ⟨a,m,rfl,ha,hm.1,hm.2,by rw [aO hi];exact hK⟩
end
def ev (q:Nat) (l:List Nat) (X:Nat):Nat:=l.foldr (fun c out=>(out*X%q%q+c%q)%q) 0
def LC (l:List Nat):Prop:=∀c∈l,EQ c
theorem aEG (q:Nat) (h:bq q) (l:List Nat) (X:Nat):EQ (ev q l X):=by
 cases l with
 | nil=>show 0<18446744073709551616;decide
 | cons a l=>exact Xu h
section
variable{M n:Nat}{x:VE}{S:Hp}{K:KV}{v:V}{l:List Nat}{q X:Nat}
theorem aOI:gM uJ=none:=rfl
theorem aLI (hx:Deep PP bK gM M (n+1) x) (h:NV S v l) (hl:l.length<1000000) (TV:LC l) (hX:EQ X) (hq:bq q) (hK:K (nu (ev q l X)) S):
 ∀(r i m:Nat),i+r=l.length->r<m->xB x m v (nu X) (nu q) (nu (ev q (l.drop (l.length-i)) X)) (ni l.length) (ni i) S K:=by
 intro r;induction r with
 | zero=>
  intro i m hi hm;obtain⟨m,rfl⟩:=bH (show m≠0 by omega);rw [LF];unfold BS;refine aF ?_;rw [aQ,jM (by omega),bE];have e:l.length-i=0:=by omega
  rw [e,xO];exact aM hK
 | succ r ih=>
  intro i m hi hm;obtain⟨m,rfl⟩:=bH (show m≠0 by omega);rw [LF];unfold BS;refine aF ?_;have hlt:l.length-1-i<l.length:=by omega
  obtain⟨p,hp,PZ⟩:=h.at (i:=l.length-1-i) (aT hlt);have PZ:=fun K=>PZ S (.refl S) K;rw [aQ,zJ (by omega),bW,h.len,Xt (by omega) (by omega),Xt (by omega) (by omega),hp,PZ];refine PA hx (aEG q hq _ X) hX hq ?_;rw [PZ,cE];refine aIl hx (Xu hq) (TV _ (cO hlt)) hq ?_;rw [bG (by omega)];have:=ih (i+1) m (by omega) (by omega)
  have e:l.drop (l.length-(i+1))=l[l.length-1-i]::l.drop (l.length-i):=by
   have e1:l.length-(i+1)=l.length-1-i:=by omega
   have e2:l.length-i=l.length-1-i+1:=by omega
   rw [e1,e2];exact mB hlt
  rw [e]at this;exact this
theorem Xr (hM:1000000<M) (hx:Deep PP bK gM M (n+2) x) (h:NV S v l) (hl:l.length<1000000) (TV:LC l) (hX:EQ X) (hq:bq q) (hK:K (nu (ev q l X)) S):x.call uJ [v,nu X,nu q] S K:=by
 refine hx.call aOI fun y hy=>?_;rw [aBd];unfold Ix;rw [h.len,hy.most];have:=aLI hy h hl TV hX hq hK l.length 0 M (by omega) (by omega);rw [Nat.sub_zero,List.drop_length]at this;exact this
theorem aOJ:gM RD=none:=rfl
theorem aOK (hx:Deep PP bK gM M (n+1) x) (hq:bq q) (hK:K (.bool true) S):x.call RD [nu q] S K:=by
 refine hx.call aOJ fun y hy=>?_;rw [aCS];unfold Ok;have h1:decide (0<q)=true:=bI hq.1;have h2:decide (q<=2305843009213693952)=true:=bI (zR hq.2 (by decide));rw [aQ5 trivial,h1];simp only [aE,aN,dI];rw [aEE,h2];exact aM hK
end
theorem aEH (l:List Nat) (i n:Nat):(oD l).set i (nu n)=oD (l.set i n):=by unfold oD;rw [List.map_set]
end Go.Am
set_option maxRecDepth 4000
namespace Go.Am
open Go.Mq
abbrev vb (b:BitVec 64):V:=nu b.toNat
theorem wrap64 (m:Nat):sM .u64 (.ofNat m)= .ofNat (m%18446744073709551616):=by
 rw [KG];show IntKind.u64.wrap (.ofNat m)=_;unfold IntKind.wrap;simp [IntKind.bits,IntKind.signed]
theorem aNo (b:BitVec 64):IntKind.u64.wrap (b.toNat:Int)= .ofNat b.toNat:=by
 rw [<-KG];have:=wrap64 b.toNat;rw [UE b.isLt]at this;exact this
section
variable{k:V->Prop}{t:TypeId}{b c:BitVec 64}
theorem aQ7:aJ PP .add t (vb b) (vb c) k=k (vb (b+c)):=by
 rw [JW]
 congr 2
 have e:Int.ofNat b.toNat+Int.ofNat c.toNat= .ofNat (b.toNat+c.toNat):=rfl;rw [e,wrap64,BitVec.toNat_add]
theorem aNp:aJ PP .mul t (vb b) (vb c) k=k (vb (b*c)):=by
 rw [Ui]
 congr 2
 have e:Int.ofNat b.toNat*Int.ofNat c.toNat= .ofNat (b.toNat*c.toNat):=rfl;rw [e,wrap64,BitVec.toNat_mul]
theorem aCT (b:BitVec 64):BitVec.ofInt IntKind.u64.bits (Int.ofNat b.toNat)=b:=by
 show BitVec.ofInt 64 ((b.toNat:Nat):Int)=b;rw [BitVec.ofInt_natCast];simp
theorem aIo:aJ PP .xor t (vb b) (vb c) k=k (vb (b ^^^ c)):=by
 have e0:aJ PP .xor t (vb b) (vb c) k=k (.int .u64 (IntKind.u64.wrap (BitVec.ofInt IntKind.u64.bits (Int.ofNat b.toNat) ^^^ BitVec.ofInt IntKind.u64.bits (Int.ofNat c.toNat)).toNat)):=by simp [aJ,yT,SO]
 rw [e0,aCT,aCT];have:=aNo (b ^^^ c);exact jY (fun z=>k (.int .u64 z)) this
theorem aIp{n:Nat} (h:n<64):aJ PP .shr t (vb b) (nu n) k=k (vb (b >>> n)):=by
 show((0:Int)<=Int.ofNat n/\k (.int .u64 (Int.fdiv (Int.ofNat b.toNat) (2 ^ (min (Int.ofNat n).toNat IntKind.u64.bits)))))=_;have e1:min (Int.ofNat n).toNat IntKind.u64.bits=n:=by show min n 64=n;omega
 rw [e1]
 have e2:Int.fdiv (Int.ofNat b.toNat) (2 ^ n)= .ofNat (b >>> n).toNat:=by
  rw [BitVec.toNat_ushiftRight,Nat.shiftRight_eq_div_pow];have:(2:Int) ^ n=((2 ^ n:Nat):Int):=by simp
  rw [this];exact(Int.ofNat_fdiv _ _).symm
 rw [e2];exact propext ⟨fun h=>h.2,fun h=>⟨Int.natCast_nonneg n,h⟩⟩
theorem aNq:SP .xor (vb b) k=k (vb (~~~ b)):=by
 show k (.int .u64 (IntKind.u64.wrap (BitVec.ofInt IntKind.u64.bits (if IntKind.u64.signed then-1 else IntKind.u64.max) ^^^ BitVec.ofInt IntKind.u64.bits (Int.ofNat b.toNat)).toNat))=_;rw [aCT];have e:BitVec.ofInt IntKind.u64.bits (if IntKind.u64.signed then-1 else IntKind.u64.max)=BitVec.allOnes 64:=by show(BitVec.ofInt 64 (if IntKind.u64.signed then-1 else IntKind.u64.max):BitVec 64)=_;decide
 rw [e];show k (.int .u64 (IntKind.u64.wrap ((BitVec.allOnes 64 ^^^ b:BitVec 64).toNat:Int)))=_;rw [BitVec.allOnes_xor];exact jY (fun z=>k (.int .u64 z)) (aNo (~~~ b))
theorem aIq{a b:Nat}:aJ PP .geq t (nu a) (nu b) k=k (.bool (decide (b<=a))):=by rw [CH];congr 2;simp
end
def SQ (s:BitVec 64):Nat×BitVec 64:=if 5<=(~~~ VY (s+QB)).toNat then((VY (s+QB)).toNat%11,s+QB)else((VY (s+QB+QB)).toNat%11,s+QB+QB)
theorem aLJ{s:BitVec 64} (h:¬5<=(~~~ VY s).toNat):aA9 (VY s):=by
 unfold aA9;rw [BitVec.toNat_not]at h;have:=(VY s).isLt;omega
theorem aQ8{s:BitVec 64} (h:¬5<=(~~~ VY s).toNat):5<=(~~~ VY (s+QB)).toNat:=by
 have:=once s (aLJ h);unfold aA9 at this;rw [BitVec.toNat_not];have:=(VY (s+QB)).isLt;omega
inductive Ah (S:Hp):V->List Nat->Prop
 | nil:Ah S .nil []
 | emp {i n:Nat}:Ah S (.emp i n) []
 | aCU {i o:Nat}:Ah S (.own i o 0 0) []
 | acc {i:Nat} {l:List Nat} (h:S i=some (.gD (oD l) 22 l.length)) (h0:0<l.length):Ah S (.acc i l.length) l
 | HW {i m o:Nat} {vs:List V} {l:List Nat} (h:S i=some (.gD vs 22 m)) (h0:0<l.length) (hv:∀j n,l[j]? =some n->vs[o+j]? =some (nu n)):Ah S (.HW i m o l.length l.length) l
theorem Ah.up{S S':Hp}{v:V}{l:List Nat} (h:Ah S v l) (hle:bU S S'):Ah S' v l:=by
 cases h with
 | nil=>exact .nil
 | emp=>exact .emp
 | aCU=>exact .aCU
 | acc h h0=>exact .acc (hle _ _ h) h0
 | HW h h0 hv=>exact .HW (hle _ _ h) h0 hv
theorem Ah.len{S:Hp}{v:V}{l:List Nat} (h:Ah S v l){K:V->Prop}:bP v K=K (ni l.length):=by cases h<;>rfl
theorem Ah.one{S:Hp}{v:V}{l:List Nat} (h:Ah S v l):gB v=true:=by cases h<;>rfl
theorem Ah.set{S:Hp}{v w:V}{l:List Nat}{t d:Nat}{b c:V} (h:Ah S v l) (ht:S t=some (.row [b,w,c] d)){o:Ob}:Ah (aL S t o) v l:=by
 have ne:∀{i:Nat} {vs:List V} {q n:Nat},S i=some (.gD vs q n)->i≠t:=fun h c=>by rw [c,ht]at h;cases h
 cases h with
 | nil=>exact .nil
 | emp=>exact .emp
 | aCU=>exact .aCU
 | acc h h0=>exact .acc (by rw [aC (ne h)];exact h) h0
 | HW h h0 hv=>exact .HW (by rw [aC (ne h)];exact h) h0 hv
theorem Ah.head{S:Hp}{v:V}{a:Nat}{l:List Nat} (h:Ah S v (a::l)):(∃p,(∀(K:V->Prop),cV 1 v (ni 0) K=K p)/\∀K:KV,aW p S K=K (nu a) S)/\∃w,(∀{k:V->Prop},k w->LG 22 1 v (some (ni 1)) none none S k)/\∀{S'},bU S S'->Ah S' w l:=by
 generalize hm:a::l=m at h;cases h with
 | nil=>cases hm
 | emp=>cases hm
 | aCU=>cases hm
 | @acc i _ h h0=>
  subst hm;refine⟨⟨.wL i (a::l).length (0*1),fun K=>KZ (by simp),fun K=>?_⟩,?_⟩
  ·unfold aW;simp only [h,true_and];rfl
  ·cases l with
   | nil=>exact⟨.emp i 1,fun hk=>aIr (n:=1) h hk,fun _=> .emp⟩
   | cons b l=>
    refine⟨.HW i (a::b::l).length (1*1) ((a::b::l).length-1) ((a::b::l).length-1),fun hk=>Xv h (by simp) hk,fun hle=>?_⟩
    exact .HW (l:=b::l) (hle _ _ h) (by simp) fun j n hj=>by
     rw [Nat.add_comm];exact IJ (l:=a::b::l) (i:=j+1) hj
 | @HW i q o vs _ h h0 hv=>
  subst hm;refine⟨⟨.wL i q (o+0*1),fun K=>by simp [cV],fun K=>?_⟩,?_⟩
  ·unfold aW
   simp only [h,true_and];rw [Af,cX (hv 0 a rfl)]
  ·cases l with
   | nil=>
    refine⟨.emp i q,fun {k} hk=>?_,fun _=> .emp⟩;unfold LG;simp only [h,true_and];unfold LH Hd;simp only [oX,List.length_nil];refine⟨by omega,by omega,by omega,fun c=>bC c (by omega),fun _=>hk⟩
   | cons b l=>
    refine⟨.HW i q (o+1*1) (b::l).length (b::l).length,fun {k} hk=>?_,fun hle=> .HW (l:=b::l) (hle _ _ h) (by simp) fun j n hj=>?_⟩
    ·unfold LG
     simp only [h,true_and];unfold LH Hd;simp only [oX];refine⟨by omega,by omega,by omega,fun _=>?_,fun c=>bC c (by omega)⟩;exact hk
    ·have:=hv (j+1) n hj
     rw [kX,uP,Nat.add_comm 1 j];exact this
set_option maxRecDepth 4000
section
variable{S:Hp}{i o:Nat}{vs:List V}{t:TypeId}{v:V}
theorem cT (h:S i=some (.row vs t)) (hv:vs[o]? =some v){K:KV}:aW (.ptr i o) S K=K v S:=by unfold aW;simp only [h,cX hv]
theorem DV (h:S i=some (.row vs t)) (ho:o<vs.length) (h1:gB v=true){k:Hp->Prop}:nI 1 (.ptr i o) v S k=k (aL S i (.row (vs.set o v) t)):=by
 apply propext;constructor
 ·intro hv
  unfold nI at hv;simp only [h]at hv;have:∀{p:List V->Prop},wM v p=p [v]:=fun {p}=>by cases v<;>first | rfl | cases h1
  rw [this]at hv;rw [<-FU ho];exact hv.2.2
 ·intro hk;exact MX h h1 ho (by rw [FU ho];exact hk)
end
def Tape (S:Hp) (t:Nat) (s:BitVec 64) (ah:List Nat) (d:Nat):Prop:=∃w,S t=some (.row [vb s,w,ni d] 140)/\Ah S w ah
def Bf (S S':Hp) (t:Nat):Prop:=∀i,i≠t->S' i=S i
theorem Bf.trans{a b c:Hp}{t:Nat} (h:Bf a b t) (k:Bf b c t):Bf a c t:=fun i hi=>by rw [k i hi,h i hi]
section
variable{M n t d:Nat}{x:VE}{S:Hp}{K:KV}{s:BitVec 64}{w:V}{a:Nat}{ah:List Nat}
theorem aIs:gM xC=none:=rfl
theorem aLK:gM DW=none:=rfl
theorem aIt:gM dF=none:=rfl
theorem aQ9:gM RE=none:=rfl
theorem aBe (hx:Deep PP bK gM M (n+1) x) (h:S t=some (.row [vb s,w,ni d] 140)) (hK:K (vb (VY (s+QB))) (aL S t (.row [vb (s+QB),w,ni d] 140))):x.call xC [.ptr t 0] S K:=by
 refine hx.call aIs fun y hy=>?_;rw [Dv];unfold MY;have e1:(.int .u64 (.ofNat 11400714819323198485):V)=vb QB:=rfl;have e2:(.int .u64 (.ofNat 13787848793156543929):V)=vb m1:=rfl;have e3:(.int .u64 (.ofNat 10723151780598845931):V)=vb m2:=rfl;have h2:aL S t (.row [vb (s+QB),w,ni d] 140) t=some (.row [vb (s+QB),w,ni d] 140):=aB;rw [cK,aY,cT h rfl,e1,aQ7,cK,aY,DV h (by simp) rfl];show nP PP (.ptr t 0) (fun v6=>aV 0 v6 fun v7=>aW v7 (aL S t (.row [vb (s+QB),w,ni d] 140)) _);rw [cK,aY,cT h2 rfl,aIp (by decide),aIo,e2,aNp,aIp (by decide),aIo,e3,aNp,aIp (by decide),aIo];exact aM hK
theorem Xw (hx:Deep PP bK gM M (n+1) x) (hK:K (nu (a%11)) S):x.call DW [nu a,nu 11] S K:=by
 refine hx.call aLK fun y hy=>?_;rw [Xx];unfold Dw;rw [aNn,bO (by decide),bE,YZ (by decide)];exact aM hK
theorem aNr:Dx PP 30=some .ptr:=by kernel_rfl
theorem aLL (hx:Deep PP bK gM M (n+1) x) (h:S t=some (.row [vb s,w,ni d] 140)) (hw:Ah S w []) (hK:∀S',Bf S S' t->Tape S' t (SQ s).2 [] d->K (nu (SQ s).1) S'){m:Nat}:oZ x (m+2) (.ptr t 0) (nu 11) S K:=by
 rw [CI];unfold tF;refine aF ?_;rw [cK,aY];refine aBe hx h ?_;rw [aNq];refine aIm hx ?_;have h1:aL S t (.row [vb (s+QB),w,ni d] 140) t=some (.row [vb (s+QB),w,ni d] 140):=aB;rw [aIq];by_cases c:5<=(~~~ VY (s+QB)).toNat
 ·rw [bI c,bW]
  refine Xw hx ?_;have e:SQ s=((VY (s+QB)).toNat%11,s+QB):=by unfold SQ;rw [aO c]
  rw [e]at hK;exact aM (hK _ (fun i hi=>aC hi) ⟨w,h1,hw.set h⟩)
 ·rw [bO c,bE,CI]
  unfold tF;refine aF ?_;rw [cK,aY];refine aBe hx h1 ?_;rw [aNq];refine aIm hx ?_;rw [aIq,bI (aQ8 c),bW];refine Xw hx ?_;have e:SQ s=((VY (s+QB+QB)).toNat%11,s+QB+QB):=by unfold SQ;rw [aG c]
  rw [e]at hK;exact aM (hK _ (fun i hi=>by rw [fD,aC hi]) ⟨w,by rw [fD];exact aB,by rw [fD];exact hw.set h⟩)
theorem aOL (hM:2<M) (hx:Deep PP bK gM M (n+2) x) (h:Tape S t s [] d) (hd:d<1000000) (hK:∀S',Bf S S' t->Tape S' t (SQ s).2 [] (d+1)->K (nu (SQ s).1) S'):x.call dF [.ptr t 0,nu 11] S K:=by
 obtain⟨w,h,hw⟩:=h;refine hx.call aIt fun y hy=>?_;rw [PB];unfold FV;refine aEI aNr ?_;have h1:aL S t (.row [vb s,w,ni (d+1)] 140) t=some (.row [vb s,w,ni (d+1)] 140):=aB;have hw1:Ah (aL S t (.row [vb s,w,ni (d+1)] 140)) w []:=hw.set h;rw [bE,cK,aY,cT h rfl,bG (by omega),cK,aY,DV h (by simp) rfl];show nP PP (.ptr t 0) (fun v7=>aV 1 v7 fun v8=>aW v8 (aL S t (.row [vb s,w,ni (d+1)] 140)) _);rw [cK,aY,cT h1 rfl,hw1.len,uX,bO (by simp),bE,hy.most];obtain⟨m,rfl⟩:∃m,M=m+2:=⟨M-2,by omega⟩;exact aLL hy h1 hw1 fun S' b tp=>hK S' ((show Bf S (aL S t (.row [vb s,w,ni (d+1)] 140)) t from fun i hi=>aC hi).trans b) tp
end
def drawn:Nat->List Nat->BitVec 64->List Nat
 | 0,_,_=>[]
 | k+1,a::ah,s=>a%11::drawn k ah s
 | k+1,[],s=>(SQ s).1::drawn k [] (SQ s).2
theorem wG:∀(k:Nat) (ah:List Nat) (s:BitVec 64),(drawn k ah s).length=k:=by
 intro k;induction k with
 | zero=>intro ah s;rfl
 | succ k ih=>intro ah s;cases ah<;>simp [drawn,ih]
theorem PC:∀(k:Nat) (ah:List Nat) (s:BitVec 64),∀c∈drawn k ah s,c<11:=by
 intro k;induction k with
 | zero=>intro ah s c hc;cases hc
 | succ k ih=>
  intro ah s c hc;cases ah with
  | nil=>
   rcases List.mem_cons.1 hc with rfl | hc
   ·show(SQ s).1<11
    unfold SQ;split<;>exact jD _ (by decide)
   ·exact ih _ _ c hc
  | cons a ah=>
   rcases List.mem_cons.1 hc with rfl | hc
   ·exact jD _ (by decide)
   ·exact ih _ _ c hc
section
variable{M n t d:Nat}{x:VE}{S:Hp}{K:KV}{s:BitVec 64}{ah:List Nat}
end
set_option maxRecDepth 4000
section
variable{M n t d:Nat}{x:VE}{S:Hp}{K:KV}
theorem aRa{sd:Nat} (h:EQ sd):vb (BitVec.ofNat 64 sd)=nu sd:=by
 show nu (BitVec.ofNat 64 sd).toNat=nu sd;rw [BitVec.toNat_ofNat,UE h]
end
end Go.Am
set_option maxRecDepth 100000
namespace Go.Am
def rV (x:VE) (m:Nat) (t3 t9 t10 t11 t29 t30 t31:V) (S:Hp) (K:KV):Prop:=dW PP bK uW x [.r,.r,.r,.r,.l,.r,.d] m [] [t3,t9,t10,t11,t29,t30,t31] S K
def gK (x:VE) (m:Nat) (t3 t10 t11 t14 t63 t64:V) (S:Hp) (K:KV):Prop:=dW PP bK uW x [.r,.r,.r,.r,.r,.r,.l,.r,.d] m [] [t3,t10,t11,t14,t63,t64] S K
def jH (x:VE) (m:Nat) (m0:Nat) (t3 t10 t11 t14 t15 t63 t64 t68 t69:V) (S:Hp) (K:KV):Prop:=dW PP bK uW x [.r,.r,.r,.r,.r,.r,.l,.r,.d,.d,.r,.r,.l,.d,.r,.r,.d] m [m0] [t3,t10,t11,t14,t15,t63,t64,t68,t69] S K
def Ey (x:VE) (a0 a1 a2:V) (S:Hp) (K:KV):Prop:=
 iG 29 a0 S fun v0 S=>
 bR 12 v0 S fun v1 S=>
 x.call uI [v1] S fun v2 S=>
 SP .not v2 fun v3=>
 aI x.most (aH false v3 (fun k=>k a1 S) S fun v4 S=>aI x.most (aH false v3 (fun k=>bP v4 fun v5=>k v5 S) S fun v6 S=>aI x.most (aH false v3 (fun k=>bR 12 v0 S fun v7 S=>k v7 S) S fun v8 S=>aI x.most (aH false v3 (fun k=>x.call yD [v8] S fun v9 S=>k v9 S) S fun v10 S=>aI x.most (aH false v3 (fun k=>aJ PP .neq 3 v6 v10 fun v11=>k v11 S) S fun v12 S=>aI x.most (fK v3 (.bool true) v12 fun qE=>iR qE (bF (.tuple [.nil,.nil,(.int .i64 (.ofNat 1))]) S K) (bP a1 fun qU=>rV x x.most v0 (.func dF [a2] []) .nil .nil a1 qU (.int .i64 (.ofNat 0)) S K)))))))
theorem Zd (x:VE) (a0 a1 a2:V) (S:Hp) (K:KV):jX PP bK uW x [a0,a1,a2] S K=Ey x a0 a1 a2 S K:=by kernel_rfl
def wQ (x:VE) (m0:Nat) (t3 t9 t10 t11 t29 t30 t31:V) (S:Hp) (K:KV):Prop:=
 cR S fun S=>
 aJ PP .lss 3 t31 t30 fun v0=>
 iR v0 (cV 1 t29 t31 fun v1=>aW v1 S fun v2 S=>aV 6 t3 fun v3=>aW v3 S fun v4 S=>aV 1 t3 fun v5=>aW v5 S fun v6 S=>x.call sG [v2,v4,v6,t9] S fun v7 S=>aS 51 1 [(.slice none 0 0)] [(0,1,v7)] S fun v8 S=>jW 51 1 24 t10 v8 S fun v9 S=>aV 1 t3 fun v10=>aW v10 S fun v11 S=>aV 6 t3 fun v12=>aW v12 S fun qE S=>aV 1 t3 fun qU=>aW qU S fun wI S=>mH x t9 [v11] S fun wJ S=>aW qU S fun wH _=>aU wH wI (aW v12 S fun vC _=>aU vC qE (x.call sG [wJ,qE,wI,t9] S fun yI S=>(aS 51 1 [(.slice none 0 0)] [(0,1,yI)] S fun v20 S=>True)/\(aS 51 1 [(.slice none 0 0)] [(0,1,yI)] S fun v21 S=>jW 51 1 24 t11 v21 S fun JC S=>aJ PP .add 3 t31 (.int .i64 (.ofNat 1)) fun GC=>rV x m0 t3 t9 v9 JC t29 t30 GC S K)))) (aV 5 t3 fun v24=>aW v24 S fun OD S=>vMk 82 24 [(.slice none 0 0)] OD OD S fun SZ S=>bP SZ fun ZE=>gK x x.most t3 t10 t11 SZ ZE (.int .i64 (.ofNat 0)) S K)
theorem FA (x:VE) (m0:Nat) (t3 t9 t10 t11 t29 t30 t31:V) (S:Hp) (K:KV):rV x (m0+1) t3 t9 t10 t11 t29 t30 t31 S K=wQ x m0 t3 t9 t10 t11 t29 t30 t31 S K:=by kernel_rfl
def tD (x:VE) (m0:Nat) (t3 t10 t11 t14 t63 t64:V) (S:Hp) (K:KV):Prop:=
 cR S fun S=>
 aJ PP .lss 3 t64 t63 fun v0=>
 iR v0 (bP t10 fun v1=>jH x x.most m0 t3 t10 t11 t14 t64 t63 t64 v1 (.int .i64 (.ofNat 0)) S K) (bR 12 t3 S fun v2 S=>x.call aR [v2,t10,t11] S fun v3 S=>bF (.tuple [t14,v3,(.int .i64 (.ofNat 0))]) S K)
theorem CG (x:VE) (m0:Nat) (t3 t10 t11 t14 t63 t64:V) (S:Hp) (K:KV):gK x (m0+1) t3 t10 t11 t14 t63 t64 S K=tD x m0 t3 t10 t11 t14 t63 t64 S K:=by kernel_rfl
def mG (x:VE) (m1:Nat) (m0:Nat) (t3 t10 t11 t14 t15 t63 t64 t68 t69:V) (S:Hp) (K:KV):Prop:=
 cR S fun S=>
 aJ PP .lss 3 t69 t68 fun v0=>
 iR v0 (cV 1 t14 t15 fun v1=>aW v1 S fun v2 S=>cV 1 t10 t69 fun v3=>aW v3 S fun v4 S=>aJ PP .add 3 t15 (.int .i64 (.ofNat 1)) fun v5=>LE .u64 v5 fun v6=>aV 1 t3 fun v7=>aW v7 S fun v8 S=>cV 1 t11 t69 fun v9=>aW v9 S fun v10 S=>aJ PP .add 3 t15 (.int .i64 (.ofNat 1)) fun v11=>LE .u64 v11 fun v12=>aV 1 t3 fun qE=>aW qE S fun qU S=>x.call uJ [v4,v6,v8] S fun wI S=>aW qE S fun wJ _=>aU wJ qU (aW v9 S fun wH _=>aU wH v10 (aW v1 S fun vC _=>aU vC v2 (x.call uJ [v10,v12,qU] S fun yI S=>aW v1 S fun v20 _=>aU v20 v2 (cS [(.int .u64 (.ofNat 0)),(.int .u64 (.ofNat 0))] [(0,1,wI),(1,1,yI)] fun v21=>aW v1 S fun JC _=>aU JC v2 ((aS 145 1 [(.int .u64 (.ofNat 0)),(.int .u64 (.ofNat 0))] [(0,2,v21)] S fun GC S=>True)/\(aS 145 1 [(.int .u64 (.ofNat 0)),(.int .u64 (.ofNat 0))] [(0,2,v21)] S fun v24 S=>jW 145 2 16 v2 v24 S fun OD S=>cV 1 t14 t15 fun SZ=>nI 1 SZ OD S fun S=>aJ PP .add 3 t69 (.int .i64 (.ofNat 1)) fun ZE=>jH x m1 m0 t3 t10 t11 t14 t15 t63 t64 t68 ZE S K))))))) (aJ PP .add 3 t64 (.int .i64 (.ofNat 1)) fun v28=>gK x m0 t3 t10 t11 t14 t63 v28 S K)
theorem sO (x:VE) (m1:Nat) (m0:Nat) (t3 t10 t11 t14 t15 t63 t64 t68 t69:V) (S:Hp) (K:KV):jH x (m1+1) m0 t3 t10 t11 t14 t15 t63 t64 t68 t69 S K=mG x m1 m0 t3 t10 t11 t14 t15 t63 t64 t68 t69 S K:=by kernel_rfl
def WH (x:VE) (a0:V) (S:Hp) (K:KV):Prop:=
 iG 29 a0 S fun v0 S=>
 aV 7 v0 fun v1=>
 aW v1 S fun v2 S=>
 aV 8 v0 fun v3=>
 aW v3 S fun v4 S=>
 aJ PP .add 3 v4 (.int .i64 (.ofNat 1)) fun v5=>
 aJ PP .mul 3 v2 v5 fun v6=>
 bF v6 S K
theorem Oo (x:VE) (a0:V) (S:Hp) (K:KV):jX PP bK yD x [a0] S K=WH x a0 S K:=by kernel_rfl
def oS (x:VE) (m:Nat) (t2 t3 t9 t14 t15:V) (S:Hp) (K:KV):Prop:=dW PP bK sG x [.r,.r,.l,.r,.d] m [] [t2,t3,t9,t14,t15] S K
def ZN (x:VE) (a0 a1 a2 a3:V) (S:Hp) (K:KV):Prop:=
 aJ PP .rem 22 a0 a2 fun v0=>
 aS 22 1 [(.int .u64 (.ofNat 0))] [(0,1,v0)] S fun v1 S=>
 oS x x.most a2 a3 v1 a1 (.int .i64 (.ofNat 0)) S K
theorem Sm (x:VE) (a0 a1 a2 a3:V) (S:Hp) (K:KV):jX PP bK sG x [a0,a1,a2,a3] S K=ZN x a0 a1 a2 a3 S K:=by kernel_rfl
def yH (x:VE) (m0:Nat) (t2 t3 t9 t14 t15:V) (S:Hp) (K:KV):Prop:=
 cR S fun S=>
 aJ PP .lss 3 t15 t14 fun v0=>
 iR v0 (mH x t3 [t2] S fun v1 S=>aS 22 1 [(.int .u64 (.ofNat 0))] [(0,1,v1)] S fun v2 S=>jW 22 1 8 t9 v2 S fun v3 S=>aJ PP .add 3 t15 (.int .i64 (.ofNat 1)) fun v4=>oS x m0 t2 t3 v3 t14 v4 S K) (bF t9 S K)
theorem HM (x:VE) (m0:Nat) (t2 t3 t9 t14 t15:V) (S:Hp) (K:KV):oS x (m0+1) t2 t3 t9 t14 t15 S K=yH x m0 t2 t3 t9 t14 t15 S K:=by kernel_rfl
def ST (x:VE) (a0 a1 a2:V) (S:Hp) (K:KV):Prop:=
 iG 29 a0 S fun v0 S=>
 dQ [(.slice none 0 0)] 33 S fun v1 S=>
 x.call kE [a1,a2] S fun v2 S=>
 OC x v2 [3,7] [v0,v1] 36 (DY PP aR [.r,.r,.l,.r,.d]) (DZ PP aR [.r,.r,.l,.r,.d]) (yU PP aR [.r,.r,.l,.r,.d]) S fun pe S=>
 SX pe (aW v1 S fun v4 S=>bF v4 S K) (bF .nil S K) (fun v3=>ZL v3 0 (aW v1 S fun v5 S=>bF v5 S K) (False))
theorem Jt (x:VE) (a0 a1 a2:V) (S:Hp) (K:KV):jX PP bK aR x [a0,a1,a2] S K=ST x a0 a1 a2 S K:=by kernel_rfl
def EA (x:VE) (l:Nat) (t3 t7 a0 a1:V) (S:Hp) (K:KV):Prop:=
 ZK l S fun S=>
 dQ [(.slice none 0 0)] 51 S fun v0 S=>
 x.call oF [a0,a1] S fun v1 S=>
 RF l S (OC x v1 [3,10] [t3,v0] 36 (DY PP aR [.r,.r,.l,.r,.d,.d,.d,.r,.l,.r,.d]) (DZ PP aR [.r,.r,.l,.r,.d,.d,.d,.r,.l,.r,.d]) (yU PP aR [.r,.r,.l,.r,.d,.d,.d,.r,.l,.r,.d]) S fun pe S=>SX pe (aW t7 S fun v3 S=>aW v0 S fun v4 S=>aS 51 1 [(.slice none 0 0)] [(0,1,v4)] S fun v5 S=>jW 51 1 24 v3 v5 S fun v6 S=>nI 1 t7 v6 S fun S=>IX l .ready none true S K) (IX l .done (some .ret) false S K) (fun v2=>ZL v2 2 (aW t7 S fun v7 S=>aW v0 S fun v8 S=>aS 51 1 [(.slice none 0 0)] [(0,1,v8)] S fun v9 S=>jW 51 1 24 v7 v9 S fun v10 S=>nI 1 t7 v10 S fun S=>IX l .ready none true S K) (ZL v2 1 (IX l .ready none true S K) (IX l .done (some (.exit v2)) false S K))))
theorem TX (x:VE) (l:Nat) (t3 t7 a0 a1:V) (S:Hp) (K:KV):WP PP bK x 36 (DY PP aR [.r,.r,.l,.r,.d]) (DZ PP aR [.r,.r,.l,.r,.d]) (yU PP aR [.r,.r,.l,.r,.d]) l [t3,t7] [a0,a1] S K=EA x l t3 t7 a0 a1 S K:=by kernel_rfl
theorem TW:[3,7]=YY bK 36 (yU PP aR [.r,.r,.l,.r,.d]):=by kernel_rfl
def vT (x:VE) (l:Nat) (t3 t10 a0 a1:V) (S:Hp) (K:KV):Prop:=
 ZK l S fun S=>
 aW t10 S fun v0 S=>
 bR 12 t3 S fun v1 S=>
 cS [(.int .u64 (.ofNat 0)),(.int .u64 (.ofNat 0))] [(0,1,a0),(1,1,a1)] fun v2=>
 x.call DX [v1,v2] S fun v3 S=>
 aW t10 S fun v4 _=>
 aU v4 v0 (aW t10 S fun v5 _=>aU v5 v0 ((aS 22 1 [(.int .u64 (.ofNat 0))] [(0,1,v3)] S fun v6 S=>True)/\(aS 22 1 [(.int .u64 (.ofNat 0))] [(0,1,v3)] S fun v7 S=>jW 22 1 8 v0 v7 S fun v8 S=>nI 1 t10 v8 S fun S=>IX l .ready none true S K)))
theorem JP (x:VE) (l:Nat) (t3 t10 a0 a1:V) (S:Hp) (K:KV):WP PP bK x 36 (DY PP aR [.r,.r,.l,.r,.d,.d,.d,.r,.l,.r,.d]) (DZ PP aR [.r,.r,.l,.r,.d,.d,.d,.r,.l,.r,.d]) (yU PP aR [.r,.r,.l,.r,.d,.d,.d,.r,.l,.r,.d]) l [t3,t10] [a0,a1] S K=vT x l t3 t10 a0 a1 S K:=by kernel_rfl
theorem JO:[3,10]=YY bK 36 (yU PP aR [.r,.r,.l,.r,.d,.d,.d,.r,.l,.r,.d]):=by kernel_rfl
def zK (x:VE) (a0 a1:V) (S:Hp) (K:KV):Prop:=
 bP a0 fun v0=>
 aJ PP .geq 3 a1 v0 fun v1=>
 iR v1 (bF .nil S K) (cV 1 a0 a1 fun v2=>aW v2 S fun v3 S=>bF v3 S K)
theorem MG (x:VE) (a0 a1:V) (S:Hp) (K:KV):jX PP bK jJ x [a0,a1] S K=zK x a0 a1 S K:=by kernel_rfl
def vS (x:VE) (a0 a1:V) (S:Hp) (K:KV):Prop:=
 iG 33 a0 S fun v0 S=>
 iG 33 a1 S fun v1 S=>
 bF (.func eK [] [v0,v1]) S K
theorem IM (x:VE) (a0 a1:V) (S:Hp) (K:KV):jX PP bK kE x [a0,a1] S K=vS x a0 a1 S K:=by kernel_rfl
def gV (x:VE) (m:Nat) (t0 t1 t2 t9 t10:V) (S:Hp) (K:KV):Prop:=dW PP bK eK x [.r,.d] m [] [t0,t1,t2,t9,t10] S K
def tG (x:VE) (a0 a1 a2:V) (S:Hp) (K:KV):Prop:=
 aW a1 S fun v0 S=>
 bP v0 fun v1=>
 aW a2 S fun v2 S=>
 bP v2 fun v3=>
 Bg true v1 v3 fun v4=>
 gV x x.most a0 a1 a2 v4 (.int .i64 (.ofNat 0)) S K
theorem FW (x:VE) (a0 a1 a2:V) (S:Hp) (K:KV):jX PP bK eK x [a0,a1,a2] S K=tG x a0 a1 a2 S K:=by kernel_rfl
def kL (x:VE) (m0:Nat) (t0 t1 t2 t9 t10:V) (S:Hp) (K:KV):Prop:=
 cR S fun S=>
 aJ PP .lss 3 t10 t9 fun v0=>
 iR v0 (aW t1 S fun v1 S=>aW t2 S fun v2 S=>x.call jJ [v1,t10] S fun v3 S=>aW t2 S fun v4 _=>aU v4 v2 (x.call jJ [v2,t10] S fun v5 S=>mH x t0 [v3,v5] S fun v6 S=>SP .not v6 fun v7=>iR v7 (bF (.tuple []) S K) (aJ PP .add 3 t10 (.int .i64 (.ofNat 1)) fun v8=>gV x m0 t0 t1 t2 t9 v8 S K))) (bF (.tuple []) S K)
theorem pQ (x:VE) (m0:Nat) (t0 t1 t2 t9 t10:V) (S:Hp) (K:KV):gV x (m0+1) t0 t1 t2 t9 t10 S K=kL x m0 t0 t1 t2 t9 t10 S K:=by kernel_rfl
def CJ (x:VE) (a0 a1:V) (S:Hp) (K:KV):Prop:=
 iG 51 a0 S fun v0 S=>
 iG 51 a1 S fun v1 S=>
 bF (.func gI [] [v0,v1]) S K
theorem PD (x:VE) (a0 a1:V) (S:Hp) (K:KV):jX PP bK oF x [a0,a1] S K=CJ x a0 a1 S K:=by kernel_rfl
def kF (x:VE) (m:Nat) (t0 t1 t2 t9 t10:V) (S:Hp) (K:KV):Prop:=dW PP bK gI x [.r,.d] m [] [t0,t1,t2,t9,t10] S K
def zM (x:VE) (a0 a1 a2:V) (S:Hp) (K:KV):Prop:=
 aW a1 S fun v0 S=>
 bP v0 fun v1=>
 aW a2 S fun v2 S=>
 bP v2 fun v3=>
 Bg true v1 v3 fun v4=>
 kF x x.most a0 a1 a2 v4 (.int .i64 (.ofNat 0)) S K
theorem MH (x:VE) (a0 a1 a2:V) (S:Hp) (K:KV):jX PP bK gI x [a0,a1,a2] S K=zM x a0 a1 a2 S K:=by kernel_rfl
def nR (x:VE) (m0:Nat) (t0 t1 t2 t9 t10:V) (S:Hp) (K:KV):Prop:=
 cR S fun S=>
 aJ PP .lss 3 t10 t9 fun v0=>
 iR v0 (aW t1 S fun v1 S=>aW t2 S fun v2 S=>x.call nQ [v1,t10] S fun v3 S=>aW t2 S fun v4 _=>aU v4 v2 (x.call nQ [v2,t10] S fun v5 S=>mH x t0 [v3,v5] S fun v6 S=>SP .not v6 fun v7=>iR v7 (bF (.tuple []) S K) (aJ PP .add 3 t10 (.int .i64 (.ofNat 1)) fun v8=>kF x m0 t0 t1 t2 t9 v8 S K))) (bF (.tuple []) S K)
theorem uK (x:VE) (m0:Nat) (t0 t1 t2 t9 t10:V) (S:Hp) (K:KV):kF x (m0+1) t0 t1 t2 t9 t10 S K=nR x m0 t0 t1 t2 t9 t10 S K:=by kernel_rfl
def HJ (x:VE) (a0 a1:V) (S:Hp) (K:KV):Prop:=
 bP a0 fun v0=>
 aJ PP .geq 3 a1 v0 fun v1=>
 iR v1 (bF (.int .u64 (.ofNat 0)) S K) (cV 1 a0 a1 fun v2=>aW v2 S fun v3 S=>bF v3 S K)
theorem WC (x:VE) (a0 a1:V) (S:Hp) (K:KV):jX PP bK nQ x [a0,a1] S K=HJ x a0 a1 S K:=by kernel_rfl
def WB (x:VE) (a0 a1:V) (S:Hp) (K:KV):Prop:=
 iG 29 a0 S fun v0 S=>
 iG 145 a1 S fun v1 S=>
 bR 12 v0 S fun v2 S=>
 bR 12 v0 S fun v3 S=>
 aV 2 v0 fun v4=>
 aW v4 S fun v5 S=>
 aV 0 v1 fun v6=>
 aW v6 S fun v7 S=>
 bR 12 v0 S fun v8 S=>
 aV 3 v0 fun v9=>
 aW v9 S fun v10 S=>
 aV 1 v1 fun v11=>
 aW v11 S fun v12 S=>
 x.call pF [v3,v5,v7] S fun qE S=>
 aW v11 S fun qU _=>
 aU qU v12 (aW v9 S fun wI _=>aU wI v10 (bR 12 v0 S fun wJ _=>aU wJ v8 (bR 12 v0 S fun wH _=>aU wH v2 (x.call pF [v8,v10,v12] S fun vC S=>bR 12 v0 S fun yI _=>aU yI v2 (bR 12 v0 S fun v20 _=>aU v20 v2 ((aS 22 2 [(.int .u64 (.ofNat 0))] [(0,1,qE),(1,1,vC)] S fun v21 S=>True)/\(aS 22 2 [(.int .u64 (.ofNat 0))] [(0,1,qE),(1,1,vC)] S fun JC S=>x.call lG [v2,JC] S fun GC S=>bF GC S K)))))))
theorem Om (x:VE) (a0 a1:V) (S:Hp) (K:KV):jX PP bK DX x [a0,a1] S K=WB x a0 a1 S K:=by kernel_rfl
def ZA (x:VE) (a0 a1 a2:V) (S:Hp) (K:KV):Prop:=
 iG 29 a0 S fun v0 S=>
 aV 0 v0 fun v1=>
 aW v1 S fun v2 S=>
 x.call OW [a1,a2,v2] S fun v3 S=>
 bF v3 S K
theorem Sd (x:VE) (a0 a1 a2:V) (S:Hp) (K:KV):jX PP bK pF x [a0,a1,a2] S K=ZA x a0 a1 a2 S K:=by kernel_rfl
def sX (x:VE) (m:Nat) (t2 t5 t11 t12 t13:V) (S:Hp) (K:KV):Prop:=dW PP bK lG x [.r,.r,.l,.r,.d] m [] [t2,t5,t11,t12,t13] S K
def ZB (x:VE) (a0 a1:V) (S:Hp) (K:KV):Prop:=
 iG 29 a0 S fun v0 S=>
 aV 0 v0 fun v1=>
 aW v1 S fun v2 S=>
 x.call oC [(.int .u64 (.ofNat 1)),(.int .u64 (.ofNat 1)),v2] S fun v3 S=>
 bP a1 fun v4=>
 sX x x.most v0 v3 a1 v4 (.int .i64 (.ofNat 0)) S K
theorem Se (x:VE) (a0 a1:V) (S:Hp) (K:KV):jX PP bK lG x [a0,a1] S K=ZB x a0 a1 S K:=by kernel_rfl
def yC (x:VE) (m0:Nat) (t2 t5 t11 t12 t13:V) (S:Hp) (K:KV):Prop:=
 cR S fun S=>
 aJ PP .lss 3 t13 t12 fun v0=>
 iR v0 (cV 1 t11 t13 fun v1=>aW v1 S fun v2 S=>aV 0 t2 fun v3=>aW v3 S fun v4 S=>x.call oC [t5,v2,v4] S fun v5 S=>aJ PP .add 3 t13 (.int .i64 (.ofNat 1)) fun v6=>sX x m0 t2 v5 t11 t12 v6 S K) (bF t5 S K)
theorem HI (x:VE) (m0:Nat) (t2 t5 t11 t12 t13:V) (S:Hp) (K:KV):sX x (m0+1) t2 t5 t11 t12 t13 S K=yC x m0 t2 t5 t11 t12 t13 S K:=by kernel_rfl
end Go.Am
set_option maxRecDepth 4000
namespace Go.Am
open Go.Proofs.OG
def pw (g e:Nat):Nat:=YF 64 (1%23) g e 23
def LI (l:List Nat):Nat:=l.foldl (fun acc y=>acc*y%23) (1*1%23)
def com (sd B:Nat):Nat:=LI [pw 4 sd,pw 9 B]
theorem aEJ (g e:Nat):pw g e<23:=by
 have:∀(f out a e:Nat),out<23->YF f out a e 23<23:=by
  intro f;induction f with
  | zero=>intro out a e h;exact h
  | succ f ih=>
   intro out a e h;by_cases he:0<e
   ·rw [Uf he]
    refine ih _ _ _ ?_;split
    ·exact jD _ (by decide)
    ·exact h
   ·have:e=0:=by omega
    subst this;rw [Ue];exact h
 exact this 64 _ g e (by decide)
theorem aIu (sd B:Nat):com sd B<23:=jD _ (by decide)
section
variable{M n:Nat}{x:VE}{S:Hp}{K:KV}{two:Bool}
theorem jN:(pv two).all gB=true:=rfl
theorem BR:(pv two).length=12:=rfl
theorem aLM:gM pF=none:=rfl
theorem aIv:gM lG=none:=rfl
theorem aIw:gM DX=none:=rfl
theorem Dy (hx:Deep PP bK gM M (n+2) x){g e:Nat} (hg:EQ g) (he:EQ e) (hK:K (nu (pw g e)) S):x.call pF [.agg (pv two),nu g,nu e] S K:=by
 refine hx.call aLM fun y hy=>?_;rw [Sd];unfold ZA;refine cC jN fun b hb=>?_;rw [aY,cT (o:=0) aB rfl];refine aQ6 hy hg he qP ?_;exact bL (.aK hb) hK
theorem aGd (hx:Deep PP bK gM M (n+1) x){v:V}{l:List Nat}{b:Nat}{S0:Hp} (hle:bU S0 S) (h:NV S v l) (TV:LC l) (hl:l.length<1000000) (hb:S b=some (.row (pv two) 29)) (hK:K (nu (LI l)) S0):
 ∀(r i m:Nat) (acc:Nat),i+r=l.length->r<m->EQ acc->(l.drop i).foldl (fun acc y=>acc*y%23) acc=LI l->sX x m (.ptr b 0) (nu acc) v (ni l.length) (ni i) S K:=by
 intro r;induction r with
 | zero=>
  intro i m acc hi hm h6 he;obtain⟨m,rfl⟩:=bH (show m≠0 by omega);rw [HI];unfold yC;refine aF ?_;rw [aQ,jM (by omega),bE];rw [oW (by omega)]at he;have he:acc=LI l:=he;rw [he];exact bL hle hK
 | succ r ih=>
  intro i m acc hi hm h6 he;obtain⟨m,rfl⟩:=bH (show m≠0 by omega);rw [HI];unfold yC;refine aF ?_;have hlt:i<l.length:=by omega
  obtain⟨p,hp,PZ⟩:=h.at (i:=i) (aT hlt);rw [aQ,zJ hlt,bW,hp,PZ S (.refl S),aY,cT hb rfl];refine PA hx h6 (TV _ (cO hlt)) qP ?_;rw [bG (by omega)];refine ih (i+1) m _ (by omega) (by omega) (Xu qP) ?_;rw [mB hlt]at he;exact he
theorem WA (hM:1000000<M) (hx:Deep PP bK gM M (n+2) x){v:V}{l:List Nat} (h:NV S v l) (TV:LC l) (hl:l.length<1000000) (hK:K (nu (LI l)) S):x.call lG [.agg (pv two),v] S K:=by
 refine hx.call aIv fun y hy=>?_;rw [Se];unfold ZB;refine cC jN fun b hb=>?_;rw [aY,cT (o:=0) aB rfl];refine PA hy (by decide) (by decide) qP ?_;have hle:bU S (aL S b (.row (pv two) 29)):= .aK hb;rw [(h.up hle).len,hy.most];exact aGd hy hle (h.up hle) TV hl aB hK l.length 0 M _ (by omega) (by omega) (by decide) rfl
theorem He{a b:Nat} (hk:∀j,S j=none->K (.own j 0 2 2) (aL S j (.row (oD [a,b]) 22))):aS 22 2 [(.int .u64 (.ofNat 0))] [(0,1,nu a),(1,1,nu b)] S K:=⟨rfl,by simp,rfl,by simp [bA],fun j hj=>hk j hj⟩
theorem aIx (hM:1000000<M) (hx:Deep PP bK gM M (n+3) x){sd B:Nat} (hS:EQ sd) (hB:EQ B) (hK:K (nu (com sd B)) S):x.call DX [.agg (pv two),.agg [nu sd,nu B]] S K:=by
 refine hx.call aIw fun y hy=>?_;rw [Om];unfold WB;refine cC jN fun b hb=>?_;have dL:bU S (aL S b (.row (pv two) 29)):= .aK hb;have rb:aL S b (.row (pv two) 29) b=some (.row (pv two) 29):=aB;generalize aL S b (.row (pv two) 29)=S1 at dL rb;refine cC rfl fun c hc=>?_;have fO:bU S1 (aL S1 c (.row [nu sd,nu B] 145)):= .aK hc;have rc:aL S1 c (.row [nu sd,nu B] 145) c=some (.row [nu sd,nu B] 145):=aB;generalize aL S1 c (.row [nu sd,nu B] 145)=S2 at fO rc;have rb:=fO _ _ rb;have le:=dL.trans fO
 have all:∀{K:KV},bR 12 (.ptr b 0) S2 K=K (.agg (pv two)) S2:=fun {K}=>by
  unfold bR;simp only [rb];rw [dR (by rw [BR];omega),xO,mC (by rw [BR];omega)]
 have same:∀{p:Prop},aU (.agg (pv two)) (.agg (pv two)) p=p:=fun {p}=>cN rfl;have l2:∀{K:KV},aW (.ptr b 2) S2 K=K (nu 4) S2:=cT rb rfl;have l3:∀{K:KV},aW (.ptr b 3) S2 K=K (nu 9) S2:=cT rb rfl;have l0:∀{K:KV},aW (.ptr c 0) S2 K=K (nu sd) S2:=cT rc rfl;have l1:∀{K:KV},aW (.ptr c 1) S2 K=K (nu B) S2:=cT rc rfl;simp only [all,aY,l2,l3,l0,l1];refine Dy hy (by decide) hS ?_;simp only [all,l3,l1,same,cE];refine Dy hy (by decide) hB ?_;simp only [all,same];have p1:=aEJ 4 sd;have p2:=aEJ 9 B;refine⟨He fun j hj=>trivial,He fun j hj=>?_⟩;refine WA hM hy (.own (l:=[pw 4 sd,pw 9 B]) aB (fun i z h=>by rw [eJ];exact IJ h) (by rw [oE];simp)) (fun z hz=>?_) (by simp) ?_
 ·rcases List.mem_cons.1 hz with rfl | hz
  ·unfold EQ;omega
  ·rcases List.mem_cons.1 hz with rfl | hz
   ·unfold EQ;omega
   ·cases hz
 ·exact bL (le.trans (.aK hj)) hK
end
inductive NL (S0 S:Hp):V->List Nat->Prop
 | val {O:Tag} {l:List Nat}:NL S0 S (.list O (kK l) l.length) l
 | made {w:V} {l:List Nat} (h:MN S0 S w l):NL S0 S w l
section
variable{S0 S S':Hp}{w v:V}{l:List Nat}{ls:List (List Nat)}
theorem NL.nv (h:NL S0 S w l):NV S w l:=by cases h with | val=>exact .list | made h=>exact h.nv
theorem NL.Bd (h:NL S0 S w l):Du S0 S w (.list (kK l) l.length):=by cases h with | val=>exact .list | made h=>exact h.Bd
theorem NL.one (h:NL S0 S w l):gB w=true:=by cases h with | val=>rfl | made h=>cases h<;>rfl
theorem NL.but{i:Nat} (h:NL S0 S w l) (hs:∀j o,j≠i->S j=some o->S' j=some o) (h1:∀vs m,S i≠some (.gD vs 22 m)) (h2:∀vs,S i≠some (.row vs 22)):NL S0 S' w l:=by
 cases h with
 | val=>exact .val
 | made h=>
  refine .made ?_;cases h with
  | nil=>exact .nil
  | acc h0 h=>exact .acc h0 (hs _ _ (fun c=>by rw [c]at h;exact h1 _ _ h) h)
  | own h0 h=>exact .own h0 (hs _ _ (fun c=>by rw [c]at h;exact h2 _ h) h)
theorem NL.up (h:NL S0 S w l) (hle:bU S S'):NL S0 S' w l:=by cases h with | val=>exact .val | made h=>exact .made (h.up hle)
inductive ML (S0 S:Hp):V->List (List Nat)->Prop
 | nil:ML S0 S .nil []
 | acc {i:Nat} {vs:List V} {ls:List (List Nat)} (h0:S0 i=none) (h:S i=some (.gD vs 51 ls.length)) (hl:vs.length=ls.length) (hv:∀(j:Nat) (l:List Nat),ls[j]? =some l->∃w,vs[j]? =some w/\NL S0 S w l):ML S0 S (.acc i ls.length) ls
theorem ML.len (h:ML S0 S v ls){K:V->Prop}:bP v K=K (ni ls.length):=by cases h<;>rfl
theorem ML.up (h:ML S0 S v ls) (hle:bU S S'):ML S0 S' v ls:=by
 cases h with
 | nil=>exact .nil
 | acc h0 h hl hv=>exact .acc h0 (hle _ _ h) hl fun j l e=>by obtain⟨w,a,b⟩:=hv j l e;exact⟨w,a,b.up hle⟩
theorem ML.at (h:ML S0 S v ls){i:Nat} (hi:ls[i]? =some l):∃p w,(∀(j:IntKind) (K:V->Prop),cV 1 v (.int j (.ofNat i)) K=K p)/\(∀S',bU S S'->∀K:KV,aW p S' K=K w S')/\NL S0 S w l:=by
 have hlt:i<ls.length:=(List.getElem?_eq_some_iff.1 hi).1;cases h with
 | nil=>cases hi
 | @acc b vs _ h0 h hl hv=>
  obtain⟨w,a,q⟩:=hv i l hi;refine⟨.wL b ls.length (i*1),w,fun j K=>KZ hlt,fun S' hle K=>?_,q⟩;rw [kX];unfold aW;simp only [hle _ _ h,cX a,true_and]
theorem ML.Bd (h:ML S0 S v ls):Du S0 S v (.list (ls.map fun l=> .list (kK l) l.length) ls.length):=by
 cases h with
 | nil=>exact .nil
 | acc h0 h hl hv=>
  refine .acc h h0 (by rw [hl,mE]) fun j v d a b=>?_;rw [eH]at b;cases hq:ls[j]? with
  | none=>rw [hq]at b;cases b
  | some l=>
   rw [hq]at b;injection b with b;subst b;obtain⟨w,a2,q⟩:=hv j l hq;rw [a]at a2;injection a2 with a2;subst a2;exact q.Bd
theorem ML.app (h:ML S0 S v ls) (hs:bU S0 S) (hl:ls.length<=1000000) (hw:NL S0 S w l){K:KV}
 (hk:∀u S',bU S0 S'->(∀j o,S j=some o->(∀vs m,o≠ .gD vs 51 m)->S' j=some o)->ML S0 S' u (ls++[l])->gB u=true->K u S'):aS 51 1 [(.slice none 0 0)] [(0,1,w)] S fun v2 S=>jW 51 1 24 v v2 S K:=by
 have hc:∀{p:List V->Prop},wM w p=p [w]:=fun {p}=>by
  have:=hw.one;cases w<;>first | rfl | cases this
 have hz:LB [(.slice none 0 0)]=some [.nil]:=rfl;unfold aS rR;rw [hz];show iF [(0,1,w)] [.nil] _;unfold iF;rw [hc];refine⟨rfl,by simp,?_⟩;unfold iF;intro j hj;have hj0:S0 j=none:=hs.none hj;have xK:bU S (aL S j (.row [w] 51)):= .aK hj;show jW 51 1 24 v (.own j 0 1 1) (aL S j (.row (bA 0 [w] [.nil]) 51)) K;have e:bA 0 [w] [V.nil]=[w]:=rfl;rw [e];refine LA (m:=1) aB rfl ?_;refine⟨by simp [hw.one],?_⟩;have hwj:=hw.up xK;cases h with
 | nil=>
  refine⟨by decide,fun i hi=>?_⟩;have uA:bU (aL S j (.row [w] 51)) (aL (aL S j (.row [w] 51)) i (.gD [w] 51 1)):= .aK hi;refine hk _ _ ((hs.trans xK).trans uA) (fun q o e _=>uA _ _ (xK _ _ e)) (.acc (ls:=[l]) ((hs.trans xK).none hi) aB rfl fun q l' e=>?_) rfl
  match q,e with
  | 0,e=>injection e with e;subst e;exact⟨w,rfl,hwj.up uA⟩
  | q+1,e=>cases e
 | @acc i vs _ h0 h FN hv=>
  have oM:j≠i:=fun e=>by rw [e,h]at hj;cases hj
  have h':aL S j (.row [w] 51) i=some (.gD vs 51 ls.length):=by rw [aC (aP oM)];exact h
  simp only [h'];refine⟨trivial,trivial,by omega,by omega,?_⟩;have el:ls.length+(0+1)=(ls++[l]).length:=by simp
  rw [el];have uA:∀q o,q≠i->S q=some o->aL (aL S j (.row [w] 51)) i (.gD (vs++[w]) 51 (ls++[l]).length) q=some o:=fun q o hq e=>by rw [aC hq];exact xK _ _ e
  have hn1:∀vs m,S i≠some (.gD vs 22 m):=fun vs m c=>by rw [h]at c;cases c
  have hn2:∀vs,S i≠some (.row vs 22):=fun vs c=>by rw [h]at c;cases c
  refine hk _ _ (fun q o e=>uA q o (fun c=>by rw [c,h0]at e;cases e) (hs _ _ e)) (fun q o e xL=>uA q o (fun c=>by rw [c,h]at e;injection e with e;exact xL _ _ e.symm) e) (.acc h0 aB (by simp [FN]) fun q l' e=>?_) rfl;rcases BI q ls.length with hq | hq
  ·rw [gO hq]at e
   obtain⟨u,a,b⟩:=hv q l' e;exact⟨u,by rw [gO (by omega)];exact a,b.but uA hn1 hn2⟩
  ·have hq':q=ls.length:=by
    have:=(List.getElem?_eq_some_iff.1 e).1;simp at this;omega
   subst hq';simp at e;subst e;exact⟨w,by rw [kH (by omega),FN];simp,hw.but uA hn1 hn2⟩
end
end Go.Am
set_option maxRecDepth 4000
namespace Go.Am
theorem NL.same{S0 S:Hp}{v:V}{l:List Nat} (h:NL S0 S v l):DU v=true:=by
 cases h with
 | val=>rfl
 | made h=>cases h<;>rfl
theorem ML.same{S0 S:Hp}{v:V}{l:List (List Nat)} (h:ML S0 S v l):DU v=true:=by cases h<;>rfl
theorem ML.one{S0 S:Hp}{v:V}{l:List (List Nat)} (h:ML S0 S v l):gB v=true:=by cases h<;>rfl
inductive RL (S0 S:Hp):V->List (List Nat)->Prop
 | ml {v:V} {ls:List (List Nat)} (h:ML S0 S v ls):RL S0 S v ls
 | val {t:Tag} {ls:List (List Nat)}:RL S0 S (.list t (ls.map fun l=> .list (kK l) l.length) ls.length) ls
theorem RL.same{S0 S:Hp}{v:V}{l:List (List Nat)} (h:RL S0 S v l):DU v=true:=by cases h with | ml h=>exact h.same | val=>rfl
theorem RL.one{S0 S:Hp}{v:V}{l:List (List Nat)} (h:RL S0 S v l):gB v=true:=by cases h with | ml h=>exact h.one | val=>rfl
theorem RL.len{S0 S:Hp}{v:V}{l:List (List Nat)} (h:RL S0 S v l){K:V->Prop}:bP v K=K (ni l.length):=by cases h with | ml h=>exact h.len | val=>rfl
theorem RL.up{S0 S S':Hp}{v:V}{l:List (List Nat)} (h:RL S0 S v l) (hle:bU S S'):RL S0 S' v l:=by cases h with | ml h=>exact .ml (h.up hle) | val=>exact .val
theorem RL.at{S0 S:Hp}{v:V}{ls:List (List Nat)}{l:List Nat} (h:RL S0 S v ls){i:Nat} (hi:ls[i]? =some l):∃p w,(∀(j:IntKind) (K:V->Prop),cV 1 v (.int j (.ofNat i)) K=K p)/\(∀S',bU S S'->∀K:KV,aW p S' K=K w S')/\NL S0 S w l:=by
 cases h with
 | ml h=>exact h.at hi
 | @val t _=>
  have hlt:i<ls.length:=(List.getElem?_eq_some_iff.1 hi).1;refine⟨.uB t (ls.map fun l=> .list (kK l) l.length) (i*1),.list (.sub t (i*1)) (kK l) l.length,fun j K=>jL hlt,fun S' hle K=>?_,.val⟩;rw [kX,yA];have e:(ls.map fun l=>Dt.list (kK l) l.length)[i]? =some (.list (kK l) l.length):=by rw [eH,hi];rfl
  rw [cX e];rfl
theorem MN.base{S0 S1 S:Hp}{w:V}{l:List Nat} (h:MN S1 S w l) (hle:bU S0 S1):MN S0 S w l:=by
 cases h with
 | nil=>exact .nil
 | acc h0 h=>exact .acc (hle.none h0) h
 | own h0 h=>exact .own (hle.none h0) h
theorem MN.same{S0 S:Hp}{w:V}{l:List Nat} (h:MN S0 S w l):DU w=true:=by cases h<;>rfl
theorem MN.one{S0 S:Hp}{w:V}{l:List Nat} (h:MN S0 S w l):gB w=true:=by cases h<;>rfl
theorem YG{t:TypeId}{v:V}{S:Hp}{K:KV} (h1:gB v=true) (hk:∀i,S i=none->K (.ptr i 0) (aL S i (.row [v] t))):iG t v S K:=by
 unfold iG;have hc:∀{p:List V->Prop},wM v p=p [v]:=fun {p}=>by cases v<;>first | rfl | cases h1
 rw [hc];exact hk
theorem aCV{a:Nat}{K:V->Prop}:Bg true (ni a) (ni a) K=K (ni a):=by
 show K (.int .i64 (max (Int.ofNat a) (Int.ofNat a)))=_;rw [Int.max_self]
section
variable{M n:Nat}{x:VE}{S S0:Hp}{K:KV}
theorem aRb:gM nQ=none:=rfl
theorem aRc:gM jJ=none:=rfl
theorem aTi:gM oF=none:=rfl
theorem aTj:gM kE=none:=rfl
theorem aRd:gM gI=none:=rfl
theorem aRe:gM eK=none:=rfl
theorem aOM:gM aR=none:=rfl
theorem aNs (hx:Deep PP bK gM M (n+1) x){v:V}{l:List Nat} (h:NV S v l){i:Nat} (hi:i<l.length) (hK:K (nu l[i]) S):x.call nQ [v,ni i] S K:=by
 refine hx.call aRb fun y hy=>?_;rw [WC];unfold HJ;obtain⟨p,hp,PZ⟩:=h.at (i:=i) (aT hi);rw [h.len,zX,bO (by omega),bE,hp,PZ S (.refl S)];exact aM hK
theorem aNt (hx:Deep PP bK gM M (n+1) x){v:V}{ls:List (List Nat)} (h:RL S0 S v ls){i:Nat} (hi:i<ls.length) (hK:∀w,NL S0 S w ls[i]->K w S):x.call jJ [v,ni i] S K:=by
 refine hx.call aRc fun y hy=>?_;rw [MG];unfold zK;obtain⟨p,w,hp,PZ,hw⟩:=h.at (i:=i) (aT hi);rw [h.len,zX,bO (by omega),bE,hp,PZ S (.refl S)];exact aM (hK w hw)
theorem aIy (hx:Deep PP bK gM M (n+1) x){v w:V} (h1:gB v=true) (h2:gB w=true) (hK:∀b1 b2 S',S b1=none->S b2=none->b1≠b2->bU S S'->S' b1=some (.row [v] 51)->S' b2=some (.row [w] 51)->K (.func gI [] [.ptr b1 0,.ptr b2 0]) S'):x.call oF [v,w] S K:=by
 refine hx.call aTi fun y hy=>?_;rw [PD];unfold CJ;refine YG h1 fun b1 By=>YG h2 fun b2 MP=>aM ?_;have dL:bU S (aL S b1 (.row [v] 51)):= .aK By;have oM:b1≠b2:=fun e=>by rw [<-e,aB]at MP;cases MP
 exact hK b1 b2 _ By (dL.none MP) oM (dL.trans (.aK MP)) (by rw [aC oM];exact aB) aB
theorem aIz (hx:Deep PP bK gM M (n+1) x){v w:V} (h1:gB v=true) (h2:gB w=true) (hK:∀b1 b2 S',S b1=none->S b2=none->b1≠b2->bU S S'->S' b1=some (.row [v] 33)->S' b2=some (.row [w] 33)->K (.func eK [] [.ptr b1 0,.ptr b2 0]) S'):x.call kE [v,w] S K:=by
 refine hx.call aTj fun y hy=>?_;rw [IM];unfold vS;refine YG h1 fun b1 By=>YG h2 fun b2 MP=>aM ?_;have dL:bU S (aL S b1 (.row [v] 33)):= .aK By;have oM:b1≠b2:=fun e=>by rw [<-e,aB]at MP;cases MP
 exact hK b1 b2 _ By (dL.none MP) oM (dL.trans (.aK MP)) (by rw [aC oM];exact aB) aB
theorem aIA (hM:1000000<M) (hx:Deep PP bK gM M (n+3) x){l b1 b2:Nat}{va vb:V}{a b:List Nat} (hlen:b.length=a.length) (hl:a.length<1000000){Inv:Nat->Hp->Prop} (hI:∀i S,Inv i S->S b1=some (.row [va] 51)/\S b2=some (.row [vb] 51)/\NV S va a/\NV S vb b) (hv:DU vb=true)
 (step:∀(y:VE),Deep PP bK gM M (n+2) y->∀(i:Nat) (S:Hp) (h1:i<a.length) (h2:i<b.length) (K:KV),Inv i S->(∀S',Inv (i+1) S'->K (.bool true) S')->y.R l [nu a[i],nu b[i]] S K) (h0:Inv 0 S) (hK:∀S,Inv a.length S->K (.tuple []) S):x.call gI [.yield l,.ptr b1 0,.ptr b2 0] S K:=by
 refine hx.call aRd fun y hy=>?_;rw [MH];unfold zM;obtain⟨q1,q2,q3,q4⟩:=hI 0 S h0;rw [cT q1 rfl,q3.len,cT q2 rfl,q4.len,hlen,aCV,hy.most]
 have:∀(r i m:Nat) (S:Hp),i+r=a.length->r<m->Inv i S->kF y m (.yield l) (.ptr b1 0) (.ptr b2 0) (ni a.length) (ni i) S K:=by
  intro r;induction r with
  | zero=>
   intro i m S hi hm h;obtain⟨m,rfl⟩:=bH (show m≠0 by omega);rw [uK];unfold nR;refine aF ?_;rw [aQ,jM (by omega),bE];have e:i=a.length:=by omega
   subst e;exact aM (hK S h)
  | succ r ih=>
   intro i m S hi hm h;obtain⟨m,rfl⟩:=bH (show m≠0 by omega);rw [uK];unfold nR;refine aF ?_;obtain⟨q1,q2,q3,q4⟩:=hI i S h;rw [aQ,zJ (by omega),bW,cT q1 rfl,cT q2 rfl];refine aNs hy q3 (show i<a.length by omega) ?_;rw [cT q2 rfl,cN hv];refine aNs hy q4 (show i<b.length by omega) ?_;refine step y hy i S _ _ _ h fun S' h'=>?_;rw [rC,fL,bE,bG (by omega)];exact ih (i+1) m S' (by omega) (by omega) h'
 exact this a.length 0 M S (by omega) (by omega) h0
theorem aIB (hM:1000000<M) (hx:Deep PP bK gM M (n+3) x){l b1 b2:Nat}{va vb:V}{a b:List (List Nat)} (hlen:b.length=a.length) (hl:a.length<1000000){Inv:Nat->Hp->Prop}{Oa:Hp} (hI:∀i S,Inv i S->S b1=some (.row [va] 33)/\S b2=some (.row [vb] 33)/\RL Oa S va a/\RL Oa S vb b)
 (step:∀(y:VE),Deep PP bK gM M (n+2) y->∀(i:Nat) (S:Hp) (h1:i<a.length) (h2:i<b.length) (u w:V) (K:KV),Inv i S->NL Oa S u a[i]->NL Oa S w b[i]->(∀S',Inv (i+1) S'->K (.bool true) S')->y.R l [u,w] S K) (h0:Inv 0 S) (hK:∀S,Inv a.length S->K (.tuple []) S):x.call eK [.yield l,.ptr b1 0,.ptr b2 0] S K:=by
 refine hx.call aRe fun y hy=>?_;rw [FW];unfold tG;obtain⟨q1,q2,q3,q4⟩:=hI 0 S h0;rw [cT q1 rfl,q3.len,cT q2 rfl,q4.len,hlen,aCV,hy.most]
 have:∀(r i m:Nat) (S:Hp),i+r=a.length->r<m->Inv i S->gV y m (.yield l) (.ptr b1 0) (.ptr b2 0) (ni a.length) (ni i) S K:=by
  intro r;induction r with
  | zero=>
   intro i m S hi hm h;obtain⟨m,rfl⟩:=bH (show m≠0 by omega);rw [pQ];unfold kL;refine aF ?_;rw [aQ,jM (by omega),bE];have e:i=a.length:=by omega
   subst e;exact aM (hK S h)
  | succ r ih=>
   intro i m S hi hm h;obtain⟨m,rfl⟩:=bH (show m≠0 by omega);rw [pQ];unfold kL;refine aF ?_;obtain⟨q1,q2,q3,q4⟩:=hI i S h;rw [aQ,zJ (by omega),bW,cT q1 rfl,cT q2 rfl];refine aNt hy q3 (show i<a.length by omega) fun u hu=>?_;rw [cT q2 rfl,cN q4.same];refine aNt hy q4 (show i<b.length by omega) fun w hw=>?_;refine step y hy i S (by omega) (by omega) u w _ h hu hw fun S' h'=>?_;rw [rC,fL,bE,bG (by omega)];exact ih (i+1) m S' (by omega) (by omega) h'
 exact this a.length 0 M S (by omega) (by omega) h0
end
def BT (f r:List Nat):List Nat:=List.zipWith com f r
def iQ (fs rs:List (List Nat)):List (List Nat):=List.zipWith BT fs rs
section
variable{M n:Nat}{x:VE}{S S0:Hp}{K:KV}{two:Bool}
def loO (a b:Nat) (st:LoopState):Ob:= .loop [3,7] [.ptr a 0,.ptr b 0] 36 (DY PP aR [.r,.r,.l,.r,.d]) (DZ PP aR [.r,.r,.l,.r,.d]) (yU PP aR [.r,.r,.l,.r,.d]) st none
def loI (a b:Nat) (st:LoopState):Ob:= .loop [3,10] [.ptr a 0,.ptr b 0] 36 (DY PP aR [.r,.r,.l,.r,.d,.d,.d,.r,.l,.r,.d]) (DZ PP aR [.r,.r,.l,.r,.d,.d,.d,.r,.l,.r,.d]) (yU PP aR [.r,.r,.l,.r,.d,.d,.d,.r,.l,.r,.d]) st none
theorem EV{S1 S:Hp}{i:Nat}{o:Ob} (h:bU S1 S) (h0:S1 i=none):bU S1 (aL S i o):=fun q p e=>by rw [aC (fun c=>by rw [c,h0]at e;cases e)];exact h q p e
structure aLN (S1:Hp) (bv l2 b3 b4 bp:Nat) (fa fb:V) (f r:List Nat) (i:Nat) (S:Hp):Prop where
 le:bU S1 S
 n1:S1 bv=none
 n2:S1 l2=none
 u:∃u,S bv=some (.row [u] 51)/\MN S1 S u ((BT f r).take i)
 lo:S l2=some (loI bp bv .ready)
 r3:S b3=some (.row [fa] 51)
 r4:S b4=some (.row [fb] 51)
 d1:bv≠l2
 d2:bv≠b3
 d3:bv≠b4
 d4:l2≠b3
 d5:l2≠b4
theorem MN.set{S1 S:Hp}{u:V}{l:List Nat} (h:MN S1 S u l){i:Nat}{o p:Ob} (hi:S i=some p) (h1:∀vs m,p≠ .gD vs 22 m) (h2:∀vs,p≠ .row vs 22):MN S1 (aL S i o) u l:=by
 cases h with
 | nil=>exact .nil
 | acc h0 h=>exact .acc h0 (by rw [aC (fun c=>by rw [c,hi]at h;injection h with h;exact h1 _ _ h)];exact h)
 | own h0 h=>exact .own h0 (by rw [aC (fun c=>by rw [c,hi]at h;injection h with h;exact h2 _ h)];exact h)
theorem aBf{f r:List Nat}{i:Nat} (h1:i<f.length) (h2:i<r.length):(BT f r).take (i+1)=(BT f r).take i++[com f[i] r[i]]:=by
 have hl:i<(List.zipWith com f r).length:=by rw [uO];omega
 show(List.zipWith com f r).take (i+1)=(List.zipWith com f r).take i++[com f[i] r[i]];rw [KA,aT hl,Lv];rfl
theorem aCW (hM:1000000<M) (hx:Deep PP bK gM M (n+5) x){S1:Hp}{bv l2 b3 b4 bp:Nat}{fa fb:V}{f r:List Nat} (hf:LC f) (hr:LC r) (QL:f.length<100000) (Oj:S1 bp=some (.row (pv two) 29)){i:Nat}{S:Hp} (h1:i<f.length) (h2:i<r.length){K:KV} (h:aLN S1 bv l2 b3 b4 bp fa fb f r i S)
 (hK:∀S',aLN S1 bv l2 b3 b4 bp fa fb f r (i+1) S'->K (.bool true) S'):x.R l2 [nu f[i],nu r[i]] S K:=by
 refine hx.round fun y hy=>?_;refine PE (st:= .ready) (pe:=none) h.lo JO ?_;rw [JP];unfold vT;refine WD h.lo ?_;obtain⟨u,hu,mu⟩:=h.u;have hbz:aL S l2 (.loop [3,10] [.ptr bp 0,.ptr bv 0] 36 (DY PP aR [.r,.r,.l,.r,.d,.d,.d,.r,.l,.r,.d]) (DZ PP aR [.r,.r,.l,.r,.d,.d,.d,.r,.l,.r,.d]) (yU PP aR [.r,.r,.l,.r,.d,.d,.d,.r,.l,.r,.d]) .busy none)=aL S l2 (loI bp bv .busy):=rfl;rw [hbz];have k1:bU S1 (aL S l2 (loI bp bv .busy)):=EV h.le h.n2;have kl:aL S l2 (loI bp bv .busy) l2=some (loI bp bv .busy):=aB;have ku:aL S l2 (loI bp bv .busy) bv=some (.row [u] 51):=by rw [aC h.d1];exact hu
 have k3:aL S l2 (loI bp bv .busy) b3=some (.row [fa] 51):=by rw [aC (aP h.d4)];exact h.r3
 have k4:aL S l2 (loI bp bv .busy) b4=some (.row [fb] 51):=by rw [aC (aP h.d5)];exact h.r4
 have km:MN S1 (aL S l2 (loI bp bv .busy)) u ((BT f r).take i):=mu.set h.lo (fun vs m e=>by cases e) (fun vs e=>by cases e);generalize aL S l2 (loI bp bv .busy)=S2 at k1 kl ku k3 k4 km;have rb:=k1 _ _ Oj
 have all:∀{K:KV},bR 12 (.ptr bp 0) S2 K=K (.agg (pv two)) S2:=fun {K}=>by
  unfold bR;simp only [rb];rw [dR (by rw [BR];omega),xO,mC (by rw [BR];omega)]
 have lu:∀{K:KV},aW (.ptr bv 0) S2 K=K u S2:=cT ku rfl;have su:∀{p:Prop},aU u u p=p:=fun {p}=>cN km.same
 have b1:cS [(.int .u64 (.ofNat 0)),(.int .u64 (.ofNat 0))] [(0,1,nu f[i]),(1,1,nu r[i])]=fun K:V->Prop=>K (.agg [nu f[i],nu r[i]]):=by
  funext K
  apply propext;constructor
  ·intro hv;exact hv.2.2.2.2
  ·intro hv;exact⟨rfl,by simp,rfl,by simp [bA],hv⟩
 rw [lu,all,b1];refine aIx hM hy (hf _ (cO h1)) (hr _ (cO h2)) ?_;simp only [lu,su];refine⟨⟨rfl,by simp,fun j hj=>trivial⟩,?_⟩;refine km.app k1 (by rw [mU];omega) fun w S3 l3 p3 m3=>?_;rw [<-aBf h1 h2]at m3;have q:∀{j:Nat} {ob:Ob},S2 j=some ob->(∀vs m,ob≠ .gD vs 22 m)->S3 j=some ob:=fun e xL=>p3 _ _ e xL;have u3:=q ku (fun vs m e=>by cases e);rw [DV u3 (by simp) m3.one];have l4:aL S3 bv (.row ([u].set 0 w) 51) l2=some (loI bp bv .busy):=by rw [aC (aP h.d1)];exact q kl (fun vs m e=>by cases e)
 refine WE l4 (hK _ ⟨EV (EV l3 h.n1) h.n2,h.n1,h.n2,⟨w,by rw [aC h.d1];exact aB,?_⟩,aB,?_,?_,h.d1,h.d2,h.d3,h.d4,h.d5⟩)
 ·exact(m3.set u3 (fun vs m e=>by cases e) (fun vs e=>by cases e)).set l4 (fun vs m e=>by cases e) (fun vs e=>by cases e)
 ·rw [aC (aP h.d4),aC (aP h.d2)];exact q k3 (fun vs m e=>by cases e)
 ·rw [aC (aP h.d5),aC (aP h.d3)];exact q k4 (fun vs m e=>by cases e)
end
set_option maxRecDepth 4000
theorem NL.set{S1 S:Hp}{u:V}{l:List Nat} (h:NL S1 S u l){i:Nat}{o p:Ob} (hi:S i=some p) (h1:∀vs m,p≠ .gD vs 22 m) (h2:∀vs,p≠ .row vs 22):NL S1 (aL S i o) u l:=by
 cases h with
 | val=>exact .val
 | made h=>exact .made (h.set hi h1 h2)
theorem ML.set{S1 S:Hp}{u:V}{l:List (List Nat)} (h:ML S1 S u l){i:Nat}{o p:Ob} (hi:S i=some p) (h0:∀vs m,p≠ .gD vs 51 m) (h1:∀vs m,p≠ .gD vs 22 m) (h2:∀vs,p≠ .row vs 22):ML S1 (aL S i o) u l:=by
 cases h with
 | nil=>exact .nil
 | acc q0 q hl hv=>exact .acc q0 (by rw [aC (fun c=>by rw [c,hi]at q;injection q with q;exact h0 _ _ q)];exact q) hl fun j l e=>by obtain⟨w,a,b⟩:=hv j l e;exact⟨w,a,b.set hi h1 h2⟩
section
variable{M n:Nat}{x:VE}{K:KV}{two:Bool}
structure aLO (SA:Hp) (bp bo b1 b2 l:Nat) (two:Bool) (vf vr:V) (fs rs:List (List Nat)) (i:Nat) (S:Hp):Prop where
 le:bU SA S
 n1:SA bo=none
 n2:SA l=none
 rp:S bp=some (.row (pv two) 29)
 u:∃u,S bo=some (.row [u] 33)/\ML SA S u ((iQ fs rs).take i)
 lo:S l=some (loO bp bo .ready)
 r1:S b1=some (.row [vf] 33)
 r2:S b2=some (.row [vr] 33)
 d1:bo≠l
 d2:bo≠b1
 d3:bo≠b2
 d4:l≠b1
 d5:l≠b2
 d6:bo≠bp
 d7:l≠bp
theorem aCX{f r:List (List Nat)}{i:Nat} (h1:i<f.length) (h2:i<r.length):(iQ f r).take (i+1)=(iQ f r).take i++[BT f[i] r[i]]:=by
 have hl:i<(List.zipWith BT f r).length:=by rw [uO];omega
 show(List.zipWith BT f r).take (i+1)=(List.zipWith BT f r).take i++[BT f[i] r[i]];rw [KA,aT hl,Lv];rfl
theorem gF{S:Hp}{i j:Nat}{o:Ob} (h1:S i=none) (h2:S j=some o):i≠j:=fun e=>by rw [e,h2]at h1;cases h1
theorem aCY (hM:1000000<M) (hx:Deep PP bK gM M (n+10) x){SA O:Hp}{bp bo b1 b2 l:Nat}{vf vr:V}{fs rs:List (List Nat)} (hf:∀q∈fs,LC q) (hr:∀q∈rs,LC q) (QL:∀q∈fs,q.length<100000) (VZ:fs.length<100000){i:Nat}{S:Hp} (h1:i<fs.length) (h2:i<rs.length) (heq:rs[i].length=fs[i].length){u w:V}{K:KV}
 (h:aLO SA bp bo b1 b2 l two vf vr fs rs i S) (hu:NL O S u fs[i]) (hw:NL O S w rs[i]) (hK:∀S',aLO SA bp bo b1 b2 l two vf vr fs rs (i+1) S'->K (.bool true) S'):x.R l [u,w] S K:=by
 have f64:=hf _ (cO h1);have r64:=hr _ (cO h2);have fl:=QL _ (cO h1);refine hx.round fun y hy=>?_;refine PE (st:= .ready) (pe:=none) h.lo TW ?_;rw [TX];unfold EA;refine WD h.lo ?_;obtain⟨v,hv,mv⟩:=h.u;have hbz:aL S l (.loop [3,7] [.ptr bp 0,.ptr bo 0] 36 (DY PP aR [.r,.r,.l,.r,.d]) (DZ PP aR [.r,.r,.l,.r,.d]) (yU PP aR [.r,.r,.l,.r,.d]) .busy none)=aL S l (loO bp bo .busy):=rfl;rw [hbz];have k1:bU SA (aL S l (loO bp bo .busy)):=EV h.le h.n2;have kl:aL S l (loO bp bo .busy) l=some (loO bp bo .busy):=aB;have ko:aL S l (loO bp bo .busy) bo=some (.row [v] 33):=by rw [aC h.d1];exact hv
 have kp:aL S l (loO bp bo .busy) bp=some (.row (pv two) 29):=by rw [aC (aP h.d7)];exact h.rp
 have k3:aL S l (loO bp bo .busy) b1=some (.row [vf] 33):=by rw [aC (aP h.d4)];exact h.r1
 have k4:aL S l (loO bp bo .busy) b2=some (.row [vr] 33):=by rw [aC (aP h.d5)];exact h.r2
 have km:ML SA (aL S l (loO bp bo .busy)) v ((iQ fs rs).take i):=mv.set h.lo (fun vs m e=>by cases e) (fun vs m e=>by cases e) (fun vs e=>by cases e);have hu:=hu.set (o:=loO bp bo .busy) h.lo (fun vs m e=>by cases e) (fun vs e=>by cases e);have hw:=hw.set (o:=loO bp bo .busy) h.lo (fun vs m e=>by cases e) (fun vs e=>by cases e);generalize aL S l (loO bp bo .busy)=S1 at k1 kl ko kp k3 k4 km hu hw;refine cG rfl fun bv hbv=>?_;have fO:bU S1 (aL S1 bv (.row [.nil] 51)):= .aK hbv;have rv:aL S1 bv (.row [.nil] 51) bv=some (.row [.nil] 51):=aB;generalize aL S1 bv (.row [.nil] 51)=S2 at fO rv;have hu2:=hu.up fO;have hw2:=hw.up fO;refine aIy hy hu2.one hw2.one fun b3 b4 S3 n3 n4 d34 pR r3 r4=>?_;have aON:=fO.trans pR;have l3:S3 l=some (loO bp bo .busy):=aON _ _ kl;have inl:∀{p:Prop},RF l S3 p=p:=fun {p}=>by unfold RF;rw [l3];rfl
 rw [inl];refine PF fun l2 FN=>?_;have rv3:=pR _ _ rv;have hlo:aL S3 l2 (.loop [3,10] [.ptr bp 0,.ptr bv 0] 36 (DY PP aR [.r,.r,.l,.r,.d,.d,.d,.r,.l,.r,.d]) (DZ PP aR [.r,.r,.l,.r,.d,.d,.d,.r,.l,.r,.d]) (yU PP aR [.r,.r,.l,.r,.d,.d,.d,.r,.l,.r,.d]) .ready none)=aL S3 l2 (loI bp bv .ready):=rfl;rw [hlo]
 have q0:aLN S1 bv l2 b3 b4 bp u w fs[i] rs[i] 0 (aL S3 l2 (loI bp bv .ready)):=
  ⟨aON.trans (.aK FN),hbv,aON.none FN,⟨.nil,by rw [aC (aP (gF FN rv3))];exact rv3,.nil⟩,aB,by rw [aC (aP (gF FN r3))];exact r3,by rw [aC (aP (gF FN r4))];exact r4,
   aP (gF FN rv3),aP (gF n3 rv),aP (gF n4 rv),gF FN r3,gF FN r4⟩
 refine aIA (n:=n+6) hM hy heq (by omega) (Inv:=aLN S1 bv l2 b3 b4 bp u w fs[i] rs[i]) (fun j S q=>⟨q.r3,q.r4,(hu.up q.le).nv,(hw.up q.le).nv⟩) hw.same (fun z hz j S a b K q hk=>aCW (n:=n+3) (two:=two) hM hz f64 r64 fl kp a b q hk) q0 fun S4 q4=>?_;obtain⟨u4,ru4,m4⟩:=q4.u;have aRf:(BT fs[i] rs[i]).length=fs[i].length:=by unfold BT;rw [uO];omega
 rw [mC (by omega)]at m4;refine WF q4.lo (by simp) ?_;rw [Dz];have hex:∃ob,(∀vs m,ob≠ .gD vs 22 m)/\aL S4 l2 (.loop [3,10] [.ptr bp 0,.ptr bv 0] 36 (DY PP aR [.r,.r,.l,.r,.d,.d,.d,.r,.l,.r,.d]) (DZ PP aR [.r,.r,.l,.r,.d,.d,.d,.r,.l,.r,.d]) (yU PP aR [.r,.r,.l,.r,.d,.d,.d,.r,.l,.r,.d]) .exhausted none)=aL S4 l2 ob:=⟨_,fun vs m e=>(by cases e),rfl⟩;obtain⟨ob,_,hex⟩:=hex;rw [hex];have EW:bU S1 (aL S4 l2 ob):=EV q4.le q4.n2;have ru5:aL S4 l2 ob bv=some (.row [u4] 51):=by rw [aC q4.d1];exact ru4
 have m5:MN S1 (aL S4 l2 ob) u4 (BT fs[i] rs[i]):=m4.set q4.lo (fun vs m e=>by cases e) (fun vs e=>by cases e);generalize aL S4 l2 ob=S5 at EW ru5 m5;rw [cT (EW _ _ ko) rfl,cT ru5 rfl];refine(km.up EW).app (k1.trans EW) (by rw [mU];omega) (.made (m5.base k1)) fun u6 S6 UA p6 m6 o6=>?_;rw [<-aCX h1 h2]at m6;have q:∀{j:Nat} {o:Ob},S5 j=some o->(∀vs m,o≠ .gD vs 51 m)->S6 j=some o:=fun e xL=>p6 _ _ e xL;have o6':=q (EW _ _ ko) (fun vs m e=>by cases e);have l6:=q (EW _ _ kl) (fun vs m e=>by cases e);rw [DV o6' (by simp) o6];have l7:aL S6 bo (.row ([v].set 0 u6) 33) l=some (loO bp bo .busy):=by rw [aC (aP h.d1)];exact l6
 refine WE l7 (hK _ ⟨EV (EV UA h.n1) h.n2,h.n1,h.n2,?_,⟨u6,by rw [aC h.d1];exact aB,?_⟩,aB,?_,?_,h.d1,h.d2,h.d3,h.d4,h.d5,h.d6,h.d7⟩)
 ·rw [aC (aP h.d7),aC (aP h.d6)];exact q (EW _ _ kp) (fun vs m e=>by cases e)
 ·exact(m6.set o6' (fun vs m e=>by cases e) (fun vs m e=>by cases e) (fun vs e=>by cases e)).set l7 (fun vs m e=>by cases e) (fun vs m e=>by cases e) (fun vs e=>by cases e)
 ·rw [aC (aP h.d4),aC (aP h.d2)];exact q (EW _ _ k3) (fun vs m e=>by cases e)
 ·rw [aC (aP h.d5),aC (aP h.d3)];exact q (EW _ _ k4) (fun vs m e=>by cases e)
theorem aIC (hM:1000000<M) (hx:Deep PP bK gM M (n+15) x){SA O:Hp}{vf vr:V}{fs rs:List (List Nat)} (hf:∀q∈fs,LC q) (hr:∀q∈rs,LC q) (QL:∀q∈fs,q.length<100000) (VZ:fs.length<100000) (hlen:rs.length=fs.length) (heq:∀i (h1:i<fs.length) (h2:i<rs.length),rs[i].length=fs[i].length)
 (mf:RL O SA vf fs) (mr:RL O SA vr rs) (hK:∀u S',bU SA S'->ML SA S' u (iQ fs rs)->bF u S' K):x.call aR [.agg (pv two),vf,vr] SA K:=by
 refine hx.call aOM fun y hy=>?_;rw [Jt];unfold ST;refine cC jN fun bp Oj=>?_;have dL:bU SA (aL SA bp (.row (pv two) 29)):= .aK Oj;have rp:aL SA bp (.row (pv two) 29) bp=some (.row (pv two) 29):=aB;generalize aL SA bp (.row (pv two) 29)=S1 at dL rp;refine cG rfl fun bo Zz=>?_;have fO:bU S1 (aL S1 bo (.row [.nil] 33)):= .aK Zz;have ro:aL S1 bo (.row [.nil] 33) bo=some (.row [.nil] 33):=aB;generalize aL S1 bo (.row [.nil] 33)=S2 at fO ro;refine aIz hy mf.one mr.one fun b1 b2 S3 n1 n2 d12 pR r1 r2=>?_;refine PF fun l hl=>?_;have hlo:aL S3 l (.loop [3,7] [.ptr bp 0,.ptr bo 0] 36 (DY PP aR [.r,.r,.l,.r,.d]) (DZ PP aR [.r,.r,.l,.r,.d]) (yU PP aR [.r,.r,.l,.r,.d]) .ready none)=aL S3 l (loO bp bo .ready):=rfl;rw [hlo];have ro3:=pR _ _ ro;have Ju:=pR _ _ (fO _ _ rp);have EN:=(dL.trans fO).trans pR
 have q0:aLO SA bp bo b1 b2 l two vf vr fs rs 0 (aL S3 l (loO bp bo .ready)):=
  ⟨EN.trans (.aK hl),dL.none Zz,EN.none hl,by rw [aC (aP (gF hl Ju))];exact Ju,⟨.nil,by rw [aC (aP (gF hl ro3))];exact ro3,.nil⟩,aB,by rw [aC (aP (gF hl r1))];exact r1,by rw [aC (aP (gF hl r2))];exact r2,
   aP (gF hl ro3),aP (gF n1 ro),aP (gF n2 ro),gF hl r1,gF hl r2,gF Zz rp,gF hl Ju⟩
 refine aIB (n:=n+11) hM hy hlen (by omega) (Inv:=aLO SA bp bo b1 b2 l two vf vr fs rs) (Oa:=O) (fun j S q=>⟨q.r1,q.r2,mf.up q.le,mr.up q.le⟩) (fun z hz j S a b u w K q hu hw hk=>aCY (n:=n+3) hM hz hf hr QL VZ a b (heq j a b) q hu hw hk) q0 fun S4 q4=>?_;obtain⟨u4,ru4,m4⟩:=q4.u;have aRf:(iQ fs rs).length=fs.length:=by unfold iQ;rw [uO];omega
 rw [mC (by omega)]at m4;refine WF q4.lo (by simp) ?_;rw [Dz];obtain⟨ob,hex⟩:∃ob,aL S4 l (.loop [3,7] [.ptr bp 0,.ptr bo 0] 36 (DY PP aR [.r,.r,.l,.r,.d]) (DZ PP aR [.r,.r,.l,.r,.d]) (yU PP aR [.r,.r,.l,.r,.d]) .exhausted none)=aL S4 l ob:=⟨_,rfl⟩;rw [hex];have EW:bU SA (aL S4 l ob):=EV q4.le q4.n2;have ru5:aL S4 l ob bo=some (.row [u4] 33):=by rw [aC q4.d1];exact ru4
 have m5:ML SA (aL S4 l ob) u4 (iQ fs rs):=m4.set q4.lo (fun vs m e=>by cases e) (fun vs m e=>by cases e) (fun vs e=>by cases e);rw [cT ru5 rfl];exact hK u4 _ EW m5
theorem aOH (hM:1000000<M) (hx:Deep PP bK gM M (n+15) x){SA O:Hp}{vf vr:V}{fs rs:List (List Nat)} (hf:∀q∈fs,LC q) (hr:∀q∈rs,LC q) (QL:∀q∈fs,q.length<100000) (VZ:fs.length<100000) (hlen:rs.length=fs.length) (heq:∀i (h1:i<fs.length) (h2:i<rs.length),rs[i].length=fs[i].length)
 (mf:ML O SA vf fs) (mr:ML O SA vr rs) (hK:∀u S',bU SA S'->ML SA S' u (iQ fs rs)->K u S'):x.call aR [.agg (pv two),vf,vr] SA K:=
 aIC hM hx hf hr QL VZ hlen heq (.ml mf) (.ml mr) fun u S' h m=>aM (hK u S' h m)
theorem aLP (hM:1000000<M) (hx:Deep PP bK gM M (n+15) x){SA O:Hp}{vf vr:V}{fs rs:List (List Nat)} (hf:∀q∈fs,LC q) (hr:∀q∈rs,LC q) (QL:∀q∈fs,q.length<100000) (VZ:fs.length<100000) (hlen:rs.length=fs.length) (heq:∀i (h1:i<fs.length) (h2:i<rs.length),rs[i].length=fs[i].length)
 (mf:RL O SA vf fs) (mr:RL O SA vr rs) (hK:∀t,K (.list t ((iQ fs rs).map fun l=> .list (kK l) l.length) (iQ fs rs).length) SA):x.call aR [.agg (pv two),vf,vr] SA K:=
 aIC hM hx hf hr QL VZ hlen heq mf mr fun u S' h m=>gP h m.Bd hK
end
end Go.Am
set_option maxRecDepth 4000
namespace Go.Am
open Go.Mq
theorem MN.but{S1 S S':Hp}{u:V}{l:List Nat}{t:Nat} (h:MN S1 S u l) (hs:∀j o,j≠t->S j=some o->S' j=some o){p:Ob} (ht:S t=some p) (h1:∀vs m,p≠ .gD vs 22 m) (h2:∀vs,p≠ .row vs 22):MN S1 S' u l:=by
 cases h with
 | nil=>exact .nil
 | acc h0 h=>exact .acc h0 (hs _ _ (fun c=>by rw [c,ht]at h;injection h with h;exact h1 _ _ h) h)
 | own h0 h=>exact .own h0 (hs _ _ (fun c=>by rw [c,ht]at h;injection h with h;exact h2 _ h) h)
def pS (S0 S:Hp) (t:Nat):Hp:=fun i=>if i=t then S t else S0 i
theorem WG{S0 S:Hp}{t:Nat}:pS S0 S t t=S t:=aO rfl
theorem AP{S0 S:Hp}{t i:Nat} (h:i≠t):pS S0 S t i=S0 i:=aG h
theorem Hf{S0 S:Hp}{t:Nat} (h:bU (del S0 t) S):bU (pS S0 S t) S:=fun i o e=>by
 by_cases c:i=t
 ·rw [c,WG]at e;rw [c];exact e
 ·rw [AP c]at e;exact h i o (by unfold del;rw [aG c];exact e)
theorem RC{S:Hp}{i t:Nat} (h:i≠t):del S t i=S i:=aG h
section
variable{M n t d:Nat}{x:VE}{K:KV}{s:BitVec 64}{ah:List Nat}
theorem aGe:gM yD=none:=rfl
theorem aID:gM sG=none:=rfl
theorem Uj{S:Hp}{two:Bool} (hx:Deep PP bK gM M (n+1) x) (hK:K (ni 2) S):x.call yD [.agg (pv two)] S K:=by
 refine hx.call aGe fun y hy=>?_;rw [Oo];unfold WH;refine cC jN fun b hb=>?_;rw [aY,cT (o:=7) aB rfl,aY,cT (o:=8) aB rfl,bG (by decide),Be (by decide)];exact bL (.aK hb) hK
def aIE (S0 S:Hp) (t:Nat) (s:BitVec 64) (ah:List Nat) (d:Nat):Prop:=∃w,S t=some (.row [vb s,w,ni d] 140)/\Ah (del S0 t) w ah
theorem aRg (hM:2<M) (hx:Deep PP bK gM M (n+2) x){S0 S:Hp} (h:aIE S0 S t s ah d) (hle:bU (del S0 t) S) (hd:d<1000000) (hK:∀S' a s' SU,Bf S S' t->bU (del S0 t) S'->aIE S0 S' t s' SU (d+1)->(∀k,drawn (k+1) ah s=a::drawn k SU s')->a<11->K (nu a) S'):x.call dF [.ptr t 0,nu 11] S K:=by
 obtain⟨w,h1,h2⟩:=h
 have leT:∀{S':Hp},Bf S S' t->bU (del S0 t) S':=fun {S'} b i o e=>by
  have hi:i≠t:=fun c=>by rw [c,LD]at e;cases e
  rw [b i hi];exact hle i o e
 cases ah with
 | nil=>
  refine aOL hM hx ⟨w,h1,h2.up hle⟩ hd fun S' b tp=>hK S' _ _ _ b (leT b) ?_ (fun k=>rfl) (PC 1 [] s _ (.head _));obtain⟨w',q1,q2⟩:=tp;generalize hz:([]:List Nat)=z at q2;cases q2 with
  | nil=>exact⟨_,q1,.nil⟩
  | emp=>exact⟨_,q1,.emp⟩
  | aCU=>exact⟨_,q1,.aCU⟩
  | acc h h0=>subst hz;simp at h0
  | HW h h0 hv=>subst hz;simp at h0
 | cons a ah=>
  obtain⟨⟨p,hp,PZ⟩,w',VZ,hw'⟩:=h2.head;have hw0:Ah (del S0 t) w' ah:=hw' (.refl _);refine hx.call aIt fun y hy=>?_;rw [PB];unfold FV;refine aEI aNr ?_;have h1':aL S t (.row [vb s,w,ni (d+1)] 140) t=some (.row [vb s,w,ni (d+1)] 140):=aB;have dL:bU (del S0 t) (aL S t (.row [vb s,w,ni (d+1)] 140)):=EV hle LD;have hw1:Ah (aL S t (.row [vb s,w,ni (d+1)] 140)) w (a::ah):=h2.up dL;obtain⟨⟨p1,hp1,aTk⟩,w1,aUA,aUB⟩:=hw1.head;rw [bE,cK,aY,cT h1 rfl,bG (by omega),cK,aY,DV h1 (by simp) rfl];show nP PP (.ptr t 0) (fun v7=>aV 1 v7 fun v8=>aW v8 (aL S t (.row [vb s,w,ni (d+1)] 140)) _);rw [cK,aY,cT h1' rfl,hw1.len,uX,bI (by simp),bW,cK,aY,cT h1' rfl,hp1,aTk,cK,aY,cT h1' rfl]
  have aOO:∀{k:V->Prop},k w'->LG 22 1 w (some (ni 1)) none none (aL S t (.row [vb s,w,ni (d+1)] 140)) k:=fun {k} hk=>by
   have hh:=VZ (k:=k) hk;cases h2 with
   | acc h h0=>
    have hh':=dL _ _ h;unfold LG at hh ⊢;simp only [h]at hh;simp only [hh'];exact hh
   | HW h h0 hv=>
    have hh':=dL _ _ h;unfold LG at hh ⊢;simp only [h]at hh;simp only [hh'];exact hh
  refine aOO ?_;rw [cK,aY,DV h1' (by simp) hw0.one];refine Xw hy ?_;have bb:Bf S (aL (aL S t (.row [vb s,w,ni (d+1)] 140)) t (.row ([vb s,w,ni (d+1)].set 1 w') 140)) t:=fun i hi=>by rw [fD,aC hi]
  refine aM (hK _ _ s ah bb (leT bb) ⟨w',by rw [fD];exact aB,hw0⟩ (fun k=>rfl) (jD _ (by decide)))
theorem MN.pS{S0 S:Hp}{v:V}{l:List Nat} (h:MN (del S0 t) S v l){p:Ob} (ht:S t=some p) (h1:∀vs m,p≠ .gD vs 22 m) (h2:∀vs,p≠ .row vs 22):MN (pS S0 S t) S v l:=by
 have go:∀{i:Nat} {o:Ob},del S0 t i=none->S i=some o->(∀vs m,p≠ .gD vs 22 m)->o≠p->Go.Am.pS S0 S t i=none:=fun {i o} h0 h _ oM=>by
  have hi:i≠t:=fun c=>by rw [c,ht]at h;injection h with h;exact oM h.symm
  rw [AP hi];rw [RC hi]at h0;exact h0
 cases h with
 | nil=>exact .nil
 | acc h0 h=>exact .acc (go h0 h h1 (fun e=>h1 _ _ e.symm)) h
 | own h0 h=>exact .own (go h0 h h1 (fun e=>h2 _ e.symm)) h
end
end Go.Am
set_option maxRecDepth 4000
namespace Go.Am
section
variable{S0 S S':Hp}{K:KV}{v w u:V}{l:List Nat}{ls:List (List Nat)}{t d:Nat}{s:BitVec 64}{ah:List Nat}
theorem ML.but (h:ML S0 S v ls) (hs:∀j o,j≠t->S j=some o->S' j=some o){vs:List V}{q:Nat} (ht:S t=some (.row vs q)) (hq:q≠22):ML S0 S' v ls:=by
 cases h with
 | nil=>exact .nil
 | acc h0 h hl hv=>
  refine .acc h0 (hs _ _ (fun c=>by rw [c,ht]at h;cases h) h) hl fun j l e=>?_;obtain⟨w,a,b⟩:=hv j l e;exact⟨w,a,b.but hs (fun vs m c=>by rw [ht]at c;cases c) (fun vs c=>by rw [ht]at c;injection c with c;injection c with c1 c2;exact hq c2)⟩
theorem ML.aQ2 (h:ML S0 S v ls) (hs:bU S0 S) (hl:ls.length<=1000000) (hw:NL S0 S w l)
 (hk:∀u S',bU S0 S'->(∀j o,S j=some o->(∀m,v≠ .acc j m)->S' j=some o)->ML S0 S' u (ls++[l])->(∀j m,u= .acc j m->S j=none\/∃m',v= .acc j m')->K u S'):aS 51 1 [(.slice none 0 0)] [(0,1,w)] S fun v2 S=>jW 51 1 24 v v2 S K:=by
 have hc:∀{p:List V->Prop},wM w p=p [w]:=fun {p}=>by
  have:=hw.one;cases w<;>first | rfl | cases this
 have hz:LB [(.slice none 0 0)]=some [.nil]:=rfl;unfold aS rR;rw [hz];show iF [(0,1,w)] [.nil] _;unfold iF;rw [hc];refine⟨rfl,by simp,?_⟩;unfold iF;intro j hj;have hj0:S0 j=none:=hs.none hj;have xK:bU S (aL S j (.row [w] 51)):= .aK hj;show jW 51 1 24 v (.own j 0 1 1) (aL S j (.row (bA 0 [w] [.nil]) 51)) K;have e:bA 0 [w] [V.nil]=[w]:=rfl;rw [e];refine LA (m:=1) aB rfl ?_;refine⟨by simp [hw.one],?_⟩;have hwj:=hw.up xK;cases h with
 | nil=>
  refine⟨by decide,fun i hi=>?_⟩;have uA:bU (aL S j (.row [w] 51)) (aL (aL S j (.row [w] 51)) i (.gD [w] 51 1)):= .aK hi;refine hk _ _ ((hs.trans xK).trans uA) (fun q o e _=>uA _ _ (xK _ _ e)) (.acc (ls:=[l]) ((hs.trans xK).none hi) aB rfl fun q l' e=>?_) fun q m e=>by injection e with e1 e2;subst e1;exact .inl (aIf hi).2
  match q,e with
  | 0,e=>injection e with e;subst e;exact⟨w,rfl,hwj.up uA⟩
  | q+1,e=>cases e
 | @acc i vs _ h0 h FN hv=>
  have oM:j≠i:=fun e=>by rw [e,h]at hj;cases hj
  have h':aL S j (.row [w] 51) i=some (.gD vs 51 ls.length):=by rw [aC (aP oM)];exact h
  simp only [h'];refine⟨trivial,trivial,by omega,by omega,?_⟩;have el:ls.length+(0+1)=(ls++[l]).length:=by simp
  rw [el];have uA:∀q o,q≠i->S q=some o->aL (aL S j (.row [w] 51)) i (.gD (vs++[w]) 51 (ls++[l]).length) q=some o:=fun q o hq e=>by rw [aC hq];exact xK _ _ e
  have hn1:∀vs m,S i≠some (.gD vs 22 m):=fun vs m c=>by rw [h]at c;cases c
  have hn2:∀vs,S i≠some (.row vs 22):=fun vs c=>by rw [h]at c;cases c
  refine hk _ _ (fun q o e=>uA q o (fun c=>by rw [c,h0]at e;cases e) (hs _ _ e)) (fun q o e xL=>uA q o (fun c=>xL ls.length (by subst c;rfl)) e) (.acc h0 aB (by simp [FN]) fun q l' e=>?_) fun q m e=>by injection e with e1 e2;subst e1;exact .inr ⟨_,rfl⟩
  rcases BI q ls.length with hq | hq
  ·rw [gO hq]at e
   obtain⟨u,a,b⟩:=hv q l' e;exact⟨u,by rw [gO (by omega)];exact a,b.but uA hn1 hn2⟩
  ·have hq':q=ls.length:=by
    have:=(List.getElem?_eq_some_iff.1 e).1;simp at this;omega
   subst hq';simp at e;subst e;exact⟨w,by rw [kH (by omega),FN];simp,hw.but uA hn1 hn2⟩
theorem ML.mF (h:ML S0 S v ls) (hw:∀m,u≠ .acc t m) (hs:∀j o,S j=some o->(∀m,w≠ .acc j m)->S' j=some o) (hd:∀j m m',v= .acc j m->w≠ .acc j m') (ho:∀j vs m,w= .acc j m->S j≠some (.gD vs 22 m)/\S j≠some (.row vs 22)) (hww:∀j m,w= .acc j m->∃vs n,S j=some (.gD vs 51 n)):ML S0 S' v ls:=by
 cases h with
 | nil=>exact .nil
 | acc h0 h hl hv=>
  refine .acc h0 (hs _ _ h (fun m=>hd _ _ m rfl)) hl fun j l e=>?_;obtain⟨w',a,b⟩:=hv j l e;refine⟨w',a,?_⟩;cases b with
  | val=>exact .val
  | made b=>
   refine .made ?_;cases b with
   | nil=>exact .nil
   | acc g0 g=>exact .acc g0 (hs _ _ g fun m c=>by obtain⟨vs,n,q⟩:=hww _ _ c;rw [q]at g;injection g with g;injection g with _ g _;cases g)
   | own g0 g=>exact .own g0 (hs _ _ g fun m c=>by obtain⟨vs,n,q⟩:=hww _ _ c;rw [q]at g;cases g)
theorem ML.ob (h:ML S0 S v ls):∀j m,v= .acc j m->S0 j=none/\∃vs n,S j=some (.gD vs 51 n):=by
 intro j m e;cases h with
 | nil=>cases e
 | acc h0 h hl hv=>injection e with e1 e2;subst e1;exact⟨h0,_,_,h⟩
theorem aLF (hw:gB w=true):aS 51 1 [(.slice none 0 0)] [(0,1,w)] S fun _ _=>True:=by
 have hc:∀{p:List V->Prop},wM w p=p [w]:=fun {p}=>by cases w<;>first | rfl | cases hw
 have hz:LB [(.slice none 0 0)]=some [.nil]:=rfl;unfold aS rR;rw [hz];show iF [(0,1,w)] [.nil] _;unfold iF;rw [hc];refine⟨rfl,by simp,?_⟩;unfold iF;exact fun _ _=>trivial
end
def fsR (T:Nat):List Nat->List Nat->List (List Nat)
 | [],_=>[]
 | x::l,D=>(x%11::D.take T)::fsR T l (D.drop (T+1+T))
def rsR (T:Nat):Nat->List Nat->List (List Nat)
 | 0,_=>[]
 | k+1,D=>(D.getD T 0%11::(D.drop (T+1)).take T)::rsR T k (D.drop (T+1+T))
theorem aTh{T a:Nat}{A B C:List Nat} (hA:A.length=T) (hB:B.length=T):(A++a::(B++C)).take T=A/\(A++a::(B++C)).getD T 0=a/\((A++a::(B++C)).drop (T+1)).take T=B/\(A++a::(B++C)).drop (T+1+T)=C:=by
 subst hA;have h1:(A++a::(B++C)).drop (A.length+1)=B++C:=by rw [<-Ac,List.drop_left];rfl
 refine⟨List.take_left,by simp,by rw [h1,<-hB,List.take_left],by rw [<-Ac,h1,<-hB,List.drop_left]⟩
section
variable{M n t:Nat}{x:VE}{K:KV}{two:Bool}
end
set_option maxRecDepth 4000
def pvs:List (Nat×Nat)->List V
 | []=>[]
 | p::l=>nu p.1::nu p.2::pvs l
def pds:List (Nat×Nat)->List Dt
 | []=>[]
 | p::l=>nd p.1::nd p.2::pds l
theorem Li (l:List (Nat×Nat)):(pvs l).length=l.length*2:=by induction l with | nil=>rfl | cons a l ih=>show(pvs l).length+2=_;rw [ih,oX];omega
theorem aEz (l:List (Nat×Nat)):(pds l).length=l.length*2:=by induction l with | nil=>rfl | cons a l ih=>show(pds l).length+2=_;rw [ih,oX];omega
theorem aLG (l m:List (Nat×Nat)):pvs (l++m)=pvs l++pvs m:=by induction l with | nil=>rfl | cons a l ih=>show _::_::pvs (l++m)=_;rw [ih];rfl
theorem aQ3{S0 S:Hp} (l:List (Nat×Nat)):∀(j:Nat) (v:V) (d:Dt),(pvs l)[j]? =some v->(pds l)[j]? =some d->Du S0 S v d:=by
 induction l with
 | nil=>intro j v d a b;cases a
 | cons p l ih=>
  intro j v d a b
  match j with
  | 0=>injection a with a;injection b with b;subst a b;exact .int
  | 1=>injection a with a;injection b with b;subst a b;exact .int
  | j+2=>exact ih j v d a b
inductive PN (S0 S:Hp):V->List (Nat×Nat)->Prop
 | nil:PN S0 S .nil []
 | acc {i:Nat} {l:List (Nat×Nat)} (h0:S0 i=none) (h:S i=some (.gD (pvs l) 145 l.length)):PN S0 S (.acc i l.length) l
section
variable{S0 S1 S S':Hp}{K:KV}{v w:V}{l:List (Nat×Nat)}
theorem PN.one (h:PN S0 S v l):gB v=true:=by cases h<;>rfl
theorem PN.same (h:PN S0 S v l):DU v=true:=by cases h<;>rfl
theorem PN.up (h:PN S0 S v l) (hle:bU S S'):PN S0 S' v l:=by cases h with | nil=>exact .nil | acc h0 h=>exact .acc h0 (hle _ _ h)
theorem PN.base (h:PN S1 S v l) (hle:bU S0 S1):PN S0 S v l:=by cases h with | nil=>exact .nil | acc h0 h=>exact .acc (hle.none h0) h
theorem PN.but (h:PN S0 S v l){o:Nat} (hs:∀j p,j≠o->S j=some p->S' j=some p){vs:List V}{q:Nat} (ho:S o=some (.row vs q)):PN S0 S' v l:=by
 cases h with
 | nil=>exact .nil
 | acc h0 h=>exact .acc h0 (hs _ _ (fun c=>by rw [c,ho]at h;cases h) h)
theorem PN.Bd (h:PN S0 S v l):Du S0 S v (.list (pds l) l.length):=by
 cases h with
 | nil=>exact .nil
 | acc h0 h=>exact .acc h h0 (by rw [Li,aEz]) (aQ3 l)
theorem PN.app (h:PN S0 S v l) (hs:bU S0 S) (hl:l.length<=1000000){a b:Nat}
 (hk:∀u S',bU S0 S'->(∀j o,S j=some o->(∀vs m,o≠ .gD vs 145 m)->S' j=some o)->PN S0 S' u (l++[(a,b)])->K u S'):aS 145 1 [(.int .u64 (.ofNat 0)),(.int .u64 (.ofNat 0))] [(0,2,.agg [nu a,nu b])] S fun v24 S=>jW 145 2 16 v v24 S K:=by
 refine HH (z:=[nu 0,nu 0]) rfl rfl rfl rfl fun j hj=>?_;have hj0:S0 j=none:=hs.none hj;have xK:bU S (aL S j (.row [nu a,nu b] 145)):= .aK hj;refine LA (m:=1) aB rfl ?_;refine⟨rfl,?_⟩;cases h with
 | nil=>
  refine⟨by decide,fun i hi=>?_⟩;have uA:bU (aL S j (.row [nu a,nu b] 145)) (aL (aL S j (.row [nu a,nu b] 145)) i (.gD [nu a,nu b] 145 1)):= .aK hi;exact hk _ _ ((hs.trans xK).trans uA) (fun q o e _=>uA _ _ (xK _ _ e)) (.acc (l:=[(a,b)]) ((hs.trans xK).none hi) aB)
 | @acc i _ h0 h=>
  have oM:j≠i:=fun e=>by rw [e,h]at hj;cases hj
  have h':aL S j (.row [nu a,nu b] 145) i=some (.gD (pvs l) 145 l.length):=by rw [aC (aP oM)];exact h
  simp only [h'];refine⟨trivial,trivial,Li l,by omega,?_⟩;have el:l.length+(0+1)=(l++[(a,b)]).length:=by simp
  rw [el];have uA:∀q o,q≠i->S q=some o->aL (aL S j (.row [nu a,nu b] 145)) i (.gD (pvs l++[nu a,nu b]) 145 (l++[(a,b)]).length) q=some o:=fun q o hq e=>by rw [aC hq];exact xK _ _ e
  exact hk _ _ (fun q o e=>uA q o (fun c=>by rw [c,h0]at e;cases e) (hs _ _ e)) (fun q o e xL=>uA q o (fun c=>by subst c;rw [h]at e;injection e with e;exact xL _ _ e.symm) e) (.acc h0 (by rw [aLG];exact aB))
theorem aIg{a b:Nat}:aS 145 1 [(.int .u64 (.ofNat 0)),(.int .u64 (.ofNat 0))] [(0,2,.agg [nu a,nu b])] S fun _ _=>True:=HH (z:=[nu 0,nu 0]) rfl rfl rfl rfl fun _ _=>trivial
theorem aIh{a b:Nat}{k:V->Prop}:cS [(.int .u64 (.ofNat 0)),(.int .u64 (.ofNat 0))] [(0,1,nu a),(1,1,nu b)] k=k (.agg [nu a,nu b]):=propext ⟨fun h=>h.2.2.2.2,fun h=>⟨rfl,Nat.le_of_lt (Vg rfl),rfl,bQ _,h⟩⟩
end
theorem ML.base{S0 S1 S:Hp}{w:V}{l:List (List Nat)} (h:ML S1 S w l) (hle:bU S0 S1):ML S0 S w l:=by
 cases h with
 | nil=>exact .nil
 | acc h0 q hl hv=>
  refine .acc (hle.none h0) q hl fun j l e=>?_;obtain⟨w,a,b⟩:=hv j l e;refine⟨w,a,?_⟩;cases b with
  | val=>exact .val
  | made b=>exact .made (b.base hle)
def shL (fs rs:List (List Nat)) (X:Nat):List (Nat×Nat):=List.zipWith (fun f r=>(ev 11 f X,ev 11 r X)) fs rs
theorem aIi{fs rs:List (List Nat)}{X i:Nat} (h1:i<fs.length) (h2:i<rs.length):(shL fs rs X).take (i+1)=(shL fs rs X).take i++[(ev 11 fs[i] X,ev 11 rs[i] X)]:=by
 have hl:i<(List.zipWith (fun f r=>(ev 11 f X,ev 11 r X)) fs rs).length:=by rw [uO];omega
 unfold shL;rw [KA,aT hl,Lv];rfl
section
variable{M n:Nat}{x:VE}{K:KV}{two:Bool}
theorem aIj (hM:1000000<M) (hx:Deep PP bK gM M (n+2) x){A SLz O:Hp}{vf vr:V}{fs rs:List (List Nat)} (mf:ML A SLz vf fs) (mr:ML A SLz vr rs) (hf:∀q∈fs,LC q) (hr:∀q∈rs,LC q) (QL:∀q∈fs,q.length<1000) (hrl:∀q∈rs,q.length<1000) (hlen:rs.length=fs.length) (VZ:fs.length<1000)
 {bp o N i m0:Nat} {ws:List V} (hN:N<1000) (hi:i<N) (hws:ws.length=N) (Oj:SLz bp=some (.row (pv two) 29)) (ho:SLz o=none) (hL:bU SLz O)
 (hK:∀S w,bU (del O o) S->S o=some (.row (ws.set i w) 82)->PN (del O o) S w (shL fs rs (i+1))->gK x m0 (.ptr bp 0) vf vr (.own o 0 N N) (ni N) (ni (i+1)) S K):
 ∀(r k m:Nat) (S:Hp) (w:V),k+r=fs.length->r<m->bU (del O o) S->S o=some (.row (ws.set i w) 82)->PN (del O o) S w ((shL fs rs (i+1)).take k)->
  jH x m m0 (.ptr bp 0) vf vr (.own o 0 N N) (ni i) (ni N) (ni i) (ni fs.length) (ni k) S K:=by
 have hL':bU SLz (del O o):=fun j p e=>by
  have hj:j≠o:=fun c=>by rw [c,ho]at e;cases e
  rw [RC hj];exact hL j p e
 intro r;induction r with
 | zero=>
  intro k m S w hk hm hle hso hpn;obtain⟨m,rfl⟩:=bH (show m≠0 by omega);rw [sO];unfold mG;refine aF ?_;rw [aQ,jM (by omega),bE,bG (by omega)];have hl:(shL fs rs (i+1)).length<=k:=by unfold shL;rw [uO];omega
  rw [mC hl]at hpn;exact hK S w hle hso hpn
 | succ r ih=>
  intro k m S w hk hm hle hso hpn;obtain⟨m,rfl⟩:=bH (show m≠0 by omega);rw [sO];unfold mG;refine aF ?_;have Wl:k<fs.length:=by omega
  have vO:k<rs.length:=by omega
  have hLS:=hL'.trans hle;have mf':=mf.up hLS;have mr':=mr.up hLS;obtain⟨p1,u1,hp1,Zy,q1⟩:=mf'.at (aT Wl);obtain⟨p2,u2,Iv,FN,q2⟩:=mr'.at (aT vO);have Zy:=fun K=>Zy S (.refl S) K;have FN:=fun K=>FN S (.refl S) K;have hb:=hLS _ _ Oj;have e1:(pv two)[1]? =some (nu 11):=rfl
  have hio:∀{k:V->Prop},cV 1 (.own o 0 N N) (ni i) k=k (.ptr o i):=fun {k}=>by
   show(i<N/\k (.ptr o (0+i*1)))=_;rw [kX,eJ];exact propext ⟨fun h=>h.2,fun h=>⟨hi,h⟩⟩
  have hlw:∀{K:KV},aW (.ptr o i) S K=K w S:=fun {K}=>cT hso (by rw [UB (by omega)]);rw [aQ,zJ Wl,bW,hio,hlw,hp1,Zy,bG (by omega),Hb (by omega),aY,cT hb e1,Iv,FN,bG (by omega),Hb (by omega),aY,cT hb e1];refine Xr hM hx q1.nv (by have:=QL _ (cO Wl);omega) (hf _ (cO Wl)) (show i+1<18446744073709551616 by omega) qQ ?_;rw [cT hb e1,cE,FN,cN q2.same,hlw,cN hpn.same];refine Xr hM hx q2.nv (by have:=hrl _ (cO vO);omega) (hr _ (cO vO)) (show i+1<18446744073709551616 by omega) qQ ?_;rw [hlw,cN hpn.same,aIh,hlw,cN hpn.same];refine⟨aIg,?_⟩;refine hpn.app hle (by rw [mU];omega) fun u S2 fO k2 pn2=>?_;rw [hio,DV (k2 _ _ hso (fun vs m c=>by cases c)) (by rw [ZZ];omega) pn2.one,List.set_set,bG (by omega)];refine ih (k+1) m _ u (by omega) (by omega) (EV fO LD) aB ?_;rw [aIi Wl vO];exact pn2.but (o:=o) (fun j p hj e=>by rw [aC hj];exact e) (k2 _ _ hso (fun vs m c=>by cases c))
structure aQ4 (SLz:Hp) (o N:Nat) (fs rs:List (List Nat)) (i:Nat) (S:Hp) (ws:List V):Prop where
 le:bU SLz S
 row:S o=some (.row ws 82)
 len:ws.length=N
 done:∀j,j<i->∃w,ws[j]? =some w/\PN SLz S w (shL fs rs (j+1))
 todo:∀j,i<=j->j<N->ws[j]? =some .nil
theorem aGb (hM:1000000<M) (hx:Deep PP bK gM M (n+15) x){A SLz:Hp}{vf vr:V}{fs rs:List (List Nat)} (mf:ML A SLz vf fs) (mr:ML A SLz vr rs) (hf:∀q∈fs,LC q) (hr:∀q∈rs,LC q) (QL:∀q∈fs,q.length<1000) (hrl:∀q∈rs,q.length<1000) (hlen:rs.length=fs.length) (VZ:fs.length<1000) (heq:∀i (h1:i<fs.length) (h2:i<rs.length),rs[i].length=fs[i].length)
 {bp o N:Nat} (hN:N<1000) (Oj:SLz bp=some (.row (pv two) 29)) (ho:SLz o=none)
 (hK:∀S ws u,aQ4 SLz o N fs rs N S ws->ML SLz S u (iQ fs rs)->bF (.tuple [.own o 0 N N,u,ni 0]) S K):
 ∀(r i m:Nat) (S:Hp) (ws:List V),i+r=N->r<m->aQ4 SLz o N fs rs i S ws->gK x m (.ptr bp 0) vf vr (.own o 0 N N) (ni N) (ni i) S K:=by
 intro r;induction r with
 | zero=>
  intro i m S ws hi hm h;obtain⟨m,rfl⟩:=bH (show m≠0 by omega);rw [CG];unfold tD;refine aF ?_;rw [aQ,jM (by omega),bE,tE (h.le _ _ Oj),dR (by rw [BR];omega),xO,mC (by rw [BR];omega)];refine aOH (n:=n) hM hx hf hr (fun q hq=>by have:=QL q hq;omega) (by omega) hlen heq (mf.up h.le) (mr.up h.le) fun u S2 fO m2=>?_;have e:i=N:=by omega
  subst e;have m2':=m2.base h.le;exact hK S2 ws u ⟨h.le.trans fO,fO _ _ h.row,h.len,fun j hj=>by obtain⟨w,a,b⟩:=h.done j hj;exact⟨w,a,b.up fO⟩,h.todo⟩ m2'
 | succ r ih=>
  intro i m S ws hi hm h;obtain⟨m,rfl⟩:=bH (show m≠0 by omega);rw [CG];unfold tD;refine aF ?_;have hlt:i<N:=by omega
  rw [aQ,zJ hlt,bW,(mf.up h.le).len,hx.most];have Rl:=h.todo i (bQ _) hlt
  have aKX:ws.set i .nil=ws:=by
   apply xM;intro j;rcases Nat.decEq i j with c | c
   ·rw [HX c]
   ·subst c;rw [UB (by rw [h.len];exact hlt),Rl]
  refine aIj (n:=n+13) hM hx mf mr hf hr QL hrl hlen VZ hN hlt h.len Oj ho h.le (fun S2 w fO so2 pn2=>?_) fs.length 0 M S .nil (by omega) (by omega) Xs (by rw [aKX];exact h.row) (by rw [List.take_zero];exact .nil)
  have hL':bU SLz (del S o):=fun j p e=>by
   have hj:j≠o:=fun c=>by rw [c,ho]at e;cases e
   rw [RC hj];exact h.le j p e
  refine ih (i+1) m S2 (ws.set i w) (by omega) (by omega) ⟨hL'.trans fO,so2,by rw [ZZ];exact h.len,fun j hj=>?_,fun j h1 h2=>by rw [HX (by omega)];exact h.todo j (by omega) h2⟩;by_cases c:j=i
  ·subst c
   exact⟨w,by rw [UB (by rw [h.len];exact hlt)],pn2.base hL'⟩
  ·obtain⟨w',a,b⟩:=h.done j (by omega)
   exact⟨w',by rw [HX (aP c)];exact a,b.but (o:=o) (fun j p hj e=>fO j p (by rw [RC hj];exact e)) h.row⟩
theorem aEA (T:Nat):∀(l D:List Nat),(fsR T l D).length=l.length:=by
 intro l;induction l with
 | nil=>intro D;rfl
 | cons a l ih=>intro D;show(fsR T l _).length+1=_;rw [ih];rfl
theorem aEB (T:Nat):∀(k:Nat) (D:List Nat),(rsR T k D).length=k:=by
 intro k;induction k with
 | zero=>intro D;rfl
 | succ k ih=>intro D;show(rsR T k _).length+1=_;rw [ih]
theorem aEC{T:Nat}:∀(l D:List Nat),(T+1+T)*l.length<=D.length->(∀c∈D,c<11)->∀q∈fsR T l D,q.length=T+1/\∀c∈q,c<11:=by
 intro l;induction l with
 | nil=>intro D _ _ q hq;cases hq
 | cons a l ih=>
  intro D hD hc q hq;rw [oX,Aj]at hD;rcases List.mem_cons.1 hq with rfl | hq
  ·refine⟨by simp;omega,fun c h=>?_⟩
   rcases List.mem_cons.1 h with rfl | h
   ·exact jD _ (by decide)
   ·exact hc c (Fv h)
  ·exact ih _ (by rw [IA];omega) (fun c h=>hc c (Fw h)) q hq
theorem aED{T:Nat}:∀(k:Nat) (D:List Nat),(T+1+T)*k<=D.length->(∀c∈D,c<11)->∀q∈rsR T k D,q.length=T+1/\∀c∈q,c<11:=by
 intro k;induction k with
 | zero=>intro D _ _ q hq;cases hq
 | succ k ih=>
  intro D hD hc q hq;rw [Aj]at hD;rcases List.mem_cons.1 hq with rfl | hq
  ·refine⟨by simp;omega,fun c h=>?_⟩
   rcases List.mem_cons.1 h with rfl | h
   ·exact jD _ (by decide)
   ·exact hc c (Fw (Fv h))
  ·exact ih _ (by rw [IA];omega) (fun c h=>hc c (Fw h)) q hq
def shD (fs rs:List (List Nat)) (N:Nat):List Dt:=(List.range N).map fun i=> .list (pds (shL fs rs (i+1))) (shL fs rs (i+1)).length
def eL (l:List (List Nat)):List Dt:=l.map fun l=> .list (kK l) l.length
theorem aLH:gM uW=none:=rfl
end
set_option maxRecDepth 4000
inductive GL (el:TypeId) (S0 S:Hp):V->List Dt->Prop
 | nil:GL el S0 S .nil []
 | acc {i:Nat} {vs:List V} {ds:List Dt} (h0:S0 i=none) (h:S i=some (.gD vs el ds.length)) (hl:vs.length=ds.length) (hv:∀(j:Nat) (d:Dt),ds[j]? =some d->∃t,vs[j]? =some (T t d)):GL el S0 S (.acc i ds.length) ds
theorem aNu (t:Tag) (d:Dt):gB (T t d)=true:=by cases d<;>rfl
theorem aEK{t:Tag}{d:Dt}{p:List V->Prop}:wM (T t d) p=p [T t d]:=by cases d<;>rfl
theorem aNv{S0 S:Hp} (t:Tag) (d:Dt):Du S0 S (T t d) d:=by cases d<;>constructor
section
variable{el:TypeId}{S0 S S':Hp}{v:V}{ds:List Dt}
theorem GL.len (h:GL el S0 S v ds){K:V->Prop}:bP v K=K (ni ds.length):=by cases h<;>rfl
theorem GL.one (h:GL el S0 S v ds):gB v=true:=by cases h<;>rfl
theorem GL.same (h:GL el S0 S v ds):DU v=true:=by cases h<;>rfl
theorem GL.up (h:GL el S0 S v ds) (hle:bU S S'):GL el S0 S' v ds:=by
 cases h with
 | nil=>exact .nil
 | acc h0 h hl hv=>exact .acc h0 (hle _ _ h) hl hv
theorem GL.base{S1:Hp} (h:GL el S1 S v ds) (hle:bU S0 S1):GL el S0 S v ds:=by
 cases h with
 | nil=>exact .nil
 | acc h0 h hl hv=>exact .acc (hle.none h0) h hl hv
theorem GL.at (h:GL el S0 S v ds){i:Nat}{d:Dt} (hi:ds[i]? =some d):∃p t,(∀(j:IntKind) (K:V->Prop),cV 1 v (.int j (.ofNat i)) K=K p)/\(∀S',bU S S'->∀K:KV,aW p S' K=K (T t d) S'):=by
 have hlt:i<ds.length:=(List.getElem?_eq_some_iff.1 hi).1;cases h with
 | nil=>cases hi
 | @acc b vs _ h0 h hl hv=>
  obtain⟨t,a⟩:=hv i d hi;refine⟨.wL b ds.length (i*1),t,fun j K=>KZ hlt,fun S' hle K=>?_⟩;rw [kX];unfold aW;simp only [hle _ _ h,cX a,true_and]
theorem GL.Bd (h:GL el S0 S v ds):Du S0 S v (.list ds ds.length):=by
 cases h with
 | nil=>exact .nil
 | acc h0 h hl hv=>
  refine .acc h h0 hl fun j v d x1 x2=>?_;obtain⟨t,q⟩:=hv j d x2;rw [x1]at q;injection q with q;subst q;exact aNv t d
theorem GL.set (h:GL el S0 S v ds){i:Nat}{o p:Ob} (hi:S i=some p) (h1:∀vs m,p≠ .gD vs el m):GL el S0 (aL S i o) v ds:=by
 cases h with
 | nil=>exact .nil
 | acc h0 h hl hv=>exact .acc h0 (by rw [aC (fun c=>by rw [c,hi]at h;injection h with h;exact h1 _ _ h)];exact h) hl hv
theorem GL.but (h:GL el S0 S v ds) (hs:∀j vs m,S j=some (.gD vs el m)->S' j=some (.gD vs el m)):GL el S0 S' v ds:=by
 cases h with
 | nil=>exact .nil
 | acc h0 h hl hv=>exact .acc h0 (hs _ _ _ h) hl hv
theorem GL.mF{w:V}{es:List Dt}{e2:TypeId} (h:GL e2 S0 S w es) (hp:∀j o,S j=some o->(∀m,v≠ .acc j m)->S' j=some o) (ha:∀j m m',w= .acc j m->v≠ .acc j m'):GL e2 S0 S' w es:=by
 cases h with
 | nil=>exact .nil
 | acc h0 h hl hv=>exact .acc h0 (hp _ _ h fun m=>ha _ _ m rfl) hl hv
theorem GL.there (h:GL el S0 S v ds){j m:Nat} (e:v= .acc j m):∃vs n,S j=some (.gD vs el n):=by
 cases h with
 | nil=>cases e
 | acc h0 h hl hv=>injection e with e1 e2;subst e1;exact⟨_,_,h⟩
theorem GL.aRi{b:Nat} (h:GL el S0 S v ds) (hs:bU S0 S) (hl:(ds.length+1)*b<=140737488355328/\ds.length+1<=140737488355328){z:Value}{zv:V} (hz:LB [z]=some [zv]){t:Tag}{d:Dt}{K:KV}
 (hk:∀u S',bU S0 S'->(∀j o,S j=some o->(∀m,v≠ .acc j m)->S' j=some o)->(∀j m,u= .acc j m->(∃m',v= .acc j m')\/S j=none)->GL el S0 S' u (ds++[d])->K u S'):aS el 1 [z] [(0,1,T t d)] S fun v2 S=>jW el 1 b v v2 S K:=by
 unfold aS rR;rw [hz];show iF [(0,1,T t d)] [zv] _;unfold iF;rw [aEK];refine⟨rfl,by simp,?_⟩;unfold iF;intro j hj;have xK:bU S (aL S j (.row [T t d] el)):= .aK hj;show jW el 1 b v (.own j 0 1 1) (aL S j (.row (bA 0 [T t d] [zv]) el)) K;have e:bA 0 [T t d] [zv]=[T t d]:=rfl;rw [e];refine LA (m:=1) aB rfl ?_;refine⟨by simp [aNu],?_⟩;cases h with
 | nil=>
  refine⟨by have:=hl;rw [List.length_nil]at this;exact this,fun i hi=>?_⟩;have uA:bU (aL S j (.row [T t d] el)) (aL (aL S j (.row [T t d] el)) i (.gD [T t d] el 1)):= .aK hi;refine hk _ _ ((hs.trans xK).trans uA) (fun q o e _=>uA _ _ (xK _ _ e)) (fun q m e=> .inr (by injection e with e;subst e;exact xK.none hi)) (.acc (ds:=[d]) ((hs.trans xK).none hi) aB rfl fun q l' e=>?_)
  match q,e with
  | 0,e=>injection e with e;subst e;exact⟨t,rfl⟩
  | q+1,e=>cases e
 | @acc i vs _ h0 h FN hv=>
  have oM:j≠i:=fun e=>by rw [e,h]at hj;cases hj
  have h':aL S j (.row [T t d] el) i=some (.gD vs el ds.length):=by rw [aC (aP oM)];exact h
  simp only [h'];refine⟨trivial,trivial,by omega,hl,?_⟩;have el':ds.length+(0+1)=(ds++[d]).length:=by simp
  rw [el'];have uA:∀q o,q≠i->S q=some o->aL (aL S j (.row [T t d] el)) i (.gD (vs++[T t d]) el (ds++[d]).length) q=some o:=fun q o hq e=>by rw [aC hq];exact xK _ _ e
  refine hk _ _ (fun q o e=>uA q o (fun c=>by rw [c,h0]at e;cases e) (hs _ _ e)) (fun q o e xL=>uA q o (fun c=>xL ds.length (by rw [c])) e) (fun q m e=> .inl (by injection e with e;subst e;exact⟨_,rfl⟩)) (.acc h0 aB (by simp [FN]) fun q l' e=>?_);rcases BI q ds.length with hq | hq
  ·rw [gO hq]at e
   obtain⟨u,a⟩:=hv q l' e;exact⟨u,by rw [gO (by omega)];exact a⟩
  ·have hq':q=ds.length:=by
    have:=(List.getElem?_eq_some_iff.1 e).1;simp at this;omega
   subst hq';simp at e;subst e;exact⟨t,by rw [kH (by omega),FN];simp⟩
theorem GL.app (h:GL el S0 S v ds) (hs:bU S0 S) (hl:ds.length<=1000000){z:Value}{zv:V} (hz:LB [z]=some [zv]){b:Nat} (hb:b<=100){t:Tag}{d:Dt}{K:KV}
 (hk:∀u S',bU S0 S'->(∀j o,S j=some o->(∀m,v≠ .acc j m)->S' j=some o)->(∀j m,u= .acc j m->(∃m',v= .acc j m')\/S j=none)->GL el S0 S' u (ds++[d])->K u S'):aS el 1 [z] [(0,1,T t d)] S fun v2 S=>jW el 1 b v v2 S K:=by
 refine h.aRi hs ⟨?_,by omega⟩ hz hk;have:(ds.length+1)*b<=1000001*100:=Nat.mul_le_mul (by omega) hb;omega
end
set_option maxRecDepth 4000
theorem vc1{v:V}{p:List V->Prop} (h:gB v=true):wM v p=p [v]:=by cases v<;>first | rfl | cases h
inductive SL (el:TypeId) (S0 S:Hp):V->List Dt->Nat->Prop
 | nil:SL el S0 S .nil [] 0
 | acc {i n:Nat} {vs:List V} {ds:List Dt} (h0:S0 i=none) (h:S i=some (.gD vs el n)) (hl:vs.length=ds.length) (hv:∀(j:Nat) (d:Dt),ds[j]? =some d->∃t,vs[j]? =some (T t d)):SL el S0 S (.acc i n) ds n
section
variable{el:TypeId}{S0 S S':Hp}{v:V}{ds:List Dt}{n:Nat}
theorem SL.one (h:SL el S0 S v ds n):gB v=true:=by cases h<;>rfl
theorem SL.same (h:SL el S0 S v ds n):DU v=true:=by cases h<;>rfl
theorem SL.up (h:SL el S0 S v ds n) (hle:bU S S'):SL el S0 S' v ds n:=by
 cases h with
 | nil=>exact .nil
 | acc h0 h hl hv=>exact .acc h0 (hle _ _ h) hl hv
theorem SL.base{S1:Hp} (h:SL el S1 S v ds n) (hle:bU S0 S1):SL el S0 S v ds n:=by
 cases h with
 | nil=>exact .nil
 | acc h0 h hl hv=>exact .acc (hle.none h0) h hl hv
theorem SL.Bd (h:SL el S0 S v ds n):Du S0 S v (.list ds n):=by
 cases h with
 | nil=>exact .nil
 | acc h0 h hl hv=>
  refine .acc h h0 hl fun j v d x1 x2=>?_;obtain⟨t,q⟩:=hv j d x2;rw [x1]at q;injection q with q;subst q;exact aNv t d
theorem SL.set (h:SL el S0 S v ds n){i:Nat}{o p:Ob} (hi:S i=some p) (h1:∀vs m,p≠ .gD vs el m):SL el S0 (aL S i o) v ds n:=by
 cases h with
 | nil=>exact .nil
 | acc h0 h hl hv=>exact .acc h0 (by rw [aC (fun c=>by rw [c,hi]at h;injection h with h;exact h1 _ _ h)];exact h) hl hv
theorem SL.but (h:SL el S0 S v ds n) (hs:∀j vs m,S j=some (.gD vs el m)->S' j=some (.gD vs el m)):SL el S0 S' v ds n:=by
 cases h with
 | nil=>exact .nil
 | acc h0 h hl hv=>exact .acc h0 (hs _ _ _ h) hl hv
theorem SL.ne (h:SL el S0 S v ds n){b:Nat}{o:Ob} (hb:S b=some o) (ho:∀vs e m,o≠ .gD vs e m):∀m,v≠ .acc b m:=fun m e=>by
 cases h with
 | nil=>cases e
 | acc h0 h hl hv=>injection e with e;subst e;rw [h]at hb;injection hb with hb;exact ho _ _ _ hb.symm
def Jz (us:List V) (new:List Dt):Prop:=us.length=new.length/\∀(j:Nat) (d:Dt),new[j]? =some d->∃t,us[j]? =some (T t d)
theorem Jz.one{us:List V}{new:List Dt} (h:Jz us new):us.all gB=true:=by
 rw [HZ];intro u hu;obtain⟨j,hj,rfl⟩:=ZY hu;have Vy:j<new.length:=by rw [<-h.1];exact hj
 obtain⟨t,q⟩:=h.2 j _ (aT Vy);rw [aT hj]at q;injection q with q;rw [q];exact aNu t _
theorem Jz.nil:Jz [] []:=⟨rfl,fun j d e=>by cases e⟩
theorem Jz.cons{us:List V}{new:List Dt} (t:Tag) (d:Dt) (h:Jz us new):Jz (T t d::us) (d::new):=⟨by simp [h.1],fun j e q=>by match j with | 0=>injection q with q;subst q;exact⟨t,rfl⟩ | j+1=>exact h.2 j e q⟩
theorem SL.app (h:SL el S0 S v ds n) (hs:bU S0 S) (hl:n<=1000000){k:Nat} (hk0:ds.length=n*k){zs:List Value}{zv us:List V}{new:List Dt} (hz:LB zs=some zv) (Ky:zv.length=k) (hu:Jz us new) (hul:new.length=k){b:Nat} (hb:b<=100){K:KV}
 (hk:∀u S',bU S0 S'->(∀j o,S j=some o->(∀m,v≠ .acc j m)->S' j=some o)->(∀j m,u= .acc j m->(∃m',v= .acc j m')\/S j=none)->SL el S0 S' u (ds++new) (n+1)->K u S'):aS el 1 zs [(0,k,.agg us)] S fun v2 S=>jW el k b v v2 S K:=by
 have aUi:us.length=k:=by rw [hu.1,hul]
 refine HH hz Ky aUi hu.one fun j hj=>?_;have xK:bU S (aL S j (.row us el)):= .aK hj;refine LA (m:=1) aB (by rw [Nat.one_mul];omega) ?_;refine⟨hu.one,?_⟩;cases h with
 | nil=>
  refine⟨by rw [eJ,Nat.one_mul];omega,fun i hi=>?_⟩;have uA:bU (aL S j (.row us el)) (aL (aL S j (.row us el)) i (.gD us el 1)):= .aK hi;refine hk _ _ ((hs.trans xK).trans uA) (fun q o e _=>uA _ _ (xK _ _ e)) (fun q m e=> .inr (by injection e with e;subst e;exact xK.none hi)) (.acc ((hs.trans xK).none hi) aB (by rw [Ab];exact hu.1) fun q l' e=>?_);rw [Ab]at e;exact hu.2 q l' e
 | @acc i _ vs _ h0 h FN hv=>
  have oM:j≠i:=fun e=>by rw [e,h]at hj;cases hj
  have h':aL S j (.row us el) i=some (.gD vs el n):=by rw [aC (aP oM)];exact h
  simp only [h']
  have hm:(n+(0+1))*b<=140737488355328/\n+(0+1)<=140737488355328:=by
   have:(n+(0+1))*b<=1000001*100:=Nat.mul_le_mul (by omega) hb;omega
  refine⟨trivial,trivial,by omega,hm,?_⟩;have uA:∀q o,q≠i->S q=some o->aL (aL S j (.row us el)) i (.gD (vs++us) el (n+(0+1))) q=some o:=fun q o hq e=>by rw [aC hq];exact xK _ _ e
  refine hk _ _ (fun q o e=>uA q o (fun c=>by rw [c,h0]at e;cases e) (hs _ _ e)) (fun q o e xL=>uA q o (fun c=>xL n (by rw [c])) e) (fun q m e=> .inl (by injection e with e;subst e;exact⟨_,rfl⟩)) (.acc h0 aB (by simp [FN,hu.1]) fun q l' e=>?_);rcases BI q ds.length with hq | hq
  ·rw [gO hq]at e
   obtain⟨u,a⟩:=hv q l' e;exact⟨u,by rw [gO (by omega)];exact a⟩
  ·rw [kH hq]at e
   obtain⟨t,a⟩:=hu.2 _ _ e;exact⟨t,by rw [kH (by omega),FN];exact a⟩
end
end Go.Am
set_option maxRecDepth 4000
namespace Go.Am
open Go.Proofs.OG
theorem aOP{l:List (Nat×Nat)}:∀{i:Nat} {a b:Nat},l[i]? =some (a,b)->(pds l)[i*2]? =some (nd a)/\(pds l)[i*2+1]? =some (nd b):=by
 induction l with
 | nil=>intro i a b h;cases h
 | cons p l ih=>
  intro i a b h
  match i with
  | 0=>injection h with h;subst h;exact⟨rfl,rfl⟩
  | i+1=>
   have:=ih (i:=i) (a:=a) (b:=b) h;rw [show(i+1)*2=i*2+2 by omega];exact this
theorem aOQ{α:Type}{l:List α}{o:Nat}{a b:α} (h1:l[o]? =some a) (h2:l[o+1]? =some b):o+2<=l.length/\(l.drop o).take 2=[a,b]:=by
 have hl:=(List.getElem?_eq_some_iff.1 h2).1;refine⟨by omega,?_⟩;rw [mB (show o<l.length by omega),Vh,mB hl,Vh,List.take_zero];have e1:=aT (show o<l.length by omega);have e2:=aT hl;rw [h1]at e1;rw [h2]at e2;injection e1 with e1;injection e2 with e2;rw [<-e1,<-e2]
section
variable{M n:Nat}{x:VE}{S:Hp}{K:KV}{two:Bool}
theorem Deep.aRh (hx:Deep PP bK gM M (n+1) x){f:FuncId} (hf:gM f=none){args:List V} (h:∀y,Deep PP bK gM M n y->jX PP bK f y args S K):x.C f args S K:=by
 obtain⟨h1,h2,y,h3,h4,_⟩:=hx;rw [h4 f hf];exact h y h3
theorem lA{p:Nat} (rp:S p=some (.row (pv two) 29)){K:KV}:bR 12 (.ptr p 0) S K=K (.agg (pv two)) S:=by
 rw [tE rp,dR (by rw [BR];omega),xO,mC (by rw [BR];omega)]
end
end Go.Am
set_option maxRecDepth 100000
namespace Go.Am
def Fo (x:VE) (a0:V) (S:Hp) (K:KV):Prop:=
 iG 42 a0 S fun v0 S=>
 dQ [(.int .u8 (.ofNat 0)),(.int .i64 (.ofNat 0)),(.int .i64 (.ofNat 0)),(.slice none 0 0),(.slice none 0 0),(.slice none 0 0),(.slice none 0 0)] 42 S fun v1 S=>
 aV 3 v0 fun v2=>
 aW v2 S fun v3 S=>
 aV 5 v0 fun v4=>
 aW v4 S fun v5 S=>
 x.call dY [v3] S fun v6 S=>
 aW v4 S fun v7 _=>
 aU v7 v5 (x.call dE [v5] S fun v8 S=>aV 3 v0 fun v9=>nI 1 v9 v6 S fun S=>aV 5 v0 fun v10=>nI 1 v10 v8 S fun S=>aV 4 v0 fun v11=>aW v11 S fun v12 S=>x.call gY [v12,(.func cD [] [])] S fun qE S=>aV 4 v0 fun qU=>nI 1 qU qE S fun S=>aV 6 v0 fun wI=>aW wI S fun wJ S=>x.call lM [wJ,(.func qG [] [])] S fun wH S=>aV 6 v0 fun vC=>nI 1 vC wH S fun S=>bR 7 v0 S fun yI S=>nI 7 v1 yI S fun S=>bR 7 v1 S fun v20 _=>bF v20 S K)
theorem Zo (x:VE) (a0:V) (S:Hp) (K:KV):jX PP bK JS x [a0] S K=Fo x a0 S K:=by kernel_rfl
def XB (x:VE) (a0:V) (S:Hp) (K:KV):Prop:=
 iG 68 a0 S fun v0 S=>
 dQ [(.int .i64 (.ofNat 0)),(.slice none 0 0)] 68 S fun v1 S=>
 aV 1 v0 fun v2=>
 aW v2 S fun v3 S=>
 x.call gY [v3,(.func cD [] [])] S fun v4 S=>
 aV 1 v0 fun v5=>
 nI 1 v5 v4 S fun S=>
 bR 2 v0 S fun v6 S=>
 nI 2 v1 v6 S fun S=>
 bR 2 v1 S fun v7 _=>
 bF v7 S K
theorem Qp (x:VE) (a0:V) (S:Hp) (K:KV):jX PP bK qG x [a0] S K=XB x a0 S K:=by kernel_rfl
def fS (x:VE) (m:Nat) (t1 t5 t8 t9 t10:V) (S:Hp) (K:KV):Prop:=dW PP bK gY x [.r,.r,.l,.r,.d] m [] [t1,t5,t8,t9,t10] S K
def AZ (x:VE) (a0 a1:V) (S:Hp) (K:KV):Prop:=
 bP a0 fun v0=>
 fS x x.most a1 .nil a0 v0 (.int .i64 (.ofNat 0)) S K
theorem OF (x:VE) (a0 a1:V) (S:Hp) (K:KV):jX PP bK gY x [a0,a1] S K=AZ x a0 a1 S K:=by kernel_rfl
def mK (x:VE) (m0:Nat) (t1 t5 t8 t9 t10:V) (S:Hp) (K:KV):Prop:=
 cR S fun S=>
 aJ PP .lss 3 t10 t9 fun v0=>
 iR v0 (cV 1 t8 t10 fun v1=>aW v1 S fun v2 S=>mH x t1 [v2] S fun v3 S=>aS 51 1 [(.slice none 0 0)] [(0,1,v3)] S fun v4 S=>jW 51 1 24 t5 v4 S fun v5 S=>aJ PP .add 3 t10 (.int .i64 (.ofNat 1)) fun v6=>fS x m0 t1 v5 t8 t9 v6 S K) (bF t5 S K)
theorem sU (x:VE) (m0:Nat) (t1 t5 t8 t9 t10:V) (S:Hp) (K:KV):fS x (m0+1) t1 t5 t8 t9 t10 S K=mK x m0 t1 t5 t8 t9 t10 S K:=by kernel_rfl
def gR (x:VE) (m:Nat) (t1 t5 t8 t9 t10:V) (S:Hp) (K:KV):Prop:=dW PP bK lM x [.r,.r,.l,.r,.d] m [] [t1,t5,t8,t9,t10] S K
def EL (x:VE) (a0 a1:V) (S:Hp) (K:KV):Prop:=
 bP a0 fun v0=>
 gR x x.most a1 .nil a0 v0 (.int .i64 (.ofNat 0)) S K
theorem RX (x:VE) (a0 a1:V) (S:Hp) (K:KV):jX PP bK lM x [a0,a1] S K=EL x a0 a1 S K:=by kernel_rfl
def nX (x:VE) (m0:Nat) (t1 t5 t8 t9 t10:V) (S:Hp) (K:KV):Prop:=
 cR S fun S=>
 aJ PP .lss 3 t10 t9 fun v0=>
 iR v0 (cV 2 t8 t10 fun v1=>bR 2 v1 S fun v2 S=>dQ [(.int .i64 (.ofNat 0)),(.slice none 0 0)] 68 S fun v3 S=>nI 2 v3 v2 S fun S=>bR 2 v3 S fun v4 S=>mH x t1 [v4] S fun v5 S=>aS 68 1 [(.int .i64 (.ofNat 0)),(.slice none 0 0)] [(0,2,v5)] S fun v6 S=>jW 68 2 32 t5 v6 S fun v7 S=>aJ PP .add 3 t10 (.int .i64 (.ofNat 1)) fun v8=>gR x m0 t1 v7 t8 t9 v8 S K) (bF t5 S K)
theorem uN (x:VE) (m0:Nat) (t1 t5 t8 t9 t10:V) (S:Hp) (K:KV):gR x (m0+1) t1 t5 t8 t9 t10 S K=nX x m0 t1 t5 t8 t9 t10 S K:=by kernel_rfl
def NF (x:VE) (a0 a1:V) (S:Hp) (K:KV):Prop:=
 iG 29 a0 S fun v0 S=>
 bR 12 v0 S fun v1 S=>
 bR 12 v0 S fun v2 S=>
 aV 6 v0 fun v3=>
 aW v3 S fun v4 S=>
 aJ PP .add 3 v4 (.int .i64 (.ofNat 1)) fun v5=>
 x.call vG [v2] S fun v6 S=>
 aW v3 S fun v7 _=>
 aU v7 v4 (bR 12 v0 S fun v8 _=>aU v8 v1 (x.call ED [v1,a1,v6,v5] S fun v9 S=>aW v3 S fun v10 _=>aU v10 v4 (bF v9 S K)))
theorem Ez (x:VE) (a0 a1:V) (S:Hp) (K:KV):jX PP bK oH x [a0,a1] S K=NF x a0 a1 S K:=by kernel_rfl
def WU (x:VE) (a0 a1 a2 a3:V) (S:Hp) (K:KV):Prop:=
 iG 29 a0 S fun v0 S=>
 iG 3 a3 S fun v1 S=>
 bP a1 fun v2=>
 aJ PP .eql 3 v2 a2 fun v3=>
 aI x.most (aH true v3 (fun k=>k a1 S) S fun v4 S=>aI x.most (aH true v3 (fun k=>k (.func zB [] [v1,v0]) S) S fun v5 S=>aI x.most (aH true v3 (fun k=>x.call cH [v4,v5] S fun v6 S=>k v6 S) S fun v7 S=>aI x.most (aH true v3 (fun k=>SP .not v7 fun v8=>k v8 S) S fun v9 S=>aI x.most (fK v3 v9 (.bool false) fun v10=>bF v10 S K)))))
theorem Qf (x:VE) (a0 a1 a2 a3:V) (S:Hp) (K:KV):jX PP bK ED x [a0,a1,a2,a3] S K=WU x a0 a1 a2 a3 S K:=by kernel_rfl
def PR (x:VE) (a0 a1 a2:V) (S:Hp) (K:KV):Prop:=
 bP a0 fun v0=>
 aW a1 S fun v1 S=>
 aJ PP .neq 3 v0 v1 fun v2=>
 aI x.most (aH false v2 (fun k=>k a0 S) S fun v3 S=>aI x.most (aH false v2 (fun k=>k (.func vF [] [a2]) S) S fun v4 S=>aI x.most (aH false v2 (fun k=>x.call eS [v3,v4] S fun v5 S=>k v5 S) S fun v6 S=>aI x.most (fK v2 (.bool true) v6 fun v7=>bF v7 S K))))
theorem Hs (x:VE) (a0 a1 a2:V) (S:Hp) (K:KV):jX PP bK zB x [a0,a1,a2] S K=PR x a0 a1 a2 S K:=by kernel_rfl
def LU (x:VE) (a0 a1:V) (S:Hp) (K:KV):Prop:=
 bR 12 a1 S fun v0 S=>
 x.call RT [v0,a0] S fun v1 S=>
 SP .not v1 fun v2=>
 bF v2 S K
theorem Bp (x:VE) (a0 a1:V) (S:Hp) (K:KV):jX PP bK vF x [a0,a1] S K=LU x a0 a1 S K:=by kernel_rfl
def LV (x:VE) (a0:V) (S:Hp) (K:KV):Prop:=
 iG 29 a0 S fun v0 S=>
 aV 7 v0 fun v1=>
 aW v1 S fun v2 S=>
 aV 8 v0 fun v3=>
 aW v3 S fun v4 S=>
 aJ PP .add 3 v4 (.int .i64 (.ofNat 1)) fun v5=>
 aJ PP .mul 3 v2 v5 fun v6=>
 bF v6 S K
theorem Bq (x:VE) (a0:V) (S:Hp) (K:KV):jX PP bK vG x [a0] S K=LV x a0 S K:=by kernel_rfl
def lK (x:VE) (m:Nat) (t2 t3 t7 t10 t11 t12:V) (S:Hp) (K:KV):Prop:=dW PP bK mY x [.r,.r,.l,.r,.d] m [] [t2,t3,t7,t10,t11,t12] S K
def PS (x:VE) (a0 a1 a2:V) (S:Hp) (K:KV):Prop:=
 iG 29 a0 S fun v0 S=>
 bP a1 fun v1=>
 lK x x.most a2 v0 .nil a1 v1 (.int .i64 (.ofNat 0)) S K
theorem Ht (x:VE) (a0 a1 a2:V) (S:Hp) (K:KV):jX PP bK mY x [a0,a1,a2] S K=PS x a0 a1 a2 S K:=by kernel_rfl
def tR (x:VE) (m0:Nat) (t2 t3 t7 t10 t11 t12:V) (S:Hp) (K:KV):Prop:=
 cR S fun S=>
 aJ PP .lss 3 t12 t11 fun v0=>
 iR v0 (cV 1 t10 t12 fun v1=>aW v1 S fun v2 S=>bR 12 t3 S fun v3 S=>x.call LS [v3,v2,t2] S fun v4 S=>aS 22 1 [(.int .u64 (.ofNat 0))] [(0,1,v4)] S fun v5 S=>jW 22 1 8 t7 v5 S fun v6 S=>aJ PP .add 3 t12 (.int .i64 (.ofNat 1)) fun v7=>lK x m0 t2 t3 v6 t10 t11 v7 S K) (bF t7 S K)
theorem CN (x:VE) (m0:Nat) (t2 t3 t7 t10 t11 t12:V) (S:Hp) (K:KV):lK x (m0+1) t2 t3 t7 t10 t11 t12 S K=tR x m0 t2 t3 t7 t10 t11 t12 S K:=by kernel_rfl
def jZ (x:VE) (m:Nat) (t2 t3 t7 t10 t11 t12:V) (S:Hp) (K:KV):Prop:=dW PP bK qC x [.r,.r,.l,.r,.d] m [] [t2,t3,t7,t10,t11,t12] S K
def LW (x:VE) (a0 a1 a2:V) (S:Hp) (K:KV):Prop:=
 iG 29 a0 S fun v0 S=>
 bP a1 fun v1=>
 jZ x x.most a2 v0 .nil a1 v1 (.int .i64 (.ofNat 0)) S K
theorem Br (x:VE) (a0 a1 a2:V) (S:Hp) (K:KV):jX PP bK qC x [a0,a1,a2] S K=LW x a0 a1 a2 S K:=by kernel_rfl
def rD (x:VE) (m0:Nat) (t2 t3 t7 t10 t11 t12:V) (S:Hp) (K:KV):Prop:=
 cR S fun S=>
 aJ PP .lss 3 t12 t11 fun v0=>
 iR v0 (cV 1 t10 t12 fun v1=>aW v1 S fun v2 S=>bR 12 t3 S fun v3 S=>x.call mY [v3,v2,t2] S fun v4 S=>aS 51 1 [(.slice none 0 0)] [(0,1,v4)] S fun v5 S=>jW 51 1 24 t7 v5 S fun v6 S=>aJ PP .add 3 t12 (.int .i64 (.ofNat 1)) fun v7=>jZ x m0 t2 t3 v6 t10 t11 v7 S K) (bF t7 S K)
theorem zN (x:VE) (m0:Nat) (t2 t3 t7 t10 t11 t12:V) (S:Hp) (K:KV):jZ x (m0+1) t2 t3 t7 t10 t11 t12 S K=rD x m0 t2 t3 t7 t10 t11 t12 S K:=by kernel_rfl
def xD (x:VE) (m:Nat) (t2 t3 t7 t8 t16 t17 TY:V) (S:Hp) (K:KV):Prop:=dW PP bK LS x [.r,.r,.r,.l,.r,.d] m [] [t2,t3,t7,t8,t16,t17,TY] S K
def Qd (x:VE) (a0 a1 a2:V) (S:Hp) (K:KV):Prop:=
 iG 29 a0 S fun v0 S=>
 bR 12 v0 S fun v1 S=>
 x.call lG [v1,.nil] S fun v2 S=>
 aV 1 v0 fun v3=>
 aW v3 S fun v4 S=>
 x.call oC [(.int .u64 (.ofNat 1)),(.int .u64 (.ofNat 1)),v4] S fun v5 S=>
 bP a1 fun v6=>
 xD x x.most a2 v0 v2 v5 a1 v6 (.int .i64 (.ofNat 0)) S K
theorem aDB (x:VE) (a0 a1 a2:V) (S:Hp) (K:KV):jX PP bK LS x [a0,a1,a2] S K=Qd x a0 a1 a2 S K:=by kernel_rfl
def BV (x:VE) (m0:Nat) (t2 t3 t7 t8 t16 t17 TY:V) (S:Hp) (K:KV):Prop:=
 cR S fun S=>
 aJ PP .lss 3 TY t17 fun v0=>
 iR v0 (cV 1 t16 TY fun v1=>aW v1 S fun v2 S=>bR 12 t3 S fun v3 S=>bR 12 t3 S fun v4 S=>x.call pF [v4,v2,t8] S fun v5 S=>bR 12 t3 S fun v6 _=>aU v6 v3 (bR 12 t3 S fun v7 _=>aU v7 v3 ((aS 22 2 [(.int .u64 (.ofNat 0))] [(0,1,t7),(1,1,v5)] S fun v8 S=>True)/\(aS 22 2 [(.int .u64 (.ofNat 0))] [(0,1,t7),(1,1,v5)] S fun v9 S=>x.call lG [v3,v9] S fun v10 S=>aV 1 t3 fun v11=>aW v11 S fun v12 S=>x.call oC [t8,t2,v12] S fun qE S=>aJ PP .add 3 TY (.int .i64 (.ofNat 1)) fun qU=>xD x m0 t2 t3 v10 qE t16 t17 qU S K)))) (bF t7 S K)
theorem LT (x:VE) (m0:Nat) (t2 t3 t7 t8 t16 t17 TY:V) (S:Hp) (K:KV):xD x (m0+1) t2 t3 t7 t8 t16 t17 TY S K=BV x m0 t2 t3 t7 t8 t16 t17 TY S K:=by kernel_rfl
def Qe (x:VE) (a0 a1:V) (S:Hp) (K:KV):Prop:=
 iG 29 a0 S fun v0 S=>
 aJ PP .geq 22 a1 (.int .u64 (.ofNat 1)) fun v1=>
 aI x.most (aH true v1 (fun k=>k a1 S) S fun v2 S=>aI x.most (aH true v1 (fun k=>aV 0 v0 fun v3=>k v3 S) S fun v4 S=>aI x.most (aH true v1 (fun k=>aW v4 S fun v5 S=>k v5 S) S fun v6 S=>aI x.most (aH true v1 (fun k=>aJ PP .lss 22 v2 v6 fun v7=>k v7 S) S fun v8 S=>aI x.most (fK v1 v8 (.bool false) fun v9=>aI x.most (aH true v9 (fun k=>bR 12 v0 S fun v10 S=>k v10 S) S fun v11 S=>aI x.most (aH true v9 (fun k=>k a1 S) S fun v12 S=>aI x.most (aH true v9 (fun k=>aV 1 v0 fun qE=>k qE S) S fun qU S=>aI x.most (aH true v9 (fun k=>aW qU S fun wI S=>k wI S) S fun wJ S=>aI x.most (aH true v9 (fun k=>x.call pF [v11,v12,wJ] S fun wH S=>k wH S) S fun vC S=>aI x.most (aH true v9 (fun k=>aJ PP .eql 22 vC (.int .u64 (.ofNat 1)) fun yI=>k yI S) S fun v20 S=>aI x.most (fK v9 v20 (.bool false) fun v21=>bF v21 S K))))))))))))
theorem aDC (x:VE) (a0 a1:V) (S:Hp) (K:KV):jX PP bK RT x [a0,a1] S K=Qe x a0 a1 S K:=by kernel_rfl
end Go.Am
set_option maxRecDepth 4000
namespace Go.Am
open Go.Proofs.OG
def atF (i:Nat):List Nat->Nat->Nat->Nat
 | [],x,_=>x
 | y::l,x,e=>atF i l (LI [x,pw y e]) (e*i%11)
def atG (l:List Nat) (i:Nat):Nat:=atF i l (LI []) (1*1%11)
theorem PJ (l:List Nat):LI l<23:=by
 have:∀(l:List Nat) (a:Nat),a<23->l.foldl (fun acc y=>acc*y%23) a<23:=by
  intro l;induction l with
  | nil=>intro a h;exact h
  | cons y l ih=>intro a h;exact ih _ (jD _ (by decide))
 exact this l _ (by decide)
theorem aRU{t:TypeId}{a b:Nat}{k:V->Prop}:aJ PP .lss t (nu a) (nu b) k=k (.bool (decide (a<b))):=by rw [rK];congr 2;simp
theorem iS{op:KV->Prop}{S:Hp}{k:KV}:aH true (.bool false) op S k=k WM S:=rfl
section
variable{M n:Nat}{x:VE}{S:Hp}{K:KV}{two:Bool}
theorem aRV:gM LS=none:=rfl
theorem aRW:gM RT=none:=rfl
theorem aRX (hM:1000000<M) (hx:Deep PP bK gM M (n+3) x){v:V}{l:List Nat}{b:Nat}{S0:Hp}{i0:Nat} (hi0:EQ i0) (hle:bU S0 S) (h:NV S v l) (TV:LC l) (hl:l.length<1000000) (hb:S b=some (.row (pv two) 29)){R:Nat} (hK:K (nu R) S0):
 ∀(r i m:Nat) (acc e:Nat) (S1:Hp),bU S S1->i+r=l.length->r<m->acc<23->e<11->atF i0 (l.drop i) acc e=R->xD x m (nu i0) (.ptr b 0) (nu acc) (nu e) v (ni l.length) (ni i) S1 K:=by
 intro r;induction r with
 | zero=>
  intro i m acc e S1 hs hi hm h6 h7 he;obtain⟨m,rfl⟩:=bH (show m≠0 by omega);rw [LT];unfold BV;refine tJ S hs ?_;rw [aQ,jM (by omega),bE];rw [oW (by omega)]at he;have he:acc=R:=he;rw [he];exact bL hle hK
 | succ r ih=>
  intro i m acc e S1 hs hi hm h6 h7 he;obtain⟨m,rfl⟩:=bH (show m≠0 by omega);rw [LT];unfold BV;refine tJ S hs ?_;have hlt:i<l.length:=by omega
  obtain⟨p,hp,PZ⟩:=h.at (i:=i) (aT hlt);have all:∀{K:KV},bR 12 (.ptr b 0) S K=K (.agg (pv two)) S:=lA hb;have same:∀{p:Prop},aU (.agg (pv two)) (.agg (pv two)) p=p:=fun {p}=>cN rfl;rw [aQ,zJ hlt,bW,hp,PZ S (.refl S)];simp only [all];refine Dy (two:=two) hx (TV _ (cO hlt)) (show e<18446744073709551616 by omega) ?_;simp only [all,same];have p1:=aEJ l[i] e;refine⟨He fun j hj=>trivial,He fun j hj=>?_⟩;have le:bU S (aL S j (.row (oD [acc,pw l[i] e]) 22)):= .aK hj;refine WA (two:=two) hM (n:=n+1) hx (.own (l:=[acc,pw l[i] e]) aB (fun i z h=>by rw [eJ];exact IJ h) (by rw [oE];simp)) (fun z hz=>?_) (by simp) ?_
  ·rcases List.mem_cons.1 hz with rfl | hz
   ·show z<18446744073709551616;omega
   ·rcases List.mem_cons.1 hz with rfl | hz
    ·show pw l[i] e<18446744073709551616;omega
    ·cases hz
  ·rw [aY,cT (le _ _ hb) rfl]
   refine PA hx (show e<18446744073709551616 by omega) hi0 qQ ?_;rw [bG (by omega)];refine ih (i+1) m _ _ _ le (by omega) (by omega) (PJ _) (jD _ (by decide)) ?_;rw [mB hlt]at he;exact he
theorem aTD (hM:1000000<M) (hx:Deep PP bK gM M (n+4) x){v:V}{l:List Nat}{i0:Nat} (hi0:EQ i0) (h:NV S v l) (TV:LC l) (hl:l.length<1000000) (hK:K (nu (atG l i0)) S):x.call LS [.agg (pv two),v,nu i0] S K:=by
 refine hx.call aRV fun y hy=>?_;rw [aDB];unfold Qd;refine cC jN fun b hb=>?_;have dL:bU S (aL S b (.row (pv two) 29)):= .aK hb;have rb:aL S b (.row (pv two) 29) b=some (.row (pv two) 29):=aB;generalize aL S b (.row (pv two) 29)=S1 at dL rb;rw [lA rb];refine WA (two:=two) hM hy .nil (fun z hz=>by cases hz) (by simp) ?_;rw [aY,cT rb rfl];refine PA hy (by decide) (by decide) qQ ?_;rw [(h.up dL).len,hy.most];exact aRX (two:=two) hM hy hi0 dL (h.up dL) TV hl rb hK l.length 0 M _ _ S1 (.refl S1) (by omega) (by omega) (PJ _) (by decide) rfl
def Jg (x:Nat):Bool:=decide (1<=x)&&(decide (x<23)&&decide (pw x 11=1))
theorem aTE (hM:1000000<M) (hx:Deep PP bK gM M (n+3) x){z:Nat} (hz:EQ z) (hK:K (.bool (Jg z)) S):x.call RT [.agg (pv two),nu z] S K:=by
 refine hx.call aRW fun y hy=>?_;rw [aDC];unfold Qe;refine cC jN fun b hb=>?_;have dL:bU S (aL S b (.row (pv two) 29)):= .aK hb;have rb:aL S b (.row (pv two) 29) b=some (.row (pv two) 29):=aB;generalize aL S b (.row (pv two) 29)=S1 at dL rb;rw [aIq];by_cases h1:1<=z
 ·rw [bI h1]
  simp only [aE,aN,aY,cT (o:=0) rb rfl,aRU];by_cases h2:z<23
  ·rw [bI h2]
   simp only [dI,aN,lA rb,cT (o:=1) rb rfl];refine Dy (two:=two) hy hz (by decide) ?_;rw [aNn];refine bL dL ?_;have:Jg z=decide (pw z 11=1):=by unfold Jg;rw [bI h1,bI h2];rfl
   rw [<-this];exact hK
  ·rw [bO h2]
   simp only [dI,dJ,iS];refine bL dL ?_;have:Jg z=false:=by unfold Jg;rw [bI h1,bO h2];rfl
   rw [this]at hK;exact hK
 ·rw [bO h1]
  simp only [aE,iS,dJ];refine bL dL ?_;have:Jg z=false:=by unfold Jg;rw [bO h1];rfl
  rw [this]at hK;exact hK
end
set_option maxRecDepth 4000
section
variable{M n:Nat}{x:VE}{S S0:Hp}{K:KV}{two:Bool}
theorem aMr:gM eS=none:=rfl
theorem aPz:gM fI=none:=rfl
theorem aKa:gM cH=none:=rfl
theorem aMs:gM dD=none:=rfl
theorem aMt{v:V}{l:List Nat} (h:NV S v l) (hl:l.length<1000000){f:V}{p:Nat->Bool}
 (hf:∀a∈l,∀K:KV,K (.bool (p a)) S->mH x f [nu a] S K) (hT:l.any p=true->∀j:Nat,K (ni j) S) (hF:l.any p=false->K (.int .i64 (.negSucc 0)) S):
 ∀(r i m:Nat),i+r=l.length->r<m->(l.drop i).any p=l.any p->eA x m v f (ni l.length) (ni i) S K:=by
 intro r;induction r with
 | zero=>
  intro i m hi hm he;obtain⟨m,rfl⟩:=bH (show m≠0 by omega);rw [lC];unfold gC;refine aF ?_;rw [aQ,jM (by omega),bE];rw [oW (by omega)]at he;exact aM (hF he.symm)
 | succ r ih=>
  intro i m hi hm he;obtain⟨m,rfl⟩:=bH (show m≠0 by omega);rw [lC];unfold gC;refine aF ?_;have hlt:i<l.length:=by omega
  obtain⟨q,hq,PZ⟩:=h.at (i:=i) (aT hlt);rw [aQ,zJ hlt,bW,hq,PZ S (.refl S)];refine hf l[i] (cO hlt) _ ?_;rw [mB hlt,List.any_cons]at he;cases hp:p l[i]with
  | true=>
   rw [hp,Bool.true_or]at he;rw [bW];exact aM (hT he.symm i)
  | false=>
   rw [hp,Ad]at he;rw [bE,bG (by omega)];exact ih (i+1) m (by omega) (by omega) he
theorem aMu (hM:1000000<M) (hx:Deep PP bK gM M (n+2) x){v:V}{l:List Nat} (h:NV S v l) (hl:l.length<1000000){c:FuncId}{cs:List V}{p:Nat->Bool}
 (hf:∀y,Deep PP bK gM M n y->∀a∈l,∀K:KV,K (.bool (p a)) S->y.call c (nu a::cs) S K) (hK:K (.bool (l.any p)) S):x.call eS [v,.func c [] cs] S K:=by
 refine hx.call aMr fun y hy=>?_;rw [wR];unfold mR;refine hy.call aPz fun u hu=>?_;rw [zA];unfold oG;rw [h.len,hu.most];refine aMt (x:=u) (f:= .func c [] cs) h hl (p:=p) (fun a ha K hk=>hf u hu a ha K hk) (fun e j=>?_) (fun e=>?_) l.length 0 M (by omega) (by omega) rfl
 ·rw [e]at hK
  rw [zX];exact aM (by rw [bI (zT j)];exact hK)
 ·rw [e]at hK
  rw [CH];exact aM hK
theorem aKb{v:V}{l:List (List Nat)} (h:RL S0 S v l) (hl:l.length<1000000){f:V}{p:List Nat->Bool}
 (hf:∀a∈l,∀w,NL S0 S w a->∀K:KV,K (.bool (p a)) S->mH x f [w] S K) (hT:l.any p=true->∀j:Nat,K (ni j) S) (hF:l.any p=false->K (.int .i64 (.negSucc 0)) S):
 ∀(r i m:Nat),i+r=l.length->r<m->(l.drop i).any p=l.any p->cQ x m v f (ni l.length) (ni i) S K:=by
 intro r;induction r with
 | zero=>
  intro i m hi hm he;obtain⟨m,rfl⟩:=bH (show m≠0 by omega);rw [iC];unfold dX;refine aF ?_;rw [aQ,jM (by omega),bE];rw [oW (by omega)]at he;exact aM (hF he.symm)
 | succ r ih=>
  intro i m hi hm he;obtain⟨m,rfl⟩:=bH (show m≠0 by omega);rw [iC];unfold dX;refine aF ?_;have hlt:i<l.length:=by omega
  obtain⟨q,w,hq,PZ,hw⟩:=h.at (i:=i) (aT hlt);rw [aQ,zJ hlt,bW,hq,PZ S (.refl S)];refine hf l[i] (cO hlt) w hw _ ?_;rw [mB hlt,List.any_cons]at he;cases hp:p l[i]with
  | true=>
   rw [hp,Bool.true_or]at he;rw [bW];exact aM (hT he.symm i)
  | false=>
   rw [hp,Ad]at he;rw [bE,bG (by omega)];exact ih (i+1) m (by omega) (by omega) he
theorem aBT (hM:1000000<M) (hx:Deep PP bK gM M (n+2) x){v:V}{l:List (List Nat)} (h:RL S0 S v l) (hl:l.length<1000000){c:FuncId}{cs:List V}{p:List Nat->Bool}
 (hf:∀y,Deep PP bK gM M n y->∀a∈l,∀w,NL S0 S w a->∀K:KV,K (.bool (p a)) S->y.call c (w::cs) S K) (hK:K (.bool (l.any p)) S):x.call cH [v,.func c [] cs] S K:=by
 refine hx.call aKa fun y hy=>?_;rw [qB];unfold iT;refine hy.call aMs fun u hu=>?_;rw [rW];unfold jT;rw [h.len,hu.most];refine aKb (x:=u) (f:= .func c [] cs) h hl (p:=p) (fun a ha w hw K hk=>hf u hu a ha w hw K hk) (fun e j=>?_) (fun e=>?_) l.length 0 M (by omega) (by omega) rfl
 ·rw [e]at hK
  rw [zX];exact aM (by rw [bI (zT j)];exact hK)
 ·rw [e]at hK
  rw [CH];exact aM hK
def AV (l:List (List Nat)):Bool:=decide (l.length=2)&& !(l.any fun c=> !decide (c.length=2) || c.any fun x=> !Jg x)
theorem aKc:gM oH=none:=rfl
theorem aRY:gM ED=none:=rfl
theorem aPA:gM zB=none:=rfl
theorem aMv:gM vF=none:=rfl
theorem aPB:gM vG=none:=rfl
theorem aE7{t:TypeId}{a b:Nat}{k:V->Prop}:aJ PP .neq t (ni a) (ni b) k=k (.bool (!decide (a=b))):=yB
theorem sH{op:KV->Prop}{S:Hp}{k:KV}:aH false (.bool true) op S k=k WM S:=rfl
theorem aMw (hM:1000000<M) (hx:Deep PP bK gM M (n+4) x){b a:Nat} (ha:EQ a) (rb:S b=some (.row (pv two) 29)) (hK:K (.bool (!Jg a)) S):x.call vF [nu a,.ptr b 0] S K:=by
 refine hx.call aMv fun y hy=>?_;rw [Bp];unfold LU;rw [lA rb];refine aTE (two:=two) hM hy ha ?_;exact aM hK
theorem aPC (hM:1000000<M) (hx:Deep PP bK gM M (n+7) x){w:V}{l:List Nat}{b c:Nat} (hw:NL S0 S w l) (TV:LC l) (rb:S b=some (.row (pv two) 29)) (rc:S c=some (.row [ni 2] 3)) (hK:K (.bool (!decide (l.length=2) || l.any fun x=> !Jg x)) S):x.call zB [w,.ptr c 0,.ptr b 0] S K:=by
 refine hx.call aPA fun y hy=>?_;rw [Hs];unfold PR;rw [hw.nv.len,cT rc rfl,aE7];by_cases e:l.length=2
 ·rw [bI e]at hK ⊢
  simp only [aE,fL,aN];refine aMu (n:=n+4) hM hy hw.nv (by omega) (p:=fun x=> !Jg x) (fun u hu a ha K hk=>aMw (two:=two) hM hu (TV a ha) rb hk) ?_;exact aM hK
 ·rw [bO e]at hK ⊢
  simp only [aE,DB,sH];exact aM hK
theorem aPD (hx:Deep PP bK gM M (n+1) x) (hK:K (ni 2) S):x.call vG [.agg (pv two)] S K:=by
 refine hx.call aPB fun y hy=>?_;rw [Bq];unfold LV;refine cC jN fun b hb=>?_;rw [aY,cT (o:=7) aB rfl,aY,cT (o:=8) aB rfl,bG (by decide),Be (by decide)];exact bL (.aK hb) hK
theorem aRZ (hM:1000000<M) (hx:Deep PP bK gM M (n+10) x){v:V}{l:List (List Nat)} (h:RL S0 S v l) (TV:∀c∈l,LC c) (hK:K (.bool (AV l)) S):x.call ED [.agg (pv two),v,ni 2,ni 2] S K:=by
 refine hx.call aRY fun y hy=>?_;rw [Qf];unfold WU;refine cC jN fun b hb=>?_;have dL:bU S (aL S b (.row (pv two) 29)):= .aK hb;have rb:aL S b (.row (pv two) 29) b=some (.row (pv two) 29):=aB;generalize aL S b (.row (pv two) 29)=S1 at dL rb;refine YG rfl fun c hc=>?_;have fO:bU S1 (aL S1 c (.row [ni 2] 3)):= .aK hc;have rc:aL S1 c (.row [ni 2] 3) c=some (.row [ni 2] 3):=aB;generalize aL S1 c (.row [ni 2] 3)=S2 at fO rc;have rb:=fO _ _ rb;have le:=dL.trans fO;rw [(h.up le).len,IK];by_cases e:l.length=2
 ·have e2:AV l= !(l.any fun c=> !decide (c.length=2) || c.any fun x=> !Jg x):=by unfold AV;rw [bI e];rfl
  rw [bI e];simp only [aE,aN];refine aBT (n:=n+7) hM hy (h.up le) (by omega) (p:=fun c=> !decide (c.length=2) || c.any fun x=> !Jg x) (fun u hu a ha w hw K hk=>aPC (two:=two) hM hu hw (TV a ha) rb rc hk) ?_;rw [e2]at hK;exact bL le hK
 ·have e2:AV l=false:=by unfold AV;rw [bO e];rfl
  rw [bO e];simp only [aE,iS];rw [e2]at hK;exact bL le hK
theorem Pf (hM:1000000<M) (hx:Deep PP bK gM M (n+11) x){v:V}{l:List (List Nat)} (h:RL S0 S v l) (TV:∀c∈l,LC c) (hK:K (.bool (AV l)) S):x.call oH [.agg (pv two),v] S K:=by
 refine hx.call aKc fun y hy=>?_;rw [Ez];unfold NF;refine cC jN fun b hb=>?_;have dL:bU S (aL S b (.row (pv two) 29)):= .aK hb;have rb:aL S b (.row (pv two) 29) b=some (.row (pv two) 29):=aB;generalize aL S b (.row (pv two) 29)=S1 at dL rb;have all:∀{K:KV},bR 12 (.ptr b 0) S1 K=K (.agg (pv two)) S1:=lA rb;have same:∀{p:Prop},aU (.agg (pv two)) (.agg (pv two)) p=p:=fun {p}=>cN rfl;have l6:∀{K:KV},aW (.ptr b 6) S1 K=K (ni 1) S1:=cT rb rfl;simp only [all,aY,l6];rw [show aJ PP .add 3 (ni 1) (.int .i64 (.ofNat 1))=fun k=>k (ni 2)from by funext k;exact bG (by decide)];refine aPD (two:=two) hy ?_;simp only [all,same,l6,cE];refine aRZ (two:=two) hM hy (h.up dL) TV ?_;simp only [l6,cE];exact bL dL hK
end
end Go.Am
set_option maxRecDepth 100000
namespace Go.Am
def mX (x:VE) (m:Nat) (t7 t8 t9 t26 t27:V) (S:Hp) (K:KV):Prop:=dW PP bK FX x [.r,.r,.r,.r,.l,.r,.d] m [] [t7,t8,t9,t26,t27] S K
def Qc (x:VE) (a0 a1 a2:V) (S:Hp) (K:KV):Prop:=
 iG 29 a0 S fun v0 S=>
 aV 6 v0 fun v1=>
 aW v1 S fun v2 S=>
 aJ PP .add 3 v2 (.int .i64 (.ofNat 1)) fun v3=>
 aJ PP .mul 3 v3 v3 fun v4=>
 aJ PP .sub 3 v4 (.int .i64 (.ofNat 1)) fun v5=>
 aV 1 v0 fun v6=>
 aW v6 S fun v7 S=>
 x.call sG [a1,v5,v7,a2] S fun v8 S=>
 vMk 51 24 [(.slice none 0 0)] v3 v3 S fun v9 S=>
 bP v9 fun v10=>
 mX x x.most v3 v8 v9 v10 (.int .i64 (.ofNat 0)) S K
theorem aDA (x:VE) (a0 a1 a2:V) (S:Hp) (K:KV):jX PP bK FX x [a0,a1,a2] S K=Qc x a0 a1 a2 S K:=by kernel_rfl
def AF (x:VE) (m0:Nat) (t7 t8 t9 t26 t27:V) (S:Hp) (K:KV):Prop:=
 cR S fun S=>
 aJ PP .lss 3 t27 t26 fun v0=>
 iR v0 (aJ PP .mul 3 t27 t7 fun v1=>aJ PP .add 3 t27 (.int .i64 (.ofNat 1)) fun v2=>aJ PP .mul 3 v2 t7 fun v3=>aJ PP .add 3 t27 (.int .i64 (.ofNat 1)) fun v4=>aJ PP .mul 3 v4 t7 fun v5=>LG 22 1 t8 (some v1) (some v3) (some v5) S fun v6=>cV 1 t9 t27 fun v7=>nI 1 v7 v6 S fun S=>aJ PP .add 3 t27 (.int .i64 (.ofNat 1)) fun v8=>mX x m0 t7 t8 t9 t26 v8 S K) (bF t9 S K)
theorem IY (x:VE) (m0:Nat) (t7 t8 t9 t26 t27:V) (S:Hp) (K:KV):mX x (m0+1) t7 t8 t9 t26 t27 S K=AF x m0 t7 t8 t9 t26 t27 S K:=by kernel_rfl
def pT (x:VE) (m:Nat) (t0 t1 t5 t11 t12:V) (S:Hp) (K:KV):Prop:=dW PP bK pA x [.r,.r,.l,.r,.d] m [] [t0,t1,t5,t11,t12] S K
def Ef (x:VE) (a0 a1:V) (S:Hp) (K:KV):Prop:=
 bP a0 fun v0=>
 vMk 145 16 [(.int .u64 (.ofNat 0)),(.int .u64 (.ofNat 0))] v0 v0 S fun v1 S=>
 bP v1 fun v2=>
 pT x x.most a0 a1 v1 v2 (.int .i64 (.ofNat 0)) S K
theorem Ya (x:VE) (a0 a1:V) (S:Hp) (K:KV):jX PP bK pA x [a0,a1] S K=Ef x a0 a1 S K:=by kernel_rfl
def zZ (x:VE) (m0:Nat) (t0 t1 t5 t11 t12:V) (S:Hp) (K:KV):Prop:=
 cR S fun S=>
 aJ PP .lss 3 t12 t11 fun v0=>
 iR v0 (cV 1 t0 t12 fun v1=>aW v1 S fun v2 S=>cV 1 t1 t12 fun v3=>aW v3 S fun v4 S=>cS [(.int .u64 (.ofNat 0)),(.int .u64 (.ofNat 0))] [(0,1,v2),(1,1,v4)] fun v5=>cV 2 t5 t12 fun v6=>nI 2 v6 v5 S fun S=>aJ PP .add 3 t12 (.int .i64 (.ofNat 1)) fun v7=>pT x m0 t0 t1 t5 t11 v7 S K) (bF t5 S K)
theorem IT (x:VE) (m0:Nat) (t0 t1 t5 t11 t12:V) (S:Hp) (K:KV):pT x (m0+1) t0 t1 t5 t11 t12 S K=zZ x m0 t0 t1 t5 t11 t12 S K:=by kernel_rfl
def MZ (x:VE) (a0 a1 a2:V) (S:Hp) (K:KV):Prop:=
 iG 29 a0 S fun v0 S=>
 dQ [(.slice none 0 0)] 76 S fun v1 S=>
 x.call gW [a1,a2] S fun v2 S=>
 OC x v2 [3,7] [v0,v1] 23 (DY PP bN [.r,.r,.l,.r,.d]) (DZ PP bN [.r,.r,.l,.r,.d]) (yU PP bN [.r,.r,.l,.r,.d]) S fun pe S=>
 SX pe (aW v1 S fun v4 S=>bF v4 S K) (bF .nil S K) (fun v3=>ZL v3 0 (aW v1 S fun v5 S=>bF v5 S K) (False))
theorem Ea (x:VE) (a0 a1 a2:V) (S:Hp) (K:KV):jX PP bK bN x [a0,a1,a2] S K=MZ x a0 a1 a2 S K:=by kernel_rfl
def AT (x:VE) (l:Nat) (t3 t7 a0 a1:V) (S:Hp) (K:KV):Prop:=
 ZK l S fun S=>
 aW t7 S fun v0 S=>
 bR 12 t3 S fun v1 S=>
 x.call aR [v1,a0,a1] S fun v2 S=>
 aW t7 S fun v3 _=>
 aU v3 v0 (aW t7 S fun v4 _=>aU v4 v0 ((aS 33 1 [(.slice none 0 0)] [(0,1,v2)] S fun v5 S=>True)/\(aS 33 1 [(.slice none 0 0)] [(0,1,v2)] S fun v6 S=>jW 33 1 24 v0 v6 S fun v7 S=>nI 1 t7 v7 S fun S=>IX l .ready none true S K)))
theorem PH (x:VE) (l:Nat) (t3 t7 a0 a1:V) (S:Hp) (K:KV):WP PP bK x 23 (DY PP bN [.r,.r,.l,.r,.d]) (DZ PP bN [.r,.r,.l,.r,.d]) (yU PP bN [.r,.r,.l,.r,.d]) l [t3,t7] [a0,a1] S K=AT x l t3 t7 a0 a1 S K:=by kernel_rfl
theorem PG:[3,7]=YY bK 23 (yU PP bN [.r,.r,.l,.r,.d]):=by kernel_rfl
def qT (x:VE) (a0 a1:V) (S:Hp) (K:KV):Prop:=
 iG 76 a0 S fun v0 S=>
 iG 76 a1 S fun v1 S=>
 bF (.func cY [] [v0,v1]) S K
theorem CR (x:VE) (a0 a1:V) (S:Hp) (K:KV):jX PP bK gW x [a0,a1] S K=qT x a0 a1 S K:=by kernel_rfl
def fE (x:VE) (m:Nat) (t0 t1 t2 t9 t10:V) (S:Hp) (K:KV):Prop:=dW PP bK cY x [.r,.d] m [] [t0,t1,t2,t9,t10] S K
def pG (x:VE) (a0 a1 a2:V) (S:Hp) (K:KV):Prop:=
 aW a1 S fun v0 S=>
 bP v0 fun v1=>
 aW a2 S fun v2 S=>
 bP v2 fun v3=>
 Bg true v1 v3 fun v4=>
 fE x x.most a0 a1 a2 v4 (.int .i64 (.ofNat 0)) S K
theorem AS (x:VE) (a0 a1 a2:V) (S:Hp) (K:KV):jX PP bK cY x [a0,a1,a2] S K=pG x a0 a1 a2 S K:=by kernel_rfl
def iJ (x:VE) (m0:Nat) (t0 t1 t2 t9 t10:V) (S:Hp) (K:KV):Prop:=
 cR S fun S=>
 aJ PP .lss 3 t10 t9 fun v0=>
 iR v0 (aW t1 S fun v1 S=>aW t2 S fun v2 S=>x.call fR [v1,t10] S fun v3 S=>aW t2 S fun v4 _=>aU v4 v2 (x.call fR [v2,t10] S fun v5 S=>mH x t0 [v3,v5] S fun v6 S=>SP .not v6 fun v7=>iR v7 (bF (.tuple []) S K) (aJ PP .add 3 t10 (.int .i64 (.ofNat 1)) fun v8=>fE x m0 t0 t1 t2 t9 v8 S K))) (bF (.tuple []) S K)
theorem nB (x:VE) (m0:Nat) (t0 t1 t2 t9 t10:V) (S:Hp) (K:KV):fE x (m0+1) t0 t1 t2 t9 t10 S K=iJ x m0 t0 t1 t2 t9 t10 S K:=by kernel_rfl
def tI (x:VE) (a0 a1:V) (S:Hp) (K:KV):Prop:=
 bP a0 fun v0=>
 aJ PP .geq 3 a1 v0 fun v1=>
 iR v1 (bF .nil S K) (cV 1 a0 a1 fun v2=>aW v2 S fun v3 S=>bF v3 S K)
theorem FY (x:VE) (a0 a1:V) (S:Hp) (K:KV):jX PP bK fR x [a0,a1] S K=tI x a0 a1 S K:=by kernel_rfl
def Iy (x:VE) (a0 a1 a2:V) (S:Hp) (K:KV):Prop:=
 iG 22 a1 S fun v0 S=>
 iG 22 a2 S fun v1 S=>
 x.call yV [a0] S fun v2 S=>
 vMk 22 8 [(.int .u64 (.ofNat 0))] v2 v2 S fun v3 S=>
 dQ [(.slice none 0 0)] 51 S fun v4 S=>
 nI 1 v4 v3 S fun S=>
 x.call BE [a0] S fun v5 S=>
 OC x v5 [4,5,7] [v0,v1,v4] 25 (DY PP cI [.r,.r,.l,.r,.d]) (DZ PP cI [.r,.r,.l,.r,.d]) (yU PP cI [.r,.r,.l,.r,.d]) S fun pe S=>
 SX pe (aW v4 S fun v7 S=>bF v7 S K) (bF .nil S K) (fun v6=>ZL v6 0 (aW v4 S fun v8 S=>bF v8 S K) (False))
theorem aBi (x:VE) (a0 a1 a2:V) (S:Hp) (K:KV):jX PP bK cI x [a0,a1,a2] S K=Iy x a0 a1 a2 S K:=by kernel_rfl
def LJ (x:VE) (l:Nat) (t4 t5 t7 a0 a1:V) (S:Hp) (K:KV):Prop:=
 ZK l S fun S=>
 aW t7 S fun v0 S=>
 aW t4 S fun v1 S=>
 aW t5 S fun v2 S=>
 x.call uJ [a1,v1,v2] S fun v3 S=>
 aW t7 S fun v4 _=>
 aU v4 v0 (cV 1 v0 a0 fun v5=>nI 1 v5 v3 S fun S=>IX l .ready none true S K)
theorem Ee (x:VE) (l:Nat) (t4 t5 t7 a0 a1:V) (S:Hp) (K:KV):WP PP bK x 25 (DY PP cI [.r,.r,.l,.r,.d]) (DZ PP cI [.r,.r,.l,.r,.d]) (yU PP cI [.r,.r,.l,.r,.d]) l [t4,t5,t7] [a0,a1] S K=LJ x l t4 t5 t7 a0 a1 S K:=by kernel_rfl
theorem Ed:[4,5,7]=YY bK 25 (yU PP cI [.r,.r,.l,.r,.d]):=by kernel_rfl
def rT (x:VE) (m:Nat) (t1 t2 t7 t13 t14 t15:V) (S:Hp) (K:KV):Prop:=dW PP bK lU x [.r,.r,.l,.r,.d] m [] [t1,t2,t7,t13,t14,t15] S K
def Iz (x:VE) (a0 a1 a2:V) (S:Hp) (K:KV):Prop:=
 bP a0 fun v0=>
 vMk 22 8 [(.int .u64 (.ofNat 0))] v0 v0 S fun v1 S=>
 bP a0 fun v2=>
 rT x x.most a1 a2 v1 a0 v2 (.int .i64 (.ofNat 0)) S K
theorem aBj (x:VE) (a0 a1 a2:V) (S:Hp) (K:KV):jX PP bK lU x [a0,a1,a2] S K=Iz x a0 a1 a2 S K:=by kernel_rfl
def BU (x:VE) (m0:Nat) (t1 t2 t7 t13 t14 t15:V) (S:Hp) (K:KV):Prop:=
 cR S fun S=>
 aJ PP .lss 3 t15 t14 fun v0=>
 iR v0 (cV 1 t13 t15 fun v1=>aW v1 S fun v2 S=>x.call uJ [v2,t1,t2] S fun v3 S=>cV 1 t7 t15 fun v4=>nI 1 v4 v3 S fun S=>aJ PP .add 3 t15 (.int .i64 (.ofNat 1)) fun v5=>rT x m0 t1 t2 t7 t13 t14 v5 S K) (bF t7 S K)
theorem LK (x:VE) (m0:Nat) (t1 t2 t7 t13 t14 t15:V) (S:Hp) (K:KV):rT x (m0+1) t1 t2 t7 t13 t14 t15 S K=BU x m0 t1 t2 t7 t13 t14 t15 S K:=by kernel_rfl
def uY (x:VE) (m:Nat) (t3 t6 t7 t8:V) (S:Hp) (K:KV):Prop:=dW PP bK yV x [.r,.r,.l,.r,.d] m [] [t3,t6,t7,t8] S K
def Eb (x:VE) (a0:V) (S:Hp) (K:KV):Prop:=
 bP a0 fun v0=>
 uY x x.most (.int .i64 (.ofNat 0)) a0 v0 (.int .i64 (.ofNat 0)) S K
theorem Xz (x:VE) (a0:V) (S:Hp) (K:KV):jX PP bK yV x [a0] S K=Eb x a0 S K:=by kernel_rfl
def zY (x:VE) (m0:Nat) (t3 t6 t7 t8:V) (S:Hp) (K:KV):Prop:=
 cR S fun S=>
 aJ PP .lss 3 t8 t7 fun v0=>
 iR v0 (cV 1 t6 t8 fun v1=>aW v1 S fun v2 S=>bP v2 fun v3=>Bg true t3 v3 fun v4=>aJ PP .add 3 t8 (.int .i64 (.ofNat 1)) fun v5=>uY x m0 v4 t6 t7 v5 S K) (bF t3 S K)
theorem IR (x:VE) (m0:Nat) (t3 t6 t7 t8:V) (S:Hp) (K:KV):uY x (m0+1) t3 t6 t7 t8 S K=zY x m0 t3 t6 t7 t8 S K:=by kernel_rfl
def SW (x:VE) (a0:V) (S:Hp) (K:KV):Prop:=
 iG 33 a0 S fun v0 S=>
 aW v0 S fun v1 S=>
 x.call NZ [v1] S fun v2 S=>
 dQ [.nilFunc] 272 S fun v3 S=>
 nI 1 v3 v2 S fun S=>
 bF (.func jR [] [v0,v3]) S K
theorem Jw (x:VE) (a0:V) (S:Hp) (K:KV):jX PP bK BE x [a0] S K=SW x a0 S K:=by kernel_rfl
def nT (x:VE) (m:Nat) (t0 t1 t2 t8 t9:V) (S:Hp) (K:KV):Prop:=dW PP bK jR x [.r,.d] m [] [t0,t1,t2,t8,t9] S K
def jI (x:VE) (m:Nat) (m0:Nat) (t0 t1 t2 t4 t5 t8 t9 t13 t14:V) (S:Hp) (K:KV):Prop:=dW PP bK jR x [.r,.d,.d,.r,.r,.l,.d,.r,.r,.l,.r,.d] m [m0] [t0,t1,t2,t4,t5,t8,t9,t13,t14] S K
def NA (x:VE) (a0 a1 a2:V) (S:Hp) (K:KV):Prop:=
 aW a1 S fun v0 S=>
 x.call yV [v0] S fun v1 S=>
 nT x x.most a0 a1 a2 v1 (.int .i64 (.ofNat 0)) S K
theorem Ec (x:VE) (a0 a1 a2:V) (S:Hp) (K:KV):jX PP bK jR x [a0,a1,a2] S K=NA x a0 a1 a2 S K:=by kernel_rfl
def wN (x:VE) (m0:Nat) (t0 t1 t2 t8 t9:V) (S:Hp) (K:KV):Prop:=
 cR S fun S=>
 aJ PP .lss 3 t9 t8 fun v0=>
 iR v0 (aW t1 S fun v1 S=>bP v1 fun v2=>jI x x.most m0 t0 t1 t2 t9 .nil t8 t9 v2 (.int .i64 (.ofNat 0)) S K) (bF (.tuple []) S K)
theorem EX (x:VE) (m0:Nat) (t0 t1 t2 t8 t9:V) (S:Hp) (K:KV):nT x (m0+1) t0 t1 t2 t8 t9 S K=wN x m0 t0 t1 t2 t8 t9 S K:=by kernel_rfl
def mI (x:VE) (m1:Nat) (m0:Nat) (t0 t1 t2 t4 t5 t8 t9 t13 t14:V) (S:Hp) (K:KV):Prop:=
 cR S fun S=>
 aJ PP .lss 3 t14 t13 fun v0=>
 iR v0 (aW t2 S fun v1 S=>mH x v1 [t14,t4] S fun v2 S=>aS 22 1 [(.int .u64 (.ofNat 0))] [(0,1,v2)] S fun v3 S=>jW 22 1 8 t5 v3 S fun v4 S=>aJ PP .add 3 t14 (.int .i64 (.ofNat 1)) fun v5=>jI x m1 m0 t0 t1 t2 t4 v4 t8 t9 t13 v5 S K) (mH x t0 [t4,t5] S fun v6 S=>SP .not v6 fun v7=>iR v7 (bF (.tuple []) S K) (aJ PP .add 3 t9 (.int .i64 (.ofNat 1)) fun v8=>nT x m0 t0 t1 t2 t8 v8 S K))
theorem sP (x:VE) (m1:Nat) (m0:Nat) (t0 t1 t2 t4 t5 t8 t9 t13 t14:V) (S:Hp) (K:KV):jI x (m1+1) m0 t0 t1 t2 t4 t5 t8 t9 t13 t14 S K=mI x m1 m0 t0 t1 t2 t4 t5 t8 t9 t13 t14 S K:=by kernel_rfl
def ZD (x:VE) (a0:V) (S:Hp) (K:KV):Prop:=
 iG 33 a0 S fun v0 S=>
 bF (.func jA [] [v0]) S K
theorem Sf (x:VE) (a0:V) (S:Hp) (K:KV):jX PP bK NZ x [a0] S K=ZD x a0 S K:=by kernel_rfl
def SV (x:VE) (a0 a1 a2:V) (S:Hp) (K:KV):Prop:=
 aW a2 S fun v0 S=>
 cV 1 v0 a0 fun v1=>
 aW v1 S fun v2 S=>
 bP v2 fun v3=>
 aJ PP .geq 3 a1 v3 fun v4=>
 iR v4 (bF (.int .u64 (.ofNat 0)) S K) (aW a2 S fun v5 S=>cV 1 v5 a0 fun v6=>aW v6 S fun v7 S=>cV 1 v7 a1 fun v8=>aW v8 S fun v9 S=>bF v9 S K)
theorem Jv (x:VE) (a0 a1 a2:V) (S:Hp) (K:KV):jX PP bK jA x [a0,a1,a2] S K=SV x a0 a1 a2 S K:=by kernel_rfl
end Go.Am
set_option maxRecDepth 4000
namespace Go.Am
open Go.Proofs.OG
def AQ (n:Nat) (l:List Nat):List (List Nat):=(List.range n).map fun i=>(l.drop (i*n)).take n
theorem Hg (n:Nat) (l:List Nat):(AQ n l).length=n:=by unfold AQ;simp
theorem aIF (l:List Nat) (k:Nat):(kK l).drop k=kK (l.drop k):=by unfold kK;rw [List.map_drop]
theorem aIG (l:List Nat) (k:Nat):(kK l).take k=kK (l.take k):=by unfold kK;rw [List.map_take]
section
variable{M n:Nat}{x:VE}{S:Hp}{K:KV}{two:Bool}{t d:Nat}{s:BitVec 64}{ah:List Nat}
theorem aRj:gM FX=none:=rfl
def tQ (two:Bool):Nat:=(tT two+1)*(tT two+1)-1
end
end Go.Am
set_option maxRecDepth 4000
namespace Go.Am
def mD (l:List (List (List Nat))):List Dt:=l.map fun m=> .list (eL m) m.length
theorem RG (l:List (List (List Nat))):(mD l).length=l.length:=mE _
theorem aBg{l:List (List (List Nat))}{i:Nat}{m:List (List Nat)} (h:l[i]? =some m):(mD l)[i]? =some (.list (eL m) m.length):=by unfold mD;rw [eH,h];rfl
theorem Xy (l m:List (List (List Nat))):mD (l++m)=mD l++mD m:=QE
def tH (fs bs:List (List (List Nat))):List (List (List Nat)):=List.zipWith iQ fs bs
theorem aGf{f r:List (List (List Nat))}{i:Nat} (h1:i<f.length) (h2:i<r.length):(tH f r).take (i+1)=(tH f r).take i++[iQ f[i] r[i]]:=by
 have hl:i<(List.zipWith iQ f r).length:=by rw [uO];omega
 show(List.zipWith iQ f r).take (i+1)=(List.zipWith iQ f r).take i++[iQ f[i] r[i]];rw [KA,aT hl,Lv];rfl
section
variable{M n:Nat}{x:VE}{S S0:Hp}{K:KV}{two:Bool}
theorem aRk:gM fR=none:=rfl
theorem aTl:gM gW=none:=rfl
theorem aRl:gM cY=none:=rfl
theorem aIH:gM bN=none:=rfl
theorem aNw (hx:Deep PP bK gM M (n+1) x){v:V}{ls:List (List (List Nat))} (h:GL 33 S0 S v (mD ls)){i:Nat} (hi:i<ls.length) (hK:∀t,K (.list t (eL ls[i]) ls[i].length) S):x.call fR [v,ni i] S K:=by
 refine hx.call aRk fun y hy=>?_;rw [FY];unfold tI;obtain⟨p,t,hp,PZ⟩:=h.at (aBg (aT hi));rw [h.len,RG,zX,bO (by omega),bE,hp,PZ S (.refl S)];exact aM (hK t)
theorem aII (hx:Deep PP bK gM M (n+1) x){v w:V} (h1:gB v=true) (h2:gB w=true) (hK:∀b1 b2 S',S b1=none->S b2=none->b1≠b2->bU S S'->S' b1=some (.row [v] 76)->S' b2=some (.row [w] 76)->K (.func cY [] [.ptr b1 0,.ptr b2 0]) S'):x.call gW [v,w] S K:=by
 refine hx.call aTl fun y hy=>?_;rw [CR];unfold qT;refine YG h1 fun b1 By=>YG h2 fun b2 MP=>aM ?_;have dL:bU S (aL S b1 (.row [v] 76)):= .aK By;have oM:b1≠b2:=fun e=>by rw [<-e,aB]at MP;cases MP
 exact hK b1 b2 _ By (dL.none MP) oM (dL.trans (.aK MP)) (by rw [aC oM];exact aB) aB
theorem aIJ (hM:1000000<M) (hx:Deep PP bK gM M (n+3) x){l b1 b2:Nat}{va vb:V}{a b:List (List (List Nat))} (hlen:b.length=a.length) (hl:a.length<1000000){Inv:Nat->Hp->Prop}{Oa:Hp} (hI:∀i S,Inv i S->S b1=some (.row [va] 76)/\S b2=some (.row [vb] 76)/\GL 33 Oa S va (mD a)/\GL 33 Oa S vb (mD b))
 (step:∀(y:VE),Deep PP bK gM M (n+2) y->∀(i:Nat) (S:Hp) (h1:i<a.length) (h2:i<b.length) (t1 t2:Tag) (K:KV),Inv i S->(∀S',Inv (i+1) S'->K (.bool true) S')->y.R l [.list t1 (eL a[i]) a[i].length,.list t2 (eL b[i]) b[i].length] S K) (h0:Inv 0 S) (hK:∀S,Inv a.length S->K (.tuple []) S):x.call cY [.yield l,.ptr b1 0,.ptr b2 0] S K:=by
 refine hx.call aRl fun y hy=>?_;rw [AS];unfold pG;obtain⟨q1,q2,q3,q4⟩:=hI 0 S h0;rw [cT q1 rfl,q3.len,cT q2 rfl,q4.len,RG,RG,hlen,aCV,hy.most]
 have:∀(r i m:Nat) (S:Hp),i+r=a.length->r<m->Inv i S->fE y m (.yield l) (.ptr b1 0) (.ptr b2 0) (ni a.length) (ni i) S K:=by
  intro r;induction r with
  | zero=>
   intro i m S hi hm h;obtain⟨m,rfl⟩:=bH (show m≠0 by omega);rw [nB];unfold iJ;refine aF ?_;rw [aQ,jM (by omega),bE];have e:i=a.length:=by omega
   subst e;exact aM (hK S h)
  | succ r ih=>
   intro i m S hi hm h;obtain⟨m,rfl⟩:=bH (show m≠0 by omega);rw [nB];unfold iJ;refine aF ?_;obtain⟨q1,q2,q3,q4⟩:=hI i S h;rw [aQ,zJ (by omega),bW,cT q1 rfl,cT q2 rfl];refine aNw hy q3 (show i<a.length by omega) fun t1=>?_;rw [cT q2 rfl,cN q4.same];refine aNw hy q4 (show i<b.length by omega) fun t2=>?_;refine step y hy i S (by omega) (by omega) t1 t2 _ h fun S' h'=>?_;rw [rC,fL,bE,bG (by omega)];exact ih (i+1) m S' (by omega) (by omega) h'
 exact this a.length 0 M S (by omega) (by omega) h0
def loM (a b:Nat) (st:LoopState):Ob:= .loop [3,7] [.ptr a 0,.ptr b 0] 23 (DY PP bN [.r,.r,.l,.r,.d]) (DZ PP bN [.r,.r,.l,.r,.d]) (yU PP bN [.r,.r,.l,.r,.d]) st none
structure aLQ (SA:Hp) (bp bo b1 b2 l:Nat) (two:Bool) (vf vr:V) (fs rs:List (List (List Nat))) (i:Nat) (S:Hp):Prop where
 le:bU SA S
 n1:SA bo=none
 n2:SA l=none
 rp:S bp=some (.row (pv two) 29)
 u:∃u,S bo=some (.row [u] 76)/\GL 33 SA S u (mD ((tH fs rs).take i))
 lo:S l=some (loM bp bo .ready)
 r1:S b1=some (.row [vf] 76)
 r2:S b2=some (.row [vr] 76)
 d1:bo≠l
 d2:bo≠b1
 d3:bo≠b2
 d4:l≠b1
 d5:l≠b2
 d6:bo≠bp
 d7:l≠bp
def Sq (f r:List (List Nat)):Prop:=(∀q∈f,LC q)/\(∀q∈r,LC q)/\(∀q∈f,q.length<100000)/\f.length<100000/\r.length=f.length/\∀i (h1:i<f.length) (h2:i<r.length),r[i].length=f[i].length
theorem aBh (hM:1000000<M) (hx:Deep PP bK gM M (n+16) x){SA:Hp}{bp bo b1 b2 l:Nat}{vf vr:V}{fs rs:List (List (List Nat))} (VZ:fs.length<100000){i:Nat}{S:Hp} (h1:i<fs.length) (h2:i<rs.length) (hsq:Sq fs[i] rs[i]){t1 t2:Tag}{K:KV}
 (h:aLQ SA bp bo b1 b2 l two vf vr fs rs i S) (hK:∀S',aLQ SA bp bo b1 b2 l two vf vr fs rs (i+1) S'->K (.bool true) S'):x.R l [.list t1 (eL fs[i]) fs[i].length,.list t2 (eL rs[i]) rs[i].length] S K:=by
 obtain⟨s1,s2,s3,s4,s5,s6⟩:=hsq;refine hx.round fun y hy=>?_;refine PE (st:= .ready) (pe:=none) h.lo PG ?_;rw [PH];unfold AT;refine WD h.lo ?_;obtain⟨v,hv,mv⟩:=h.u;have hbz:aL S l (.loop [3,7] [.ptr bp 0,.ptr bo 0] 23 (DY PP bN [.r,.r,.l,.r,.d]) (DZ PP bN [.r,.r,.l,.r,.d]) (yU PP bN [.r,.r,.l,.r,.d]) .busy none)=aL S l (loM bp bo .busy):=rfl;rw [hbz];have k1:bU SA (aL S l (loM bp bo .busy)):=EV h.le h.n2;have kl:aL S l (loM bp bo .busy) l=some (loM bp bo .busy):=aB;have ko:aL S l (loM bp bo .busy) bo=some (.row [v] 76):=by rw [aC h.d1];exact hv
 have kp:aL S l (loM bp bo .busy) bp=some (.row (pv two) 29):=by rw [aC (aP h.d7)];exact h.rp
 have k3:aL S l (loM bp bo .busy) b1=some (.row [vf] 76):=by rw [aC (aP h.d4)];exact h.r1
 have k4:aL S l (loM bp bo .busy) b2=some (.row [vr] 76):=by rw [aC (aP h.d5)];exact h.r2
 have km:GL 33 SA (aL S l (loM bp bo .busy)) v (mD ((tH fs rs).take i)):=mv.set h.lo (fun vs m e=>by cases e);generalize aL S l (loM bp bo .busy)=S1 at k1 kl ko kp k3 k4 km
 have lp:bR 12 (.ptr bp 0) S1=fun K=>K (.agg (pv two)) S1:=by
  funext K
  rw [tE kp,dR (by rw [BR];omega),xO,mC (by rw [BR];omega)]
 rw [cT ko rfl,lp];refine aLP (n:=n) (O:=S1) hM hy s1 s2 s3 s4 s5 s6 .val .val fun t3=>?_;have sv:∀{q:Prop},aU v v q=q:=fun {q}=>cN km.same;rw [cT ko rfl,sv,cT ko rfl,sv];have hT:∀{K:KV},(∀j,S1 j=none->K (.own j 0 1 1) (aL S1 j (.row [.list t3 (eL (iQ fs[i] rs[i])) (iQ fs[i] rs[i]).length] 33)))->aS 33 1 [(.slice none 0 0)] [(0,1,.list t3 (eL (iQ fs[i] rs[i])) (iQ fs[i] rs[i]).length)] S1 K:=fun {K} hk=>⟨rfl,by simp,hk⟩;refine⟨hT fun _ _=>trivial,?_⟩;refine km.app (t:=t3) (d:= .list (eL (iQ fs[i] rs[i])) (iQ fs[i] rs[i]).length) (z:= .slice none 0 0) (zv:= .nil) k1 (by rw [RG,mU];omega) rfl (by decide) fun u6 S6 UA p6 w6 m6=>?_;have e6:mD ((tH fs rs).take i)++[.list (eL (iQ fs[i] rs[i])) (iQ fs[i] rs[i]).length]=mD ((tH fs rs).take (i+1)):=by rw [aGf h1 h2,Xy];rfl
 rw [e6]at m6
 have q:∀{j:Nat} {o:Ob},S1 j=some o->(∀vs m,o≠ .gD vs 33 m)->S6 j=some o:=fun {j o} e xL=>p6 _ _ e fun m c=>by
  obtain⟨vs,n,e2⟩:=km.there c;rw [e]at e2;injection e2 with e2;exact xL _ _ e2
 have o6':=q ko (fun vs m e=>by cases e);have l6:=q kl (fun vs m e=>by cases e);rw [DV o6' (by simp) m6.one];have l7:aL S6 bo (.row ([v].set 0 u6) 76) l=some (loM bp bo .busy):=by rw [aC (aP h.d1)];exact l6
 refine WE l7 (hK _ ⟨EV (EV UA h.n1) h.n2,h.n1,h.n2,?_,⟨u6,by rw [aC h.d1];exact aB,?_⟩,aB,?_,?_,h.d1,h.d2,h.d3,h.d4,h.d5,h.d6,h.d7⟩)
 ·rw [aC (aP h.d7),aC (aP h.d6)];exact q kp (fun vs m e=>by cases e)
 ·exact(m6.set o6' (fun vs m e=>by cases e)).set l7 (fun vs m e=>by cases e)
 ·rw [aC (aP h.d4),aC (aP h.d2)];exact q k3 (fun vs m e=>by cases e)
 ·rw [aC (aP h.d5),aC (aP h.d3)];exact q k4 (fun vs m e=>by cases e)
theorem aIK (hM:1000000<M) (hx:Deep PP bK gM M (n+20) x){SA O:Hp}{vf vr:V}{fs rs:List (List (List Nat))} (VZ:fs.length<100000) (hlen:rs.length=fs.length) (hsq:∀i (h1:i<fs.length) (h2:i<rs.length),Sq fs[i] rs[i])
 (mf:GL 33 O SA vf (mD fs)) (mr:GL 33 O SA vr (mD rs)) (hK:∀t,K (.list t (mD (tH fs rs)) (tH fs rs).length) SA):x.call bN [.agg (pv two),vf,vr] SA K:=by
 refine hx.call aIH fun y hy=>?_;rw [Ea];unfold MZ;refine cC jN fun bp Oj=>?_;have dL:bU SA (aL SA bp (.row (pv two) 29)):= .aK Oj;have rp:aL SA bp (.row (pv two) 29) bp=some (.row (pv two) 29):=aB;generalize aL SA bp (.row (pv two) 29)=S1 at dL rp;refine cG rfl fun bo Zz=>?_;have fO:bU S1 (aL S1 bo (.row [.nil] 76)):= .aK Zz;have ro:aL S1 bo (.row [.nil] 76) bo=some (.row [.nil] 76):=aB;generalize aL S1 bo (.row [.nil] 76)=S2 at fO ro;refine aII hy mf.one mr.one fun b1 b2 S3 n1 n2 d12 pR r1 r2=>?_;refine PF fun l hl=>?_;have hlo:aL S3 l (.loop [3,7] [.ptr bp 0,.ptr bo 0] 23 (DY PP bN [.r,.r,.l,.r,.d]) (DZ PP bN [.r,.r,.l,.r,.d]) (yU PP bN [.r,.r,.l,.r,.d]) .ready none)=aL S3 l (loM bp bo .ready):=rfl;rw [hlo];have ro3:=pR _ _ ro;have Ju:=pR _ _ (fO _ _ rp);have EN:=(dL.trans fO).trans pR
 have q0:aLQ SA bp bo b1 b2 l two vf vr fs rs 0 (aL S3 l (loM bp bo .ready)):=
  ⟨EN.trans (.aK hl),dL.none Zz,EN.none hl,by rw [aC (aP (gF hl Ju))];exact Ju,⟨.nil,by rw [aC (aP (gF hl ro3))];exact ro3,.nil⟩,aB,by rw [aC (aP (gF hl r1))];exact r1,by rw [aC (aP (gF hl r2))];exact r2,
   aP (gF hl ro3),aP (gF n1 ro),aP (gF n2 ro),gF hl r1,gF hl r2,gF Zz rp,gF hl Ju⟩
 refine aIJ (n:=n+16) hM hy hlen (by omega) (Inv:=aLQ SA bp bo b1 b2 l two vf vr fs rs) (Oa:=O) (fun j S q=>⟨q.r1,q.r2,mf.up q.le,mr.up q.le⟩) (fun z hz j S a b t1 t2 K q hk=>aBh (n:=n+2) hM hz VZ a b (hsq j a b) q hk) q0 fun S4 q4=>?_;obtain⟨u4,ru4,m4⟩:=q4.u;have aRf:(tH fs rs).length=fs.length:=by unfold tH;rw [uO];omega
 rw [mC (by omega)]at m4;refine WF q4.lo (by simp) ?_;rw [Dz];obtain⟨ob,hex⟩:∃ob,aL S4 l (.loop [3,7] [.ptr bp 0,.ptr bo 0] 23 (DY PP bN [.r,.r,.l,.r,.d]) (DZ PP bN [.r,.r,.l,.r,.d]) (yU PP bN [.r,.r,.l,.r,.d]) .exhausted none)=aL S4 l ob:=⟨_,rfl⟩;rw [hex];have EW:bU SA (aL S4 l ob):=EV q4.le q4.n2;have ru5:aL S4 l ob bo=some (.row [u4] 76):=by rw [aC q4.d1];exact ru4
 have m5:GL 33 SA (aL S4 l ob) u4 (mD (tH fs rs)):=m4.set q4.lo (fun vs m e=>by cases e);rw [cT ru5 rfl];have fz:=m5.Bd;rw [RG]at fz;exact gP EW fz hK
end
end Go.Am
set_option maxRecDepth 4000
namespace Go.Am
open Go.Proofs.OG
def Oq (m:List (List Nat)):Nat:=m.foldl (fun n l=>max n l.length) 0
theorem aLR{k:Nat}:∀(m:List (List Nat)) (n:Nat),(∀q∈m,q.length=k)->n<=k->0<m.length->m.foldl (fun n l=>max n l.length) n=k:=by
 intro m;induction m with
 | nil=>intro n _ _ h;cases h
 | cons a m ih=>
  intro n h hn _;have ha:a.length=k:=h a List.mem_cons_self;rw [Ly,ha,Nat.max_eq_right hn];cases m with
  | nil=>rfl
  | cons b m=>exact ih k (fun q hq=>h q (List.mem_cons_of_mem _ hq)) (bQ _) (by simp)
theorem aRm{a b:Nat}{K:V->Prop}:Bg true (ni a) (ni b) K=K (ni (max a b)):=by
 show K (.int .i64 (max (Int.ofNat a) (Int.ofNat b)))=_
 congr 2
 simp only [UD];omega
theorem aOR{m:List (List Nat)}{i:Nat}{l:List Nat} (h:m[i]? =some l):(eL m)[i]? =some (.list (kK l) l.length):=by unfold eL;rw [eH,h];rfl
section
variable{M n:Nat}{x:VE}{S S0:Hp}{K:KV}{two:Bool}
theorem aEL{O:Tag}{m:List (List Nat)}{i:Nat} (h:i<m.length){K:KV}:aW (.uB O (eL m) i) S K=K (.list (.sub O i) (kK m[i]) m[i].length) S:=by
 rw [yA,cX (aOR (aT h))];rfl
theorem aCZ{O:Tag}{cs:List Dt}{c i:Nat} (h:i<c){k:V->Prop}:cV 1 (.list O cs c) (ni i) k=k (.uB O cs i):=by rw [jL h,kX]
theorem aOS:gM yV=none:=rfl
theorem aOT:gM BE=none:=rfl
theorem aLS:gM jR=none:=rfl
theorem aLT:gM NZ=none:=rfl
theorem aIL:gM jA=none:=rfl
theorem aOU:gM cI=none:=rfl
theorem aOV:gM lU=none:=rfl
theorem aIM:gM pA=none:=rfl
theorem aIN (hM:1000000<M) (hx:Deep PP bK gM M (n+1) x){O:Tag}{m:List (List Nat)} (hl:m.length<100000) (hK:K (ni (Oq m)) S):x.call yV [.list O (eL m) m.length] S K:=by
 refine hx.call aOS fun y hy=>?_;rw [Xz];unfold Eb;rw [cZ,hy.most]
 have go:∀(k i q a:Nat),i+k=m.length->k<q->(m.drop i).foldl (fun n l=>max n l.length) a=Oq m->uY y q (ni a) (.list O (eL m) m.length) (ni m.length) (ni i) S K:=by
  intro k;induction k with
  | zero=>
   intro i q a hi hq he;obtain⟨q,rfl⟩:=bH (show q≠0 by omega);rw [IR];unfold zY;refine aF ?_;rw [aQ,bO (by omega),bE];rw [Vf (by omega)]at he;have he:a=Oq m:=he;rw [he];exact aM hK
  | succ k ih=>
   intro i q a hi hq he;obtain⟨q,rfl⟩:=bH (show q≠0 by omega);rw [IR];unfold zY;refine aF ?_;have IQ:i<m.length:=by omega
   rw [aQ,bI IQ,bW,aCZ IQ,aEL IQ,cZ,aRm,bG (by omega)];refine ih (i+1) q _ (by omega) (by omega) ?_;rw [mB IQ]at he;exact he
 exact go m.length 0 M 0 (by omega) (by omega) rfl
def RH (m:List (List Nat)) (j:Nat):List Nat:=m.map fun l=>l.getD j 0
theorem aIO (hx:Deep PP bK gM M (n+1) x){O:Tag}{m:List (List Nat)}{br:Nat} (hb:S br=some (.row [.list O (eL m) m.length] 33)){i j:Nat} (hi:i<m.length) (hj:j<m[i].length) (hK:K (nu m[i][j]) S):x.call jA [ni i,ni j,.ptr br 0] S K:=by
 refine hx.call aIL fun y hy=>?_;rw [Jv];unfold SV;rw [cT hb rfl,aCZ hi,aEL hi,cZ,zX,bO (by omega),bE,cT hb rfl,aCZ hi,aEL hi,aCZ hj,yA,cX (Xp (aT hj))];exact aM hK
theorem aOW (hx:Deep PP bK gM M (n+2) x){O:Tag}{m:List (List Nat)} (hK:∀S' b0 b3 br,bU S S'->S b0=none->S b3=none->S br=none->S' b0=some (.row [.list O (eL m) m.length] 33)->S' b3=some (.row [.func jA [] [.ptr br 0]] 272)->S' br=some (.row [.list O (eL m) m.length] 33)->K (.func jR [] [.ptr b0 0,.ptr b3 0]) S'):x.call BE [.list O (eL m) m.length] S K:=by
 refine hx.call aOT fun y hy=>?_;rw [Jw];unfold SW;refine YG rfl fun b0 hb0=>?_;have dL:bU S (aL S b0 (.row [.list O (eL m) m.length] 33)):= .aK hb0;have r0:aL S b0 (.row [.list O (eL m) m.length] 33) b0=some (.row [.list O (eL m) m.length] 33):=aB;generalize aL S b0 (.row [.list O (eL m) m.length] 33)=S1 at dL r0;rw [cT r0 rfl];refine hy.call aLT fun z hz=>?_;rw [Sf];unfold ZD;refine YG rfl fun br hbr=>aM ?_;have fO:bU S1 (aL S1 br (.row [.list O (eL m) m.length] 33)):= .aK hbr;have rr:aL S1 br (.row [.list O (eL m) m.length] 33) br=some (.row [.list O (eL m) m.length] 33):=aB;generalize aL S1 br (.row [.list O (eL m) m.length] 33)=S2 at fO rr;refine cG (l:=[.Hh]) rfl fun b3 hb3=>?_;refine MX (i:=b3) aB rfl (by decide) ?_;rw [fD];have pR:bU S2 (aL S2 b3 (.row [.func jA [] [.ptr br 0]] 272)):= .aK hb3;exact aM (hK _ b0 b3 br ((dL.trans fO).trans pR) hb0 ((dL.trans fO).none hb3) (dL.none hbr) (pR _ _ (fO _ _ r0)) aB (pR _ _ rr))
theorem aLU (hM:1000000<M) (hx:Deep PP bK gM M (n+3) x){O:Tag}{m:List (List Nat)}{l b0 b3 br k:Nat} (hl:m.length<100000) (hk:Oq m=k) (hkk:k<100000) (hw:∀i (h:i<m.length),k<=m[i].length){Inv:Nat->Hp->Prop} (hup:∀i S S',Inv i S->bU S S'->Inv i S')
 (hI:∀i S,Inv i S->S b0=some (.row [.list O (eL m) m.length] 33)/\S b3=some (.row [.func jA [] [.ptr br 0]] 272)/\S br=some (.row [.list O (eL m) m.length] 33))
 (step:∀(y:VE),Deep PP bK gM M (n+2) y->∀(j:Nat) (S0 S:Hp) (hj:j<k) (c:V) (K:KV),Inv j S->MN S0 S c (RH m j)->(∀S',Inv (j+1) S'->K (.bool true) S')->y.R l [ni j,c] S K) (h0:Inv 0 S) (hK:∀S,Inv k S->K (.tuple []) S):x.call jR [.yield l,.ptr b0 0,.ptr b3 0] S K:=by
 refine hx.call aLS fun y hy=>?_;rw [Ec];unfold NA;obtain⟨q1,q2,q3⟩:=hI 0 S h0;rw [cT q1 rfl];refine aIN (n:=n+1) hM hy hl ?_;rw [hk,hy.most]
 have inner:∀(r i q m0 j:Nat) (S0 S:Hp) (c:V),j<k->i+r=m.length->r<q->Inv j S0->bU S0 S->MN S0 S c ((RH m j).take i)->(∀S' c,Inv j S'->MN S0 S' c (RH m j)->mH y (.yield l) [ni j,c] S' fun v6 S=>SP .not v6 fun v7=>iR v7 (bF (.tuple []) S K) (aJ PP .add 3 (ni j) (.int .i64 (.ofNat 1)) fun v8=>nT y m0 (.yield l) (.ptr b0 0) (.ptr b3 0) (ni k) v8 S K))->
  jI y q m0 (.yield l) (.ptr b0 0) (.ptr b3 0) (ni j) c (ni k) (ni j) (ni m.length) (ni i) S K:=by
  intro r;induction r with
  | zero=>
   intro i q m0 j S0 S c hj hi hq h hle mc aIP;obtain⟨q,rfl⟩:=bH (show q≠0 by omega);rw [sP];unfold mI;refine aF ?_;rw [aQ,jM (by omega),bE];rw [mC (by unfold RH;rw [mE];omega)]at mc;exact aIP S c (hup _ _ _ h hle) mc
  | succ r ih=>
   intro i q m0 j S0 S c hj hi hq h hle mc aIP;obtain⟨q,rfl⟩:=bH (show q≠0 by omega);rw [sP];unfold mI;refine aF ?_;have IQ:i<m.length:=by omega
   obtain⟨p1,p2,p3⟩:=hI j S (hup _ _ _ h hle);have Ri:j<m[i].length:=CZ hj (hw i IQ);rw [aQ,zJ IQ,bW,cT p2 rfl];show y.call jA [ni i,ni j,.ptr br 0] S _;refine aIO hy p3 IQ Ri ?_;refine mc.app hle (by rw [mU];omega) fun w S' le' k' mw=>?_;rw [bG (by omega)]
   have e:(RH m j).take i++[m[i][j]]=(RH m j).take (i+1):=by
    rw [KA]
    congr 1
    unfold RH;rw [eH,aT IQ];simp [List.getD,aT Ri]
   rw [e]at mw;exact ih (i+1) q m0 j S0 S' w hj (by omega) (by omega) h le' mw aIP
 have outer:∀(r j q:Nat) (S:Hp),j+r=k->r<q->Inv j S->nT y q (.yield l) (.ptr b0 0) (.ptr b3 0) (ni k) (ni j) S K:=by
  intro r;induction r with
  | zero=>
   intro j q S hj hq h;obtain⟨q,rfl⟩:=bH (show q≠0 by omega);rw [EX];unfold wN;refine aF ?_;rw [aQ,jM (by omega),bE];have e:j=k:=by omega
   subst e;exact aM (hK S h)
  | succ r ih=>
   intro j q S hj hq h;obtain⟨q,rfl⟩:=bH (show q≠0 by omega);rw [EX];unfold wN;refine aF ?_;have hjk:j<k:=by omega
   obtain⟨p1,p2,p3⟩:=hI j S h;rw [aQ,zJ hjk,bW,cT p1 rfl,cZ,hy.most];refine inner m.length 0 M q j S S .nil hjk (by omega) (by omega) h (.refl _) .nil fun S' c h' mc=>?_;show y.R l [ni j,c] S' _;refine step y hy j S S' hjk c _ h' mc fun S'' h''=>?_;rw [rC,fL,bE,bG (by omega)];exact ih (j+1) q S'' (by omega) (by omega) h''
 exact outer k 0 M S (by omega) (by omega) h0
end
set_option maxRecDepth 4000
def Sg (m:List (List Nat)) (X:Nat):List Nat:=(List.range (Oq m)).map fun j=>ev 11 (RH m j) X
def Hi (m:List (List Nat)) (Y:Nat):List Nat:=m.map fun l=>ev 11 l Y
section
variable{M n:Nat}{x:VE}{S S0:Hp}{K:KV}{two:Bool}
def loR (a b c:Nat) (st:LoopState):Ob:= .loop [4,5,7] [.ptr a 0,.ptr b 0,.ptr c 0] 25 (DY PP cI [.r,.r,.l,.r,.d]) (DZ PP cI [.r,.r,.l,.r,.d]) (yU PP cI [.r,.r,.l,.r,.d]) st none
structure aC0 (SA:Hp) (bx bq bo l r k b0 b3 br:Nat) (O:Tag) (m:List (List Nat)) (X i:Nat) (S:Hp):Prop where
 le:bU SA S
 nr:SA r=none
 nl:SA l=none
 rx:S bx=some (.row [nu X] 22)
 rq:S bq=some (.row [nu 11] 22)
 ro:S bo=some (.row [.own r 0 k k] 51)
 rr:∃us,us.length=k/\(∀j,j<i->us[j]? =some (ev 11 (RH m j) X))/\S r=some (.row (oD us) 22)
 lo:S l=some (loR bx bq bo .ready)
 r0:S b0=some (.row [.list O (eL m) m.length] 33)
 r3:S b3=some (.row [.func jA [] [.ptr br 0]] 272)
 r4:S br=some (.row [.list O (eL m) m.length] 33)
 d:r≠l/\r≠bx/\r≠bq/\r≠bo/\r≠b0/\r≠b3/\r≠br/\l≠bx/\l≠bq/\l≠bo/\l≠b0/\l≠b3/\l≠br
theorem aC0.up{SA:Hp}{bx bq bo l r k b0 b3 br:Nat}{O:Tag}{m:List (List Nat)}{X i:Nat}{S S':Hp} (h:aC0 SA bx bq bo l r k b0 b3 br O m X i S) (hle:bU S S'):aC0 SA bx bq bo l r k b0 b3 br O m X i S':=by
 obtain⟨us,u1,u2,u3⟩:=h.rr;exact⟨h.le.trans hle,h.nr,h.nl,hle _ _ h.rx,hle _ _ h.rq,hle _ _ h.ro,⟨us,u1,u2,hle _ _ u3⟩,hle _ _ h.lo,hle _ _ h.r0,hle _ _ h.r3,hle _ _ h.r4,h.d⟩
theorem aIQ (hM:1000000<M) (hx:Deep PP bK gM M (n+3) x){SA:Hp}{bx bq bo l r k b0 b3 br:Nat}{O:Tag}{m:List (List Nat)}{X j:Nat} (hX:EQ X) (hm:∀q∈m,LC q) (TU:m.length<100000) (hj:j<k){Sc S:Hp}{c:V}{K:KV} (h:aC0 SA bx bq bo l r k b0 b3 br O m X j S) (mc:MN Sc S c (RH m j))
 (hK:∀S',aC0 SA bx bq bo l r k b0 b3 br O m X (j+1) S'->K (.bool true) S'):x.R l [ni j,c] S K:=by
 obtain⟨d1,d2,d3,d4,d5,d6,d7,d8,d9,d10,d11,d12,d13⟩:=h.d;refine hx.round fun y hy=>?_;refine PE (st:= .ready) (pe:=none) h.lo Ed ?_;rw [Ee];unfold LJ;refine WD h.lo ?_;obtain⟨us,u1,u2,u3⟩:=h.rr;have hbz:aL S l (.loop [4,5,7] [.ptr bx 0,.ptr bq 0,.ptr bo 0] 25 (DY PP cI [.r,.r,.l,.r,.d]) (DZ PP cI [.r,.r,.l,.r,.d]) (yU PP cI [.r,.r,.l,.r,.d]) .busy none)=aL S l (loR bx bq bo .busy):=rfl;rw [hbz];have k1:bU SA (aL S l (loR bx bq bo .busy)):=EV h.le h.nl;have kl:aL S l (loR bx bq bo .busy) l=some (loR bx bq bo .busy):=aB;have kx:aL S l (loR bx bq bo .busy) bx=some (.row [nu X] 22):=by rw [aC (aP d8)];exact h.rx
 have kq:aL S l (loR bx bq bo .busy) bq=some (.row [nu 11] 22):=by rw [aC (aP d9)];exact h.rq
 have ko:aL S l (loR bx bq bo .busy) bo=some (.row [.own r 0 k k] 51):=by rw [aC (aP d10)];exact h.ro
 have kr:aL S l (loR bx bq bo .busy) r=some (.row (oD us) 22):=by rw [aC d1];exact u3
 have k0:aL S l (loR bx bq bo .busy) b0=some (.row [.list O (eL m) m.length] 33):=by rw [aC (aP d11)];exact h.r0
 have k3:aL S l (loR bx bq bo .busy) b3=some (.row [.func jA [] [.ptr br 0]] 272):=by rw [aC (aP d12)];exact h.r3
 have k4:aL S l (loR bx bq bo .busy) br=some (.row [.list O (eL m) m.length] 33):=by rw [aC (aP d13)];exact h.r4
 have km:MN Sc (aL S l (loR bx bq bo .busy)) c (RH m j):=mc.set h.lo (fun vs m e=>by cases e) (fun vs e=>by cases e);generalize aL S l (loR bx bq bo .busy)=S1 at k1 kl kx kq ko kr k0 k3 k4 km;rw [cT ko rfl,cT kx rfl,cT kq rfl]
 have c64:LC (RH m j):=fun z hz=>by
  unfold RH at hz;obtain⟨l,hl,rfl⟩:=List.mem_map.1 hz;by_cases hjl:j<l.length
  ·rw [BG,aT hjl];exact hm l hl _ (cO _)
  ·rw [BG,FC (by omega)];show 0<18446744073709551616;decide
 refine Xr (n:=n) hM hy km.nv (by unfold RH;rw [mE];omega) c64 hX qQ ?_;rw [cT ko rfl,cN (by rfl)];refine⟨hj,?_⟩;rw [eJ,kX];refine MX kr rfl (by rw [oE];omega) ?_;have es:bA j [nu (ev 11 (RH m j) X)] (oD us)=oD (us.set j (ev 11 (RH m j) X)):=by rw [FU (by rw [oE];omega),aEH]
 rw [es];have l7:aL S1 r (.row (oD (us.set j (ev 11 (RH m j) X))) 22) l=some (loR bx bq bo .busy):=by rw [aC (aP d1)];exact kl
 have oth:∀{i:Nat} {ob:Ob} {o2:Ob},i≠r->i≠l->S1 i=some ob->aL (aL S1 r (.row (oD (us.set j (ev 11 (RH m j) X))) 22)) l o2 i=some ob:=fun {i ob o2} h1 h2 e=>by rw [aC h2,aC h1];exact e
 refine WE l7 (hK _ ⟨EV (EV k1 h.nr) h.nl,h.nr,h.nl,oth (aP d2) (aP d8) kx,oth (aP d3) (aP d9) kq,oth (aP d4) (aP d10) ko,⟨us.set j (ev 11 (RH m j) X),by rw [ZZ];exact u1,fun i hi=>?_,by rw [aC d1];exact aB⟩,aB,oth (aP d5) (aP d11) k0,oth (aP d6) (aP d12) k3,oth (aP d7) (aP d13) k4,h.d⟩);by_cases Ri:i=j
 ·subst Ri;rw [UB (by omega)]
 ·rw [HX (aP Ri)];exact u2 i (by omega)
theorem aOX (hM:1000000<M) (hx:Deep PP bK gM M (n+8) x){O:Tag}{m:List (List Nat)}{X k:Nat} (hX:EQ X) (hm:∀q∈m,LC q) (TU:m.length<100000) (hk:Oq m=k) (hk0:0<k) (hkk:k<1000) (hw:∀i (h:i<m.length),k<=m[i].length)
 (hK:∀t,K (.list t (kK (Sg m X)) k) S):x.call cI [.list O (eL m) m.length,nu X,nu 11] S K:=by
 refine hx.call aOU fun y hy=>?_;rw [aBi];unfold Iy;refine YG rfl fun bx hbx=>?_;have dL:bU S (aL S bx (.row [nu X] 22)):= .aK hbx;have rx:aL S bx (.row [nu X] 22) bx=some (.row [nu X] 22):=aB;generalize aL S bx (.row [nu X] 22)=S1 at dL rx;refine YG rfl fun bq hbq=>?_;have fO:bU S1 (aL S1 bq (.row [nu 11] 22)):= .aK hbq;have rq:aL S1 bq (.row [nu 11] 22) bq=some (.row [nu 11] 22):=aB;generalize aL S1 bq (.row [nu 11] 22)=S2 at fO rq;refine aIN (n:=n+6) hM hy TU ?_;rw [hk];refine⟨bQ _,by omega,by omega,fun r hr=>?_⟩
 have hz:(List.replicate k [nu 0]).flatten=oD (List.replicate k 0):=by
  unfold oD;rw [List.map_replicate];clear hk hk0 hkk hw hK;induction k with
  | zero=>rfl
  | succ k ih=>rw [HY,NQ,ih,HY];rfl
 have pR:bU S2 (aL S2 r (.row (oD (List.replicate k 0)) 22)):= .aK hr;have rr:aL S2 r (.row (oD (List.replicate k 0)) 22) r=some (.row (oD (List.replicate k 0)) 22):=aB;show dQ [(.slice none 0 0)] 51 (aL S2 r (.row (List.replicate k [nu 0]).flatten 22)) _;rw [hz];generalize aL S2 r (.row (oD (List.replicate k 0)) 22)=S3 at pR rr;refine cG (l:=[.nil]) rfl fun bo Zz=>?_;refine MX (i:=bo) aB rfl (by decide) ?_;rw [fD];have IS:bU S3 (aL S3 bo (.row (bA 0 [.own r 0 k k] [.nil]) 51)):= .aK Zz;have ro:aL S3 bo (.row (bA 0 [.own r 0 k k] [.nil]) 51) bo=some (.row [.own r 0 k k] 51):=aB;generalize aL S3 bo (.row (bA 0 [.own r 0 k k] [.nil]) 51)=S4 at IS ro;refine aOW (n:=n+5) hy fun S5 b0 b3 br EW n0 n3 n4 r0 r3 r4=>?_;refine PF fun l hl=>?_;have hlo:aL S5 l (.loop [4,5,7] [.ptr bx 0,.ptr bq 0,.ptr bo 0] 25 (DY PP cI [.r,.r,.l,.r,.d]) (DZ PP cI [.r,.r,.l,.r,.d]) (yU PP cI [.r,.r,.l,.r,.d]) .ready none)=aL S5 l (loR bx bq bo .ready):=rfl;rw [hlo];have x4:=IS _ _ (pR _ _ (fO _ _ rx));have q4:=IS _ _ (pR _ _ rq);have Lj:=IS _ _ rr;have x5:=EW _ _ x4;have q5:=EW _ _ q4;have o5:=EW _ _ ro;have rr5:=EW _ _ Lj;have aRn:=dL.trans fO;have EN:=(aRn.trans pR).trans (IS.trans EW);have up:∀{i:Nat} {ob:Ob},S5 i=some ob->aL S5 l (loR bx bq bo .ready) i=some ob:=fun {i ob} e=>by rw [aC (aP (gF hl e))];exact e
 have aTm:aC0 S bx bq bo l r k b0 b3 br O m X 0 (aL S5 l (loR bx bq bo .ready)):=
  ⟨EN.trans (.aK hl),aRn.none hr,EN.none hl,up x5,up q5,up o5,⟨List.replicate k 0,by rw [JZ],fun j hj=>by omega,up rr5⟩,aB,up r0,up r3,up r4,
   aP (gF hl rr5),(gF hr (fO _ _ rx)),(gF hr rq),aP (gF Zz rr),aP (gF n0 Lj),aP (gF n3 Lj),aP (gF n4 Lj),gF hl x5,gF hl q5,gF hl o5,gF hl r0,gF hl r3,gF hl r4⟩
 show y.call jR [.yield l,.ptr b0 0,.ptr b3 0] _ _;refine aLU (n:=n+4) hM hy TU hk (by omega) hw (Inv:=aC0 S bx bq bo l r k b0 b3 br O m X) (fun i S S' h hle=>h.up hle) (fun i S h=>⟨h.r0,h.r3,h.r4⟩) (fun z hz j S0 S' hj c K h mc xA=>aIQ (n:=n+3) hM hz hX hm TU hj h mc xA) aTm fun S6 h6=>?_;obtain⟨us,u1,u2,u3⟩:=h6.rr;obtain⟨d1,d2,d3,d4,d5,d6,d7,d8,d9,d10,d11,d12,d13⟩:=h6.d;refine WF h6.lo (by simp) ?_;rw [Dz];obtain⟨ob,hex⟩:∃ob,aL S6 l (.loop [4,5,7] [.ptr bx 0,.ptr bq 0,.ptr bo 0] 25 (DY PP cI [.r,.r,.l,.r,.d]) (DZ PP cI [.r,.r,.l,.r,.d]) (yU PP cI [.r,.r,.l,.r,.d]) .exhausted none)=aL S6 l ob:=⟨_,rfl⟩;rw [hex];have le7:bU S (aL S6 l ob):=EV h6.le h6.nl;have ro7:aL S6 l ob bo=some (.row [.own r 0 k k] 51):=by rw [aC (aP d10)];exact h6.ro
 have rr7:aL S6 l ob r=some (.row (oD us) 22):=by rw [aC d1];exact u3
 have eus:us=Sg m X:=by
  refine xM fun j=>?_;unfold Sg;rw [eH,hk];by_cases hj:j<k
  ·rw [u2 j hj,ZX hj];rfl
  ·rw [FC (by omega),FC (by simp;omega)];rfl
 rw [cT ro7 rfl];refine gP le7 (cs:=kK (Sg m X)) (n:=k) (.own rr7 h6.nr (bQ _) (by rw [GP,<-eus,oE,u1];omega) fun j v d x1 x2=>?_) hK;rw [eus,eJ]at x1;unfold oD at x1;unfold kK at x2;rw [eH]at x1 x2;cases e:(Sg m X)[j]? with
 | none=>rw [e]at x1;cases x1
 | some c=>rw [e]at x1 x2;injection x1 with x1;injection x2 with x2;subst x1 x2;exact .int
end
set_option maxRecDepth 4000
theorem aRo{k:Nat}:(List.replicate k [nu 0]).flatten=oD (List.replicate k 0):=by
 unfold oD;rw [List.map_replicate];induction k with
 | zero=>rfl
 | succ k ih=>rw [HY,NQ,ih,HY];rfl
section
variable{M n:Nat}{x:VE}{S S0:Hp}{K:KV}{two:Bool}
theorem aIR{S':Hp}{r:Nat}{l:List Nat} (le:bU S' S) (hn:S' r=none) (hr:S r=some (.row (oD l) 22)) (hK:∀t,K (.list t (kK l) l.length) S'):bF (.own r 0 l.length l.length) S K:=by
 refine gP le (cs:=kK l) (n:=l.length) (.own hr hn (bQ _) (by rw [GP,oE];omega) fun j v d x1 x2=>?_) hK;rw [eJ]at x1;unfold oD at x1;unfold kK at x2;rw [eH]at x1 x2;cases e:l[j]? with
 | none=>rw [e]at x1;cases x1
 | some c=>rw [e]at x1 x2;injection x1 with x1;injection x2 with x2;subst x1 x2;exact .int
theorem aIS (hM:1000000<M) (hx:Deep PP bK gM M (n+4) x){O:Tag}{m:List (List Nat)}{Y:Nat} (hY:EQ Y) (hm:∀q∈m,LC q) (TU:m.length<1000) (hmq:∀q∈m,q.length<100000)
 (hK:∀t,K (.list t (kK (Hi m Y)) m.length) S):x.call lU [.list O (eL m) m.length,nu Y,nu 11] S K:=by
 refine hx.call aOV fun y hy=>?_;rw [aBj];unfold Iz;rw [cZ,hy.most];refine⟨bQ _,by omega,by omega,fun r hr=>?_⟩;show rT y M (nu Y) (nu 11) (.own r 0 m.length m.length) (.list O (eL m) m.length) (ni m.length) (ni 0) (aL S r (.row (List.replicate m.length [nu 0]).flatten 22)) K;rw [aRo];have Bx:(Hi m Y).length=m.length:=by unfold Hi;rw [mE]
 have go:∀(k i q:Nat) (S1:Hp) (us:List Nat),i+k=m.length->k<q->bU S S1->S1 r=some (.row (oD us) 22)->us.length=m.length->us.take i=(Hi m Y).take i->rT y q (nu Y) (nu 11) (.own r 0 m.length m.length) (.list O (eL m) m.length) (ni m.length) (ni i) S1 K:=by
  intro k;induction k with
  | zero=>
   intro i q S1 us hi hq le rr hus he;obtain⟨q,rfl⟩:=bH (show q≠0 by omega);rw [LK];unfold BU;refine aF ?_;rw [aQ,jM (by omega),bE];rw [mC (by omega),mC (by omega)]at he;subst he;have:=aIR (K:=K) le hr rr (fun t=>by rw [Bx];exact hK t);rw [Bx]at this;exact this
  | succ k ih=>
   intro i q S1 us hi hq le rr hus he;obtain⟨q,rfl⟩:=bH (show q≠0 by omega);rw [LK];unfold BU;refine aF ?_;have IQ:i<m.length:=by omega
   rw [aQ,zJ IQ,bW,aCZ IQ,aEL IQ];refine Xr (n:=n+1) hM hy .list (by have:=hmq _ (cO IQ);omega) (hm _ (cO IQ)) hY qQ ?_;refine⟨IQ,?_⟩;rw [eJ,kX];refine MX rr rfl (by rw [oE];omega) ?_;rw [FU (by rw [oE];omega),aEH,bG (by omega)];refine ih (i+1) q _ (us.set i (ev 11 m[i] Y)) (by omega) (by omega) (fun j o e=>by rw [aC (fun c=>by rw [c,hr]at e;cases e)];exact le _ _ e) aB (by rw [ZZ];exact hus) ?_
   have e1:(us.set i (ev 11 m[i] Y)).take (i+1)=us.take i++[ev 11 m[i] Y]:=by
    rw [KA,List.take_set_of_le (bQ i),UB (by omega)];rfl
   have e2:(Hi m Y).take (i+1)=(Hi m Y).take i++[ev 11 m[i] Y]:=by
    rw [KA];unfold Hi;rw [eH,aT IQ];rfl
   rw [e1,e2,he]
 exact go m.length 0 M _ (List.replicate m.length 0) (by omega) (by omega) (.aK hr) aB (by rw [JZ]) rfl
theorem aLV{l:List (Nat×Nat)}:∀{i a b:Nat},i<l.length->bA (i*2) [nu a,nu b] (pvs l)=pvs (l.set i (a,b)):=by
 induction l with
 | nil=>intro i a b h;cases h
 | cons p l ih=>
  intro i a b h;cases i with
  | zero=>rfl
  | succ i=>
   have:=ih (i:=i) (a:=a) (b:=b) (by simpa using h);rw [List.set_cons_succ];show bA ((i+1)*2) [nu a,nu b] (nu p.1::nu p.2::pvs l)=nu p.1::nu p.2::pvs (l.set i (a,b));rw [<-this];unfold bA;rw [show(i+1)*2=i*2+1+1 by omega,Vh,Vh,show i*2+1+1+[nu a,nu b].length=i*2+[nu a,nu b].length+1+1 by omega,List.drop_succ_cons,List.drop_succ_cons];rfl
theorem aIT (hx:Deep PP bK gM M (n+1) x) (hM:1000000<M){O1 O2z:Tag}{a b:List Nat} (hlen:b.length=a.length) (hl:a.length<1000) (hK:∀t,K (.list t (pds (List.zip a b)) a.length) S):x.call pA [.list O1 (kK a) a.length,.list O2z (kK b) a.length] S K:=by
 refine hx.call aIM fun y hy=>?_;rw [Ya];unfold Ef;rw [cZ];refine⟨bQ _,by omega,by omega,fun r hr=>?_⟩
 have hz:(List.replicate a.length [nu 0,nu 0]).flatten=pvs (List.replicate a.length (0,0)):=by
  generalize a.length=k;induction k with
  | zero=>rfl
  | succ k ih=>rw [HY,NQ,ih,HY];rfl
 show pT y y.most (.list O1 (kK a) a.length) (.list O2z (kK b) a.length) (.own r 0 a.length a.length) (ni a.length) (ni 0) (aL S r (.row (List.replicate a.length [nu 0,nu 0]).flatten 145)) K;rw [hz,hy.most];have Ky:(List.zip a b).length=a.length:=by rw [List.length_zip];omega
 have go:∀(k i q:Nat) (S1:Hp) (us:List (Nat×Nat)),i+k=a.length->k<q->bU S S1->S1 r=some (.row (pvs us) 145)->us.length=a.length->us.take i=(List.zip a b).take i->pT y q (.list O1 (kK a) a.length) (.list O2z (kK b) a.length) (.own r 0 a.length a.length) (ni a.length) (ni i) S1 K:=by
  intro k;induction k with
  | zero=>
   intro i q S1 us hi hq le rr hus he;obtain⟨q,rfl⟩:=bH (show q≠0 by omega);rw [IT];unfold zZ;refine aF ?_;rw [aQ,jM (by omega),bE];rw [mC (by omega),mC (by omega)]at he;subst he;exact gP le (cs:=pds (List.zip a b)) (n:=a.length) (.own rr hr (bQ _) (by rw [Li,aEz];omega) fun j v d x1 x2=>aQ3 _ j v d (by rw [eJ]at x1;exact x1) x2) hK
  | succ k ih=>
   intro i q S1 us hi hq le rr hus he;obtain⟨q,rfl⟩:=bH (show q≠0 by omega);rw [IT];unfold zZ;refine aF ?_;have IQ:i<a.length:=by omega
   have hi2:i<b.length:=by omega
   rw [aQ,zJ IQ,bW,aCZ IQ,yA,cX (Xp (aT IQ)),aCZ IQ,yA,cX (Xp (aT hi2))];show cS [(.int .u64 (.ofNat 0)),(.int .u64 (.ofNat 0))] [(0,1,nu a[i]),(1,1,nu b[i])] _;rw [aIh];refine⟨IQ,?_⟩
   have hst:∀{k:Hp->Prop},k (aL S1 r (.row (bA (i*2) [nu a[i],nu b[i]] (pvs us)) 145))->nI 2 (.ptr r (i*2)) (.agg [nu a[i],nu b[i]]) S1 k:=fun {k} hk=>by
    unfold nI;simp only [rr];refine⟨rfl,rfl,by rw [Li];show i*2+2<=_;omega,hk⟩
   rw [eJ];refine hst ?_;rw [aLV (by omega),bG (by omega)];refine ih (i+1) q _ (us.set i (a[i],b[i])) (by omega) (by omega) (fun j o e=>by rw [aC (fun c=>by rw [c,hr]at e;cases e)];exact le _ _ e) aB (by rw [ZZ];exact hus) ?_;have hi3:i<(List.zip a b).length:=by omega
   have e1:(us.set i (a[i],b[i])).take (i+1)=us.take i++[(a[i],b[i])]:=by
    rw [KA,List.take_set_of_le (bQ i),UB (by omega)];rfl
   have e2:(List.zip a b).take (i+1)=(List.zip a b).take i++[(a[i],b[i])]:=by
    rw [KA,aT hi3,List.getElem_zip];rfl
   rw [e1,e2,he]
 exact go a.length 0 M _ (List.replicate a.length (0,0)) (by omega) (by omega) (.aK hr) aB (by rw [JZ]) rfl
end
end Go.Am
