/- The program, and tables of its functions' live temporaries (written by a program). -/
import Derived.Test.YtpcfidjmdfhigaaGreatDoorGd
import Derived.Test.YtpcfidjmdfhigaaGreatDoorChecked
import Derived.Shelf.Bits.Mul64
import Derived.WalkKit
import Derived.Below
import Derived.BigCall
import Derived.Laws.Bits64
import Derived.Lib.Hide
import Derived.Deep.QuietTactic
import Derived.BigQuiet
import Derived.WalkSmall
import Derived.RegionTactic
import Derived.Test.YtpcfidjmdfhigaaGreatDoorGb
import Derived.Shelf.Sort.Plain
import Derived.Shelf.Slices.In.SortNone
import Derived.Ground.Names2Prog

noncomputable section
set_option linter.unusedVariables false
set_option maxRecDepth 100000
namespace Go.Am
abbrev PP:Program:=Go.Proofs.Tryz.prog
abbrev lJ:FuncId:=3
abbrev EC:FuncId:=7
abbrev AE:FuncId:=8
abbrev PB:FuncId:=9
abbrev dP:FuncId:=10
abbrev BW:FuncId:=11
abbrev SV:FuncId:=12
abbrev Dd:FuncId:=14
abbrev GZ:FuncId:=15
abbrev EL:FuncId:=16
abbrev wS:FuncId:=17
abbrev EB:FuncId:=24
abbrev PA:FuncId:=25
abbrev NZ:FuncId:=26
abbrev Ct:FuncId:=28
abbrev yN:FuncId:=29
abbrev uJ:FuncId:=30
abbrev vG:FuncId:=31
abbrev KF:FuncId:=32
abbrev uG:FuncId:=33
abbrev PH:FuncId:=34
abbrev TG:FuncId:=35
abbrev YC:FuncId:=36
abbrev yP:FuncId:=37
abbrev EG:FuncId:=38
abbrev KE:FuncId:=39
abbrev sC:FuncId:=40
abbrev KD:FuncId:=41
abbrev dW:FuncId:=42
abbrev lA:FuncId:=43
abbrev cY:FuncId:=44
abbrev gG:FuncId:=45
abbrev zX:FuncId:=46
abbrev MM:FuncId:=47
abbrev BV:FuncId:=48
abbrev YD:FuncId:=49
abbrev EM:FuncId:=50
abbrev DZ:FuncId:=72
abbrev dM:FuncId:=73
abbrev vW:FuncId:=74
abbrev xR:FuncId:=75
abbrev aR:FuncId:=76
abbrev MG:FuncId:=77
abbrev bP:FuncId:=78
abbrev rO:FuncId:=79
abbrev cL:FuncId:=80
abbrev nM:FuncId:=81
abbrev pJ:FuncId:=82
abbrev cE:FuncId:=83
abbrev EN:FuncId:=84
abbrev NS:FuncId:=95
abbrev AU:FuncId:=99
abbrev rD:FuncId:=100
abbrev AW:FuncId:=101
abbrev AY:FuncId:=102
abbrev AV:FuncId:=103
abbrev AX:FuncId:=104
abbrev nP:FuncId:=105
abbrev iA:FuncId:=106
abbrev fF:FuncId:=107
abbrev kB:FuncId:=108
abbrev pA:FuncId:=109
abbrev tU:FuncId:=110
abbrev HC:FuncId:=111
abbrev PI:FuncId:=112
abbrev MQ:FuncId:=113
abbrev AZ:FuncId:=114
abbrev cZ:FuncId:=115
abbrev IU:FuncId:=116
abbrev BA:FuncId:=117
abbrev jY:FuncId:=118
abbrev jZ:FuncId:=119
abbrev nD:FuncId:=120
abbrev oP:FuncId:=121
abbrev qA:FuncId:=122
abbrev kO:FuncId:=123
abbrev KC:FuncId:=124
abbrev QD:FuncId:=125
abbrev mB:FuncId:=128
abbrev GM:FuncId:=129
abbrev iE:FuncId:=130
abbrev BU:FuncId:=131
abbrev Di:FuncId:=132
abbrev QZ:FuncId:=133
abbrev OJ:FuncId:=134
abbrev JY:FuncId:=154
abbrev DU:FuncId:=155
abbrev HM:FuncId:=156
abbrev CF:FuncId:=157
abbrev nX:FuncId:=158
abbrev oC:FuncId:=159
abbrev tE:FuncId:=160
abbrev LX:FuncId:=161
abbrev kV:FuncId:=162
abbrev EA:FuncId:=163
abbrev IS:FuncId:=164
abbrev TF:FuncId:=165
abbrev eU:FuncId:=168
abbrev PJ:FuncId:=169
abbrev oD:FuncId:=170
abbrev oE:FuncId:=171
abbrev oF:FuncId:=172
abbrev fD:FuncId:=173
abbrev OK:FuncId:=174
abbrev oG:FuncId:=175
abbrev oH:FuncId:=176
abbrev eZ:FuncId:=177
abbrev EO:FuncId:=178
abbrev EP:FuncId:=179
abbrev jG:FuncId:=192
abbrev jH:FuncId:=193
abbrev OL:FuncId:=194
abbrev BB:FuncId:=195
abbrev HZ:FuncId:=196
abbrev fK:FuncId:=210
abbrev mF:FuncId:=211
abbrev jJ:FuncId:=212
abbrev rM:FuncId:=213
abbrev dY:FuncId:=214
abbrev jE:FuncId:=215
abbrev Az:FuncId:=216
abbrev lD:FuncId:=217
abbrev xZ:FuncId:=218
abbrev fV:FuncId:=219
abbrev HD:FuncId:=220
abbrev dX:FuncId:=221
abbrev oB:FuncId:=228
abbrev yI:FuncId:=229
abbrev rT:FuncId:=230
abbrev yH:FuncId:=231
abbrev kG:FuncId:=235
abbrev iQ:FuncId:=236
abbrev GN:FuncId:=237
abbrev Co:FuncId:=238
abbrev Ba:FuncId:=239
abbrev yQ:FuncId:=241
abbrev kC:FuncId:=243
abbrev BC:FuncId:=244
def bI:FuncId->sI:=aQq [(3,⟨bY [(5,[1,5,6],[],[4])],bZ [(6,[1,5,6])]⟩),(4,⟨bY [(15,[7,8,83,84,85],[7],[6]),(6,[0,1,5,7,8,9],[0,5,8],[6])],bZ []⟩),(5,⟨bY [(5,[1,5,6],[],[4])],bZ []⟩),(6,⟨bY [],bZ [(9,[3,4,5])]⟩),(7,⟨bY [(7,[0,3,4,5],[0,3,4],[]),(3,[0,3,4],[3],[])],bZ []⟩),(10,⟨bY [(15,[0,4,8,9,10],[4,8],[])],bZ [(16,[0,4,8,9,10]),(8,[4,6])]⟩),(11,⟨bY [(5,[3,5,6,8,38,39,40],[3,5,6,8],[6,7])],bZ [(25,[6,8])]⟩),(13,⟨bY [(2,[2,3,5],[],[4])],bZ []⟩),(15,⟨bY [(4,[0,1,5],[],[4])],bZ []⟩),(19,⟨bY [(3,[1,3,4],[3],[])],bZ []⟩),(20,⟨bY [(3,[1,3,4],[1,3],[])],bZ []⟩),(21,⟨bY [],bZ [(13,[4])]⟩),(23,⟨bY [],bZ [(19,[2,4,5])]⟩),(24,⟨bY [(3,[0,3,4],[3],[])],bZ []⟩),(26,⟨bY [(5,[2,3,10,11],[2,3],[])],bZ []⟩),(29,⟨bY [(16,[3,10,11,14,15,63,64,68,69],[3,10,11,14,63,64],[]),(13,[3,10,11,14,63,64],[3,10,11,14],[]),(6,[3,9,10,11,29,30,31],[3,10,11],[])],bZ []⟩),(30,⟨bY [(16,[2,4,8,10,11,14,15,16,17,75,76],[2,4,8,10,11,14,15,16,17],[]),(12,[2,4,8,10,11,14,15],[8,14],[]),(5,[2,3,4,8,10,11,38,39,40],[2,4,8,10,11],[])],bZ []⟩),(31,⟨bY [(3,[2,3,7,10,11,12],[7],[])],bZ []⟩),(32,⟨bY [(3,[1,2,3,7,8,9],[1,2,3],[])],bZ []⟩),(37,⟨bY [(26,[2,7,11,13,14,15,16,17,78,79,84,85],[2,7,11,13,14,15,17,78,79],[]),(22,[2,7,11,13,14,15,78,79],[15],[]),(6,[2,6,7,32,33,34],[2,6,7],[4,5])],bZ []⟩),(38,⟨bY [(4,[0,1,5],[],[4])],bZ []⟩),(39,⟨bY [(4,[0,1,5],[],[4])],bZ []⟩),(41,⟨bY [(4,[0,1,5],[],[4])],bZ []⟩),(44,⟨bY [(9,[0,3,4,5],[0,3],[]),(4,[0,3],[0],[2])],bZ [(10,[0,3,4,5])]⟩),(50,⟨bY [(8,[3,7,26,27,28],[7],[]),(3,[2,3,7,12,13,14],[2,3,7],[])],bZ []⟩),(51,⟨bY [(4,[1,47,48,49],[1],[2])],bZ []⟩),(53,⟨bY [(3,[0,2,14,15,16],[0],[])],bZ []⟩),(55,⟨bY [(3,[0,2,14,15,16],[0],[])],bZ []⟩),(58,⟨bY [(3,[0,2,14,15,16],[0],[])],bZ []⟩),(59,⟨bY [(3,[0,2,14,15,16],[0],[])],bZ []⟩),(63,⟨bY [(4,[0,1,5,15,16],[5],[4])],bZ []⟩),(66,⟨bY [(4,[0,1,5,15,16],[5],[4])],bZ []⟩),(68,⟨bY [(4,[0,1,5,15,16],[5],[4])],bZ []⟩),(69,⟨bY [(4,[0,1,5,15,16],[5],[4])],bZ []⟩),(73,⟨bY [(8,[0,1],[],[4])],bZ []⟩),(74,⟨bY [(3,[2,3,9,14,15],[9],[])],bZ []⟩),(75,⟨bY [(3,[0,1,2,7,10,11],[7],[])],bZ []⟩),(76,⟨bY [(1000005,[3,7],[],[])],bZ []⟩),(1360005,⟨bY [(1000000,[3,7],[],[]),(1000009,[3,10],[],[])],bZ []⟩),(1360009,⟨bY [(1000000,[3,10],[],[])],bZ []⟩),(77,⟨bY [(5,[7,8,9,26,27],[9],[])],bZ []⟩),(78,⟨bY [(1000005,[3,7],[],[])],bZ []⟩),(1230005,⟨bY [(1000000,[3,7],[],[])],bZ []⟩),(79,⟨bY [(3,[0,1,5,11,12],[5],[])],bZ []⟩),(80,⟨bY [(1000005,[4,5,7],[],[])],bZ []⟩),(1250005,⟨bY [(1000000,[4,5,7],[],[])],bZ []⟩),(81,⟨bY [(3,[1,2,7,13,14,15],[7],[])],bZ []⟩),(82,⟨bY [(3,[2,3,7,10,11,12],[7],[])],bZ []⟩),(84,⟨bY [(3,[3,6,7,8],[3],[])],bZ []⟩),(95,⟨bY [(12,[0,3,6,16,17,36,37],[0,3,16,17],[]),(5,[0,3,16,17],[],[2])],bZ []⟩),(105,⟨bY [(3,[1,3,8,9,10],[1],[2])],bZ []⟩),(106,⟨bY [(6,[1,4,5,10,11,12,17,18,19],[1,4,5,10,11,12],[]),(2,[1,10,11,12],[],[2])],bZ []⟩),(108,⟨bY [(3,[1,5,8,9,10],[5],[])],bZ []⟩),(109,⟨bY [(3,[1,5,8,9,10],[5],[])],bZ []⟩),(111,⟨bY [(3,[26,27,28],[],[8])],bZ []⟩),(117,⟨bY [(3,[1,6,9,10,11],[1,6],[])],bZ []⟩),(120,⟨bY [(3,[2,5,11,12,13],[5],[])],bZ []⟩),(121,⟨bY [(2,[1,2,3,4,13,14,15],[2],[])],bZ []⟩),(122,⟨bY [(3,[1,5,8,9,10],[5],[])],bZ []⟩),(123,⟨bY [(3,[1,5,8,9,10],[5],[])],bZ []⟩),(124,⟨bY [(4,[0,1,5],[],[4])],bZ []⟩),(125,⟨bY [(4,[0,1,2,7],[7],[])],bZ [(8,[0,1,2,7])]⟩),(126,⟨bY [(2,[0,1,2,3,8,9],[],[])],bZ [(17,[0,1,2,3,8,9,10,11]),(15,[0,1,2,3,8,9,10,11,12]),(10,[0,1,2,3,8,9,10])]⟩),(128,⟨bY [(2,[0,1,7,8],[],[4])],bZ []⟩),(133,⟨bY [(8,[5,31,32,33],[5],[]),(3,[0,5,14,15,16],[0,5],[])],bZ []⟩),(138,⟨bY [(3,[1,2,7],[7],[])],bZ []⟩),(139,⟨bY [(6,[6,19,20,21],[6],[])],bZ []⟩),(143,⟨bY [(3,[5,11,12,13],[5],[])],bZ []⟩),(145,⟨bY [(4,[0,2,15,16],[2],[])],bZ []⟩),(163,⟨bY [(3,[3,6,7,8],[3],[])],bZ []⟩),(165,⟨bY [(4,[2,3,7,8,16,17,18],[7],[])],bZ []⟩),(167,⟨bY [(2,[0,1,7,8],[],[4])],bZ []⟩),(168,⟨bY [(4,[0,1,12,13],[],[4])],bZ []⟩),(177,⟨bY [(2,[0,1,7,8],[],[4])],bZ []⟩),(179,⟨bY [(6,[0,1,2,9,21,22],[9],[6,7])],bZ []⟩),(181,⟨bY [(4,[0,1,2,6,7],[0,1,2,6],[]),(1,[0,1,2,6],[],[])],bZ []⟩),(182,⟨bY [(8,[0,6,7,10],[],[]),(4,[0,6,7,8,9],[0,6,7,8],[])],bZ []⟩),(183,⟨bY [(5,[0,1,6,7,8,9],[],[])],bZ [(10,[0,1,6,7,8,9,10])]⟩),(184,⟨bY [],bZ [(12,[9,11]),(11,[0,9,10,11,12])]⟩),(185,⟨bY [(2,[0,6,7],[],[])],bZ []⟩),(186,⟨bY [(20,[0,1,2,7,8,10],[0,1,2,7,8],[]),(14,[0,1,2,7,8,9],[0,1,2,7,8],[]),(5,[0,1,2,7,8],[0,1,2,7,8],[]),(3,[0,1,2,7,8],[],[6])],bZ [(4,[0,1,2,7,8]),(18,[0,1,2,7,8])]⟩),(188,⟨bY [(5,[0,1,9,10],[0,1,9,10],[]),(3,[0,1,9,10],[0,1,9,10],[]),(3,[0,1,9,10],[9],[])],bZ []⟩),(189,⟨bY [(15,[0,1,10,11],[0,1,10,11],[]),(13,[0,1,10,11],[0,1,10,11],[]),(13,[0,1,10,11],[0,1,11],[]),(5,[0,1,10,11],[0,1,10,11],[]),(3,[0,1,10,11],[0,1,10,11],[])],bZ []⟩),(190,⟨bY [],bZ [(7,[0,2]),(4,[0,2])]⟩),(191,⟨bY [],bZ [(10,[0,2]),(7,[0,2]),(4,[0,2])]⟩),(192,⟨bY [(2,[0,1,7,8],[],[4])],bZ []⟩),(193,⟨bY [(9,[0,4,5,54],[0,4,5],[]),(4,[0,4,5,6,32,33],[0,4,5],[])],bZ []⟩),(195,⟨bY [(3,[0,5,8,9,10],[5],[])],bZ []⟩),(207,⟨bY [(24,[2,8,9,10,14,15,16,17,18],[2,8,14,15,17,18],[]),(17,[2,8,9,10,11,13,14,15,16],[2,8,9,10,11,13,14,15],[])],bZ [(28,[2,8,14,15,17,18]),(21,[2,8,9,10,11,13,14,15]),(5,[0,1,2]),(3,[0,1,2])]⟩),(210,⟨bY [(1,[0,1,2,9,10],[],[])],bZ []⟩),(212,⟨bY [(1,[0,1,2,9,10],[],[])],bZ []⟩),(214,⟨bY [(1,[0,1,2,9,10],[],[])],bZ []⟩),(217,⟨bY [(5,[0,1,2,4,5,8,9,13,14],[0,1,2,4,5,8,9],[]),(1,[0,1,2,8,9],[],[])],bZ []⟩),(218,⟨bY [(2,[2,7,8,9],[],[4])],bZ []⟩),(219,⟨bY [(2,[0,1,7,8],[],[4])],bZ []⟩),(220,⟨bY [(7,[0,1,5,19,20,21],[0,5],[])],bZ []⟩),(221,⟨bY [(1000005,[7,11,12],[],[])],bZ []⟩),(1450005,⟨bY [(1000000,[7,11,12],[],[])],bZ []⟩),(222,⟨bY [(1,[0,2,3,8],[],[])],bZ [(5,[0,2,3,8,9])]⟩),(228,⟨bY [(7,[6,32,33,34],[6],[4,5]),(3,[0,6,18],[6],[])],bZ []⟩),(229,⟨bY [(5,[1,6,7,8,9],[6,8],[])],bZ []⟩),(230,⟨bY [(1,[0,1,3,10,11,12],[],[])],bZ []⟩),(241,⟨bY [(4,[0,5,19,20],[5],[])],bZ []⟩),(243,⟨bY [(2,[0,1,7,8],[],[4])],bZ []⟩),(244,⟨bY [(1,[0,1,2,3,4,8,9,10],[],[])],bZ []⟩)]
def gQ (x:VE) (a b c:V) (k:V->Prop):Prop:=UB x.most (Vz a b c k)
def gP (x:VE) (w:Bool) (v:V) (op:(V->Prop)->Prop) (S:Hp) (k:KV):Prop:=UB x.most (PE w v (fun k=>op fun u=>k u S) S k)
def gL (x:VE) (w:Bool) (v:V) (op:KV->Prop) (S:Hp) (k:KV):Prop:=UB x.most (PE w v (fun k=>op fun u S=>k u S) S k)
def gK (x:VE) (w:Bool) (v u:V) (S:Hp) (k:KV):Prop:=UB x.most (PE w v (fun k=>k u S) S k)
def gC (x:VE) (w:Bool) (v u p:V) (S:Hp) (k:Prop):Prop:=UB x.most (Gj w v u (fun k=>aT p S fun a _=>aZ a u k) k)
abbrev cU:List Value:=[(.slice none 0 0)]
abbrev iC:List Value:=[(.int .u64 (.ofNat 0))]
abbrev uZ:List Value:=[(.int .i64 (.ofNat 0)),(.slice none 0 0)]
abbrev wC:List Value:=[(.int .i64 (.ofNat 0)),(.slice none 0 0),(.slice none 0 0),(.slice none 0 0),(.slice none 0 0)]
abbrev GA:List Value:=[(.int .u64 (.ofNat 0)),(.int .u64 (.ofNat 0))]
abbrev GH:List Value:=[(.int .u8 (.ofNat 0)),(.int .i64 (.ofNat 0)),(.int .i64 (.ofNat 0)),(.slice none 0 0),(.slice none 0 0),(.slice none 0 0),(.slice none 0 0)]
abbrev IT:List Value:=[(.int .i64 (.ofNat 0))]
abbrev MH:List Value:=[(.slice none 0 0),(.slice none 0 0),(.slice none 0 0)]
abbrev Ry:List Value:=[(.int .u64 (.ofNat 0)),(.int .u64 (.ofNat 0)),(.int .u64 (.ofNat 0)),(.int .u64 (.ofNat 0)),(.int .i64 (.ofNat 0)),(.int .i64 (.ofNat 0)),(.int .i64 (.ofNat 0)),(.int .i64 (.ofNat 0)),(.int .i64 (.ofNat 0)),(.int .i64 (.ofNat 0)),(.int .i64 (.ofNat 0)),(.int .i64 (.ofNat 0)),(.int .i64 (.ofNat 0)),(.slice none 0 0),(.slice none 0 0),(.slice none 0 0),(.slice none 0 0),(.int .u8 (.ofNat 0)),(.int .i64 (.ofNat 0)),(.int .i64 (.ofNat 0)),(.slice none 0 0),(.slice none 0 0),(.slice none 0 0),(.slice none 0 0)]
abbrev aEe:List Value:=[(.int .u64 (.ofNat 0)),(.int .u64 (.ofNat 0)),(.int .u64 (.ofNat 0)),(.int .u64 (.ofNat 0)),(.int .i64 (.ofNat 0)),(.int .i64 (.ofNat 0)),(.int .i64 (.ofNat 0)),(.int .i64 (.ofNat 0)),(.int .i64 (.ofNat 0)),(.int .i64 (.ofNat 0)),(.int .i64 (.ofNat 0)),(.int .i64 (.ofNat 0))]
abbrev aJo:List Value:=[(.int .u64 (.ofNat 0)),(.int .u64 (.ofNat 0)),(.int .u64 (.ofNat 0)),(.int .u64 (.ofNat 0)),(.int .i64 (.ofNat 0)),(.int .i64 (.ofNat 0)),(.int .i64 (.ofNat 0)),(.int .i64 (.ofNat 0)),(.int .i64 (.ofNat 0)),(.int .i64 (.ofNat 0)),(.int .i64 (.ofNat 0)),(.int .i64 (.ofNat 0)),(.pointer none),(.slice none 0 0),(.int .i64 (.ofNat 0)),(.slice none 0 0),(.slice none 0 0),(.slice none 0 0),(.slice none 0 0)]
end Go.Am
namespace Go.Proofs.NQ
open Go Go.RowKit Go.Proofs Go.Shelf
def aOr:Go.Shelf.Ren:=⟨fun | 264=>208 | n=>n,fun | 46=>75 | 53=>22 | n=>n,fun n=>n⟩
theorem aLF:Lays.n264 Tryz.prog aOr:={
 mixed:=by kernel_rfl
 f264:=Tryz.func208.trans (congrArg some (by kernel_rfl))
 t46:=Tryz.underlying75
 a46:=Tryz.isAgg75
 z46:=Tryz.sizeOf75
 v46:=Tryz.zeroValue75
 t53:=Tryz.underlying22
 a53:=Tryz.isAgg22
 z53:=Tryz.sizeOf22
 v53:=Tryz.zeroValue22}
theorem Pz (m:Nat) (w:World) (h0:0<m) (h1:m<=4294967296):Calls Tryz.prog 180 #[.int .u64 m] w fun e w'=>e= .returned (.bool true)/\w=w':=by
 have h2:m<=2305843009213693952:=by omega
 have h3:decide ((m:Int)<=2305843009213693952)=true:=by simp;omega
 go_enter Tryz.func180,Tryz.ntmps180
 go_wp2
 go_ret
 exact⟨rfl,rfl⟩
theorem aOs (lo y:Nat) (w:World) (h0:0<y) (h1:y<18446744073709551616) (h2:lo<18446744073709551616):Calls Tryz.prog 207 #[.int .u64 0,.int .u64 lo,.int .u64 y] w fun e w'=>e= .returned (.tuple #[.int .u64 ((lo / y:Nat):Int),.int .u64 ((lo%y:Nat):Int)])/\Below w.heap.size w w':=by
 have g1:((y:Int)==0)=false:=by rw [beq_eq_false_iff_ne];omega
 have g2:decide (y=0)=false:=by simp;omega
 go_enter Tryz.func207,Tryz.ntmps207
 go_wp2
 go_quiet (fail)
 go_wp2
 go_ret2
 refine⟨?_,below_drewN (Below.refl _ _) _⟩;show Ending.returned (.tuple #[.int .u64 (IntKind.u64.wrap ((lo / y:Nat):Int)),.int .u64 ((lo%y:Nat):Int)])=_;rw [Mul64.wrapN _ (Nat.lt_of_le_of_lt (Nat.div_le_self _ _) h2)]
theorem aOt (lo y:Nat) (w:World) (h0:0<y) (h1:y<18446744073709551616) (h2:lo<18446744073709551616):Calls Tryz.prog 209 #[.int .u64 0,.int .u64 lo,.int .u64 y] w fun e w'=>e= .returned (.int .u64 ((lo%y:Nat):Int))/\Below w.heap.size w w':=by
 have g1:((y:Int)==0)=false:=by rw [beq_eq_false_iff_ne];omega
 have C:=aOs lo y w h0 h1 h2
 go_enter Tryz.func209,Tryz.ntmps209
 go_wp2_with fail
 refine C.mono ?_
 rintro e W1 ⟨rfl,hb⟩
 go_wp2
 go_ret
 exact⟨rfl,hb⟩
set_option maxHeartbeats 1000000 in
theorem Qa (a b m:Nat) (w:World) (ha:a<18446744073709551616) (hb:b<18446744073709551616) (hm:m<=4294967296) (h0:0<m):
 Calls Tryz.prog 158 #[.int .u64 a,.int .u64 b,.int .u64 m] w fun e w'=>e= .returned (.int .u64 ((a*b%m:Nat):Int))/\Below w.heap.size w w':=by
 have g1:((m:Int)==0)=false:=by rw [beq_eq_false_iff_ne];omega
 have la:a%m<m:=Nat.mod_lt _ h0;have lb:b%m<m:=Nat.mod_lt _ h0
 have lab:a%m*(b%m)<18446744073709551616:=by
  have:a%m*(b%m)<=4294967295*4294967295:=Nat.mul_le_mul (by omega) (by omega);omega
 have C1:∀w,Calls Tryz.prog 208 #[.int .u64 ((a%m:Nat):Int),.int .u64 ((b%m:Nat):Int)] w fun e w'=>e= .returned (.tuple #[.int .u64 0,.int .u64 ((a%m*(b%m):Nat):Int)])/\w'=w:=by
  intro w;have C:=Any.bits_Mul64 aLF (a%m) (b%m) (by omega) (by omega) w;rw [Nat.div_eq_of_lt lab,Nat.mod_eq_of_lt lab]at C;exact C
 have C2:∀w,Calls Tryz.prog 209 #[.int .u64 0,.int .u64 ((a%m*(b%m):Nat):Int),.int .u64 m] w fun e w'=>e= .returned (.int .u64 ((a*b%m:Nat):Int))/\Below w.heap.size w w':=by
  intro w;have C:=aOt (a%m*(b%m)) m w h0 (by omega) lab;rw [<-Nat.mul_mod]at C;exact C
 have hM:=Pz m w h0 hm;clear la lb lab
 go_enter Tryz.func158,Tryz.ntmps158
 go_wp2_with fail
 refine hM.mono ?_
 rintro e W1 ⟨rfl,rfl⟩
 go_wp2_with fail
 go_quiet ((go_at_call 208;exact Calls.quiet_of_same (C1 _)))
 go_wp2_with fail
 refine(C2 _).mono ?_
 rintro e W2 ⟨rfl,NH⟩
 go_wp2
 go_ret
 exact⟨rfl,(below_drewN (Below.refl _ _) _).trans NH⟩
theorem aOu (a b m:Nat) (w:World) (ha:a<18446744073709551616) (hb:b<18446744073709551616) (hm:m<=4294967296) (h0:0<m):
 Calls Tryz.prog 157 #[.int .u64 a,.int .u64 b,.int .u64 m] w fun e w'=>e= .returned (.int .u64 (((a%m+b%m)%m:Nat):Int))/\Below w.heap.size w w':=by
 have g1:((m:Int)==0)=false:=by rw [beq_eq_false_iff_ne];omega
 have la:a%m<m:=Nat.mod_lt _ h0;have lb:b%m<m:=Nat.mod_lt _ h0;have g2:=Mul64.wrapN (a%m+b%m) (by omega);have hM:=Pz m w h0 hm;clear la lb
 go_enter Tryz.func157,Tryz.ntmps157
 go_wp2_with fail
 refine hM.mono ?_
 rintro e W1 ⟨rfl,rfl⟩
 go_wp2_with fail
 go_quiet (fail)
 go_wp2
 go_ret
 refine⟨congrArg (fun x=>Ending.returned (.int .u64 x)) ?_,below_drewN (Below.refl _ _) _⟩;show(IntKind.u64.wrap ((a:Int)%m+(b:Int)%m)).tmod m=_;have e1:(a:Int)%m+(b:Int)%m=((a%m+b%m:Nat):Int):=by norm_cast
 rw [e1,g2,<-Int.ofNat_tmod]
theorem aIx (a b m:Nat) (w:World) (ha:a<18446744073709551616) (hb:b<18446744073709551616) (hm:m<=4294967296) (h0:0<m):
 Calls Tryz.prog 231 #[.int .u64 a,.int .u64 b,.int .u64 m] w fun e w'=>e= .returned (.int .u64 ((iB a b m:Nat):Int))/\Below w.heap.size w w':=by
 have g1:((m:Int)==0)=false:=by rw [beq_eq_false_iff_ne];omega
 have la:a%m<m:=Nat.mod_lt _ h0;have lb:b%m<m:=Nat.mod_lt _ h0;have g2:=Mul64.wrapN (a%m+m) (by omega);have hM:=Pz m w h0 hm;clear la lb
 go_enter Tryz.func231,Tryz.ntmps231
 go_wp2_with fail
 refine hM.mono ?_
 rintro e W1 ⟨rfl,rfl⟩
 go_wp2_with fail
 go_quiet (fail)
 go_wp2
 go_ret
 refine⟨congrArg (fun x=>Ending.returned (.int .u64 x)) ?_,below_drewN (Below.refl _ _) _⟩;show(IntKind.u64.wrap (IntKind.u64.wrap ((a:Int)%m+m)-(b:Int)%m)).tmod m=_;have lb:b%m<m:=Nat.mod_lt _ h0;have la:a%m<m:=Nat.mod_lt _ h0;have e1:(a:Int)%m+m=((a%m+m:Nat):Int):=by norm_cast
 have e2:((a%m+m:Nat):Int)-(b:Int)%m=((a%m+m-b%m:Nat):Int):=by
  have:((b%m:Nat):Int)=(b:Int)%m:=by norm_cast
  rw [<-this];omega
 rw [e1,g2,e2,Mul64.wrapN _ (by omega),<-Int.ofNat_tmod];rfl
theorem aLG (e:Nat) (he:e<18446744073709551616):bits .and .u64 (e:Int) 1=((e%2:Nat):Int):=by
 have h:=bits_and_u64_nat e 1 he (by omega);rw [Nat.and_one_is_mod]at h;exact h
set_option maxHeartbeats 1000000 in
theorem aOv (a e m:Nat) (w:World) (ha:a<18446744073709551616) (he:e<18446744073709551616) (h0:0<m) (hm:m<=4294967296):
 Calls Tryz.prog 125 #[.int .u64 a,.int .u64 e,.int .u64 m] w fun r w'=>r= .returned (.int .u64 ((ZL 64 (1%m) a e m:Nat):Int))/\Below w.heap.size w w':=by
 have g1:((m:Int)==0)=false:=by rw [beq_eq_false_iff_ne];omega
 have hM:=Pz m w h0 hm
 go_enter Tryz.func125,Tryz.ntmps125
 go_wp2_with fail
 refine hM.mono ?_
 rintro e W1 ⟨rfl,rfl⟩
 go_wp2_with fail
 go_loopw [0,1,7] (fun av ev ov wr=>∃(f a' e' o':Nat),a'<18446744073709551616/\o'<18446744073709551616/\e'<2 ^ f/\f<=64/\av= .int .u64 a'/\ev= .int .u64 e'/\ov= .int .u64 o'/\ZL f o' a' e' m=ZL 64 (1%m) a e m/\Below w.heap.size w wr) (fun _ ev _ _=>(intOf ev).toNat)
 case atStart=>exact⟨64,a,e,1%m,ha,by have:=Nat.mod_lt 1 h0;omega,he,Nat.le_refl _,rfl,rfl,by norm_cast,rfl,Below.refl _ _⟩
 case round=>
  obtain⟨f,a',e',o',h1,h2,h3,h4,rfl,rfl,rfl,h5,h6⟩:=hrel;have H5:=Lib.hid h5;clear h5
  have he':e'<18446744073709551616:=by
   have:2 ^ f<=2 ^ 64:=Nat.pow_le_pow_right (by omega) h4;omega
  by_cases hz:0<e'
  ·obtain⟨f,rfl⟩:∃g,f=g+1:=by
    cases f with
    | zero=>simp at h3;omega
    | succ g=>exact⟨g,rfl⟩
   have aBI:=Vv (f:=f) (out:=o') (a:=a') (m:=m) hz;have HS:=Lib.hid aBI;clear aBI;have h3':e' / 2<2 ^ f:=by rw [Nat.pow_succ]at h3;omega
   have la:a'*a'%m<m:=Nat.mod_lt _ h0;have lo:o'*a'%m<m:=Nat.mod_lt _ h0;clear h3;have ga:=aLG e' he';by_cases ho:e'%2=1
   ·have ga1:bits .and .u64 (e':Int) 1=1:=by rw [ga,ho];rfl
    have HO:=Lib.hid ho;clear ga ho
    go_wp2_with fail
    refine(Qa o' a' m _ h2 h1 hm h0).mono ?_
    rintro r W1 ⟨rfl,Dl⟩
    go_wp2_with fail
    refine(Qa a' a' m _ h1 h1 hm h0).mono ?_
    rintro r W2 ⟨rfl,NH⟩
    go_wp2
    go_roundw
    case rel=>
     refine⟨f,a'*a'%m,e' / 2,o'*a'%m,by omega,by omega,h3',by omega,rfl,?_,rfl,?_,h6.trans ((Dl.mono h6.size).trans (NH.mono (Nat.le_trans h6.size Dl.size)))⟩
     ·norm_cast
     ·rw [<-H5.out,HS.out,if_pos HO.out]
    case measure=>simp [intOf];omega
   ·have ho:e'%2=0:=by omega
    have ga1:bits .and .u64 (e':Int) 1=0:=by rw [ga,ho];rfl
    have HO:=Lib.hid ho;clear ga ho
    go_wp2_with fail
    refine(Qa a' a' m _ h1 h1 hm h0).mono ?_
    rintro r W2 ⟨rfl,NH⟩
    go_wp2
    go_roundw
    case rel=>
     refine⟨f,a'*a'%m,e' / 2,o',by omega,by omega,h3',by omega,rfl,?_,rfl,?_,h6.trans (NH.mono h6.size)⟩
     ·norm_cast
     ·rw [<-H5.out,HS.out,if_neg (by rw [HO.out];omega)]
    case measure=>simp [intOf];omega
  ·obtain rfl:e'=0:=by omega
   go_wp2
   go_ret
   refine⟨?_,h6⟩;have:=H5.out;rw [Vu]at this;rw [<-this];rfl
def My (a m:Nat) (e:Ending):Prop:=e= .returned (if(CO (a%m+1) m (a%m) 0 (1%m) m).1=1 then .tuple #[.int .u64 ((CO (a%m+1) m (a%m) 0 (1%m) m).2:Nat),.int .i64 0]else .tuple #[.int .u64 0,.int .i64 5])
set_option maxHeartbeats 1000000 in
theorem aOw (a m:Nat) (w:World) (ha:a<18446744073709551616) (h0:0<m) (hm:m<=4294967296):
 Calls Tryz.prog 229 #[.int .u64 a,.int .u64 m] w fun r w'=>My a m r/\Below w.heap.size w w':=by
 have g1:((m:Int)==0)=false:=by rw [beq_eq_false_iff_ne];omega
 have hM:=Pz m w h0 hm
 go_enter Tryz.func229,Tryz.ntmps229
 go_wp2_with fail
 refine hM.mono ?_
 rintro e W1 ⟨rfl,rfl⟩
 go_wp2_with fail
 go_quiet (fail)
 go_wp2_with fail
 go_quiet (fail)
 go_wp2_with fail
 go_loopw [6,7,8,9,10] (fun rv sv xv yv _ wr=>∃(f r s x y:Nat),r<18446744073709551616/\s<f/\s<18446744073709551616/\x<18446744073709551616/\y<18446744073709551616/\rv= .int .u64 r/\sv= .int .u64 s/\xv= .int .u64 x/\yv= .int .u64 y/\CO f r s x y m=CO (a%m+1) m (a%m) 0 (1%m) m/\Below w.heap.size w wr) (fun _ sv _ _ _ _=>(intOf sv).toNat)
 case atStart=>
  have l1:a%m<m:=Nat.mod_lt _ h0;have l2:1%m<m:=Nat.mod_lt _ h0;exact⟨a%m+1,m,a%m,0,1%m,by omega,by omega,by omega,by omega,by omega,rfl,by norm_cast,rfl,by norm_cast,rfl,below_drewN (below_drewN (Below.refl _ _) _) _⟩
 case round=>
  obtain⟨f,r,s,x,y,h1,h2,h3,h4,h5,rfl,rfl,rfl,rfl,h6,h7⟩:=hrel;have H6:=Lib.hid h6;clear h6;by_cases hz:0<s
  ·obtain⟨f,rfl⟩:∃g,f=g+1:=⟨f-1,by omega⟩
   have aBI:=aGB (f:=f) (r:=r) (x:=x) (y:=y) (m:=m) hz;have HS:=Lib.hid aBI;clear aBI;have l1:r%s<s:=Nat.mod_lt _ hz;have l2:r / s<=r:=Nat.div_le_self _ _;have l3:r / s*y%m<m:=Nat.mod_lt _ h0;have l4:iB x (r / s*y%m) m<m:=Nat.mod_lt _ h0;have g2:((s:Int)==0)=false:=by rw [beq_eq_false_iff_ne];omega
   have g3:((s:Int) != 0)=true:=by rw [bne_iff_ne];omega
   have g4:IntKind.u64.wrap ((r:Int) / s)=((r / s:Nat):Int):=by
    have:=Mul64.wrapN (r / s) (by omega);rw [<-this];norm_cast
   have G4:=Lib.hid g4;clear g4
   go_wp2_with fail
   go_quiet (fail)
   go_wp2_with fail
   rw [G4.out];refine(Qa (r / s) y m _ (by omega) h5 hm h0).mono ?_
   rintro e W1 ⟨rfl,Dl⟩
   go_wp2_with fail
   refine(aIx x (r / s*y%m) m _ h4 (by omega) hm h0).mono ?_
   rintro e W2 ⟨rfl,NH⟩
   go_wp2
   go_roundw
   case rel=>
    refine⟨f,s,r%s,y,iB x (r / s*y%m) m,h3,by omega,by omega,h5,by omega,rfl,?_,rfl,rfl,by rw [<-H6.out,HS.out],?_⟩
    ·norm_cast
    ·refine(below_drewN h7 ?_).trans ?_
     rotate_left
     ·exact(Dl.mono h7.size).trans (NH.mono (Nat.le_trans h7.size Dl.size))
   case measure=>simp [intOf];omega
  ·obtain rfl:s=0:=by omega
   by_cases hr:r=1
   ·subst hr
    go_wp2
    go_ret2
    have:=H6.out;rw [Vw]at this;exact⟨by unfold My;rw [<-this];rfl,h7⟩
   ·have g5:((r:Int) != 1)=true:=by rw [bne_iff_ne];omega
    go_wp2
    go_ret2
    have:=H6.out;rw [Vw]at this;exact⟨by unfold My;rw [<-this,if_neg hr];rfl,h7⟩
end Go.Proofs.NQ
namespace Go.Am
open Go.RowKit Go.MapKept Go.Proofs Go.Proofs.NQ
def aBK (args:List Value) (k:Nat->Nat->Nat->Bool):Bool:=
 match args with
 | [.int .u64 (.ofNat a),.int .u64 (.ofNat b),.int .u64 (.ofNat m)]=>match Nat.blt a 18446744073709551616,Nat.blt b 18446744073709551616,Nat.ble m 4294967296,Nat.blt 0 m with
  | true,true,true,true=>k a b m
  | _,_,_,_=>false
 | _=>false
def ov3 (g:Nat->Nat->Nat->Nat) (args:List Value) (S:St) (K:VK):Bool:=aBK args fun a b m=>bV (g a b m) fun n=>K (.int .u64 (.ofNat n)) S
def aSs (e:Nat) (out a m:Nat) (k:Nat->Bool):Bool:=
 MZ (β:=Nat->Nat->Nat->Bool) (fun out _ _=>k out) (fun _ ih out a e=>match Nat.beq e 0 with
  | true=>k out
  | false=>match Nat.beq (Nat.mod e 2) 1 with
   | true=>bV (Nat.mod (Nat.mul out a) m) fun out=>bV (Nat.mod (Nat.mul a a) m) fun a=>bV (Nat.div e 2) fun e=>ih out a e
   | false=>bV (Nat.mod (Nat.mul a a) m) fun a=>bV (Nat.div e 2) fun e=>ih out a e) 64 out a e
def aE3 (args:List Value) (S:St) (K:VK):Bool:=aBK args fun a e m=>aSs e (Nat.mod 1 m) a m fun n=>K (.int .u64 (.ofNat n)) S
def aLP (f:Nat) (r s x y m:Nat) (k:Nat->Nat->Bool):Bool:=
 MZ (β:=Nat->Nat->Nat->Nat->Bool) (fun r _ x _=>k r x) (fun _ ih r s x y=>match Nat.beq s 0 with
  | true=>k r x
  | false=>bV (Nat.mod r s) fun s'=>bV (iB x (Nat.mod (Nat.mul (Nat.div r s) y) m) m) fun y'=>ih s s' y y') f r s x y
def aBL (args:List Value) (S:St) (K:VK):Bool:=
 match args with
 | [.int .u64 (.ofNat a),.int .u64 (.ofNat m)]=>match Nat.blt a 18446744073709551616,Nat.ble m 4294967296,Nat.blt 0 m with
  | true,true,true=>bV (Nat.mod a m) fun s=>aLP (Nat.succ s) m s 0 (Nat.mod 1 m) m fun r x=>match Nat.beq r 1 with
   | true=>K (.tuple ⟨[.int .u64 (.ofNat x),.int .i64 (.ofNat 0)]⟩) S
   | false=>K (.tuple ⟨[.int .u64 (.ofNat 0),.int .i64 (.ofNat 5)]⟩) S
  | _,_,_=>false
 | _=>false
theorem aE4{m:Nat}{k:Nat->Bool}:∀(f out a e:Nat),MZ (β:=Nat->Nat->Nat->Bool) (fun out _ _=>k out) (fun _ ih out a e=>match Nat.beq e 0 with
 | true=>k out
 | false=>match Nat.beq (Nat.mod e 2) 1 with
  | true=>bV (Nat.mod (Nat.mul out a) m) fun out=>bV (Nat.mod (Nat.mul a a) m) fun a=>bV (Nat.div e 2) fun e=>ih out a e
  | false=>bV (Nat.mod (Nat.mul a a) m) fun a=>bV (Nat.div e 2) fun e=>ih out a e) f out a e=k (ZL f out a e m):=by
 intro f;induction f with
 | zero=>intro out a e;rfl
 | succ f ih=>
  intro out a e
  show(match Nat.beq e 0 with
   | true=>k out
   | false=>match Nat.beq (Nat.mod e 2) 1 with
    | true=>bV (Nat.mod (Nat.mul out a) m) fun out=>bV (Nat.mod (Nat.mul a a) m) fun a=>bV (Nat.div e 2) fun e=>MZ (β:=Nat->Nat->Nat->Bool) _ _ f out a e
    | false=>bV (Nat.mod (Nat.mul a a) m) fun a=>bV (Nat.div e 2) fun e=>MZ (β:=Nat->Nat->Nat->Bool) _ _ f out a e)=k (match Nat.beq e 0 with
   | true=>out
   | false=>ZL f (match Nat.beq (e%2) 1 with | true=>out*a%m | false=>out) (a*a%m) (e / 2) m)
  cases Nat.beq e 0 with
  | true=>rfl
  | false=>
   show(match Nat.beq (e%2) 1 with | true=>_ | false=>_)=_;cases Nat.beq (e%2) 1 with
   | true=>
    show bV (Nat.mod (Nat.mul out a) m) (fun out=>bV (Nat.mod (Nat.mul a a) m) fun a=>bV (Nat.div e 2) fun e=>MZ (β:=Nat->Nat->Nat->Bool) _ _ f out a e)=_;rw [bK,bK,bK];exact ih _ _ _
   | false=>
    show bV (Nat.mod (Nat.mul a a) m) (fun a=>bV (Nat.div e 2) fun e=>MZ (β:=Nat->Nat->Nat->Bool) _ _ f out a e)=_;rw [bK,bK];exact ih _ _ _
theorem aE2{m:Nat}{k:Nat->Nat->Bool}:∀(f r s x y:Nat),aLP f r s x y m k=k (CO f r s x y m).1 (CO f r s x y m).2:=by
 intro f;induction f with
 | zero=>intro r s x y;rfl
 | succ f ih=>
  intro r s x y
  show(match Nat.beq s 0 with
   | true=>k r x
   | false=>bV (Nat.mod r s) fun s'=>bV (iB x (Nat.mod (Nat.mul (Nat.div r s) y) m) m) fun y'=>aLP f s s' y y' m k)=k (match Nat.beq s 0 with
   | true=>(r,x)
   | false=>CO f s (r%s) y (iB x (r / s*y%m) m) m).1 (match Nat.beq s 0 with
   | true=>(r,x)
   | false=>CO f s (r%s) y (iB x (r / s*y%m) m) m).2
  cases Nat.beq s 0 with
  | true=>rfl
  | false=>simp only [bK];exact ih _ _ _ _
section
variable{w0:World}{U:Rn}{S:St}{w:World}
theorem Qi{args eK:List Value}{k:Nat->Nat->Nat->Bool} (hk:aBK args k=true) (ha:lM U args eK):∃a b m:Nat,eK=[.int .u64 a,.int .u64 b,.int .u64 m]/\a<18446744073709551616/\b<18446744073709551616/\m<=4294967296/\0<m/\k a b m=true:=by
 unfold aBK at hk;split at hk
 ·rename_i a b m
  obtain⟨a',t,rfl,h1,h2⟩:=ha.dH;obtain⟨b',t,rfl,h3,h4⟩:=h2.dH;obtain⟨c',t,rfl,h5,h6⟩:=h4.dH;cases h6.kS;cases h1.of_flat rfl;cases h3.of_flat rfl;cases h5.of_flat rfl;split at hk
  ·rename_i g1 g2 g3 g4
   exact⟨a,b,m,rfl,cG g1,cG g2,cG g3,cG g4,hk⟩
  ·cases hk
 ·cases hk
theorem aDz{f:FuncId}{g:Nat->Nat->Nat->Nat} (he:∀args w,(callFunc f args).run Tryz.prog w= .ok (.enter f args) w)
 (C:∀(a b m:Nat) (w:World),a<18446744073709551616->b<18446744073709551616->m<=4294967296->0<m->Calls Tryz.prog f #[.int .u64 a,.int .u64 b,.int .u64 m] w fun e w'=>e= .returned (.int .u64 (g a b m:Nat))/\Below w.heap.size w w'):
 kT Tryz.prog w0 (fun f' args S K=>match Nat.beq f' f with | true=>ov3 g args S K | false=>false):=by
 intro f' args S K U w eK hk h ha;dsimp only at hk;split at hk
 ·rename_i hf'
  obtain rfl:f'=f:=by simpa using hf'
  refine⟨he ⟨eK⟩,?_⟩;obtain⟨a,b,m,rfl,h1,h2,h3,h4,hk⟩:=Qi hk ha;rw [bK]at hk;refine callsIn_wide.2 ((C a b m w h1 h2 h3 h4).mono ?_)
  rintro e w' ⟨rfl,hb⟩
  obtain⟨q1,q2⟩:=h.below hb;exact⟨_,rfl,U,_,S,hk,.flat rfl,q1,q2⟩
 ·cases hk
theorem aJk:kT Tryz.prog w0 (fun f' args S K=>match Nat.beq f' 125 with | true=>aE3 args S K | false=>false):=by
 intro f' args S K U w eK hk h ha;dsimp only at hk;split at hk
 ·rename_i hf'
  obtain rfl:f'=125:=by simpa using hf'
  refine⟨enters_of Tryz.func125 (by kernel_rfl) rfl ⟨eK⟩,?_⟩;obtain⟨a,b,m,rfl,h1,h2,h3,h4,hk⟩:=Qi hk ha;have hk:K (.int .u64 (.ofNat (ZL 64 (1%m) a b m))) S=true:=(aE4 (k:=fun n=>K (.int .u64 (.ofNat n)) S) 64 (1%m) a b).symm.trans hk;refine callsIn_wide.2 ((aOv a b m w h1 h2 h4 h3).mono ?_)
  rintro e w' ⟨rfl,hb⟩
  obtain⟨q1,q2⟩:=h.below hb;exact⟨_,rfl,U,_,S,hk,.flat rfl,q1,q2⟩
 ·cases hk
theorem aJl:kT Tryz.prog w0 (fun f' args S K=>match Nat.beq f' 229 with | true=>aBL args S K | false=>false):=by
 intro f' args S K U w eK hk h ha;dsimp only at hk;split at hk
 ·rename_i hf'
  obtain rfl:f'=229:=by simpa using hf'
  refine⟨enters_of Tryz.func229 (by kernel_rfl) rfl ⟨eK⟩,?_⟩;unfold aBL at hk;split at hk
  ·rename_i a m
   obtain⟨a',t,rfl,h1,h2⟩:=ha.dH;obtain⟨c',t,rfl,h3,h4⟩:=h2.dH;cases h4.kS;cases h1.of_flat rfl;cases h3.of_flat rfl;split at hk
   ·rename_i g1 g2 g3
    have g1:=cG g1;have g2:=cG g2;have g3:=cG g3;rw [bK,aE2]at hk;refine callsIn_wide.2 ((aOw a m w g1 g3 g2).mono ?_)
    rintro e w' ⟨he,hbe⟩
    obtain⟨q1,q2⟩:=h.below hbe;unfold My at he;by_cases hr:(CO (a%m+1) m (a%m) 0 (1%m) m).1=1
    ·have hb:Nat.beq (CO (Nat.succ (Nat.mod a m)) m (Nat.mod a m) 0 (Nat.mod 1 m) m).1 1=true:=by
      show Nat.beq (CO (a%m+1) m (a%m) 0 (1%m) m).1 1=true;rw [hr];rfl
     rw [hb]at hk;rw [aJ hr]at he;subst he;exact⟨_,rfl,U,_,S,hk,.pO (.cons (.flat rfl) (.cons (.flat rfl) (.nil U))),q1,q2⟩
    ·have hb:Nat.beq (CO (Nat.succ (Nat.mod a m)) m (Nat.mod a m) 0 (Nat.mod 1 m) m).1 1=false:=by
      cases hq:Nat.beq (CO (Nat.succ (Nat.mod a m)) m (Nat.mod a m) 0 (Nat.mod 1 m) m).1 1 with
      | false=>rfl
      | true=>exact aX (dE hq) hr
     rw [hb]at hk;rw [aG hr]at he;subst he;exact⟨_,rfl,U,_,S,hk,.pO (.cons (.flat rfl) (.cons (.flat rfl) (.nil U))),q1,q2⟩
   ·cases hk
  ·cases hk
 ·cases hk
def aIA (ov:FuncId->Option (List Value->St->VK->Bool)):FuncId->Option (List Value->St->VK->Bool):=
 FY 158 (ov3 fun a b m=>a*b%m) (FY 157 (ov3 fun a b m=>(a%m+b%m)%m) (FY 231 (ov3 iB) (FY 125 aE3 (FY 229 aBL ov))))
theorem aIB{ov:FuncId->Option (List Value->St->VK->Bool)} (h:Ee Tryz.prog w0 ov):Ee Tryz.prog w0 (aIA ov):=
 vU (aDz (enters_of Tryz.func158 (by kernel_rfl) rfl) fun a b m w h1 h2 h3 h4=>Qa a b m w h1 h2 h3 h4)
  (vU (aDz (enters_of Tryz.func157 (by kernel_rfl) rfl) fun a b m w h1 h2 h3 h4=>aOu a b m w h1 h2 h3 h4)
   (vU (aDz (enters_of Tryz.func231 (by kernel_rfl) rfl) fun a b m w h1 h2 h3 h4=>aIx a b m w h1 h2 h3 h4)
    (vU aJk (vU aJl h))))
end
end Go.Am
namespace Go.Am
open Go.Proofs Go.RowKit
theorem Qb:Tryz.prog.follows .mixedOrders=true:=by kernel_rfl
theorem aIy:Tryz.prog.funcs.toList.all (fun f=>f.name != "runtime.NumGoroutine")=true:=by kernel_rfl
theorem Qc:∀(f:FuncId) (fn:Func),Tryz.prog.funcs[f]? =some fn->fn.name≠ "runtime.NumGoroutine" :=by
 intro f fn h;have hm:fn∈Tryz.prog.funcs.toList:=CW (i:=f) (by rw [Nl];exact h);have:=List.all_eq_true.1 aIy fn hm;simpa using this
def triedL:List Int:=[2,3,5,7,11,13,17,19,23,29,31,37]
def tabL:List Int:=[0,1,56,2,57,49,28,3,61,58,42,50,38,29,17,4,62,47,59,36,45,43,51,22,53,39,33,30,24,18,12,5,63,55,48,27,60,41,37,16,46,35,44,21,52,32,23,11,54,26,40,15,34,20,31,10,25,14,19,9,13,8,7,6]
def gs:List Pm:=[⟨0,triedL.map (Value.int .u64),228,12⟩,⟨1,tabL.map (Value.int .u8),275,64⟩]
theorem gsz:Tryz.prog.globals.size=4:=by kernel_rfl
theorem aEU:GOk Tryz.prog gs:=by
 refine⟨by decide,fun x hx=>?_⟩;rcases List.mem_cons.1 hx with rfl | hx
 ·exact⟨by rw [gsz];decide,by kernel_rfl,by simp [bW]⟩
 ·rcases List.mem_cons.1 hx with rfl | hx
  ·exact⟨by rw [gsz];decide,by kernel_rfl,by simp [bW]⟩
  ·cases hx
def aIz:FuncId->Option (List Value->St->VK->Bool):=aIA (fun _=>none)
theorem aEV{w:World}:Ee Tryz.prog w aIz:=aIB (fun f g hg=>by cases hg)
set_option maxRecDepth 1000000 in
theorem aDl:YP Tryz.prog aIz 1000 60 95 gs ([.int .u64 11],.bool true):=⟨by simp [kM,bW],rfl,by kernel_rfl⟩
set_option maxRecDepth 1000000 in
theorem aDm:YP Tryz.prog aIz 1000 60 95 gs ([.int .u64 23],.bool true):=⟨by simp [kM,bW],rfl,by kernel_rfl⟩
def Zd:List (List Value×Value):=[([.int .u64 11],.bool true),([.int .u64 23],.bool true)]
def aLH:FuncId->Option (List Value->St->VK->Bool):=FY 95 (NO Zd) aIz
theorem aEW{w:World} (hsz:Tryz.prog.globals.size<=w.heap.size) (hl:Laid gs w):Ee Tryz.prog w aLH:=by
 refine vU (Mu (most:=1000) (n:=60) aEU hsz hl (fun w _ _=>aEV) Qc Qb (enters_of Tryz.func95 (by kernel_rfl) rfl) fun x hx=>?_) aEV;unfold Zd at hx;rcases List.mem_cons.1 hx with rfl | hx
 ·exact aDl
 rcases List.mem_cons.1 hx with rfl | hx
 ·exact aDm
 cases hx
set_option maxRecDepth 1000000 in
theorem aIC:YP Tryz.prog aLH 1000 60 33 gs ([.agg #[.int .u64 23,.int .u64 11,.int .u64 4,.int .u64 9,.int .i64 5,.int .i64 4,.int .i64 1,.int .i64 1,.int .i64 1,.int .i64 1,.int .i64 1,.int .i64 1]],.bool true):=⟨by simp [kM,bW],rfl,by kernel_rfl⟩
def aLI:List (List Value×Value):=[([.agg #[.int .u64 23,.int .u64 11,.int .u64 4,.int .u64 9,.int .i64 5,.int .i64 4,.int .i64 1,.int .i64 1,.int .i64 1,.int .i64 1,.int .i64 1,.int .i64 1]],.bool true)]
def aLJ:FuncId->Option (List Value->St->VK->Bool):=FY 33 (NO aLI) aLH
theorem aEX{w:World} (hsz:Tryz.prog.globals.size<=w.heap.size) (hl:Laid gs w):Ee Tryz.prog w aLJ:=by
 refine vU (Mu (most:=1000) (n:=60) aEU hsz hl (fun w hz hw=>aEW hz hw) Qc Qb (enters_of Tryz.func33 (by kernel_rfl) rfl) fun x hx=>?_) (aEW hsz hl);unfold aLI at hx;rcases List.mem_cons.1 hx with rfl | hx
 ·exact aIC
 cases hx
set_option maxRecDepth 1000000 in
theorem aGC:YP Tryz.prog aLJ 1000 60 156 gs ([.int .u64 11],.int .u64 5):=⟨by simp [kM,bW],rfl,by kernel_rfl⟩
def aEY:List (List Value×Value):=[([.int .u64 11],.int .u64 5)]
def aLK:FuncId->Option (List Value->St->VK->Bool):=FY 156 (NO aEY) aLJ
theorem aEZ{w:World} (hsz:Tryz.prog.globals.size<=w.heap.size) (hl:Laid gs w):Ee Tryz.prog w aLK:=by
 refine vU (Mu (most:=1000) (n:=60) aEU hsz hl (fun w hz hw=>aEX hz hw) Qc Qb (enters_of Tryz.func156 (by kernel_rfl) rfl) fun x hx=>?_) (aEX hsz hl);unfold aEY at hx;rcases List.mem_cons.1 hx with rfl | hx
 ·exact aGC
 cases hx
end Go.Am
namespace Go.Proofs
open Go.Shelf
def Tryz.sortI_ren:Go.Shelf.Ren:=⟨fun | 189=>43 | 125=>127 | 257=>126 | 128=>190 | 129=>191 | 294=>181 | 295=>182 | 296=>183 | 297=>184 | 298=>185 | 299=>186 | 216=>187 | 300=>188 | 301=>189 | 328=>222 | 329=>223 | 330=>224 | 331=>225 | 332=>226 | 215=>227 | 343=>240 | n=>n,fun | 28=>32 | 3=>3 | 46=>75 | 0=>0 | 51=>247 | 53=>22 | 4=>4 | 183=>239 | 182=>238 | 131=>244 | 5=>5 | 9=>9 | 218=>281 | 222=>284 | 228=>296 | 229=>297 | n=>n,fun | n=>n⟩
theorem Tryz.sortI:Go.Proofs.Lays.n189 Tryz.prog Tryz.sortI_ren:={
 mixed:=by kernel_rfl
 f125:=Tryz.func127.trans (congrArg some (by kernel_rfl))
 f128:=Tryz.func190.trans (congrArg some (by kernel_rfl))
 f129:=Tryz.func191.trans (congrArg some (by kernel_rfl))
 f189:=Tryz.func43.trans (congrArg some (by kernel_rfl))
 f215:=Tryz.func227.trans (congrArg some (by kernel_rfl))
 f216:=Tryz.func187.trans (congrArg some (by kernel_rfl))
 f257:=Tryz.func126.trans (congrArg some (by kernel_rfl))
 f294:=Tryz.func181.trans (congrArg some (by kernel_rfl))
 f295:=Tryz.func182.trans (congrArg some (by kernel_rfl))
 f296:=Tryz.func183.trans (congrArg some (by kernel_rfl))
 f297:=Tryz.func184.trans (congrArg some (by kernel_rfl))
 f298:=Tryz.func185.trans (congrArg some (by kernel_rfl))
 f299:=Tryz.func186.trans (congrArg some (by kernel_rfl))
 f300:=Tryz.func188.trans (congrArg some (by kernel_rfl))
 f301:=Tryz.func189.trans (congrArg some (by kernel_rfl))
 f328:=Tryz.func222.trans (congrArg some (by kernel_rfl))
 f329:=Tryz.func223.trans (congrArg some (by kernel_rfl))
 f330:=Tryz.func224.trans (congrArg some (by kernel_rfl))
 f331:=Tryz.func225.trans (congrArg some (by kernel_rfl))
 f332:=Tryz.func226.trans (congrArg some (by kernel_rfl))
 f343:=Tryz.func240.trans (congrArg some (by kernel_rfl))
 t0:=Tryz.underlying0
 a0:=Tryz.isAgg0
 z0:=Tryz.sizeOf0
 v0:=Tryz.zeroValue0
 t3:=Tryz.underlying3
 a3:=Tryz.isAgg3
 z3:=Tryz.sizeOf3
 v3:=Tryz.zeroValue3
 t4:=Tryz.underlying4
 a4:=Tryz.isAgg4
 z4:=Tryz.sizeOf4
 v4:=Tryz.zeroValue4
 t5:=Tryz.underlying5
 a5:=Tryz.isAgg5
 z5:=Tryz.sizeOf5
 v5:=Tryz.zeroValue5
 t9:=Tryz.underlying9
 a9:=Tryz.isAgg9
 z9:=Tryz.sizeOf9
 v9:=Tryz.zeroValue9
 t28:=Tryz.underlying32
 a28:=Tryz.isAgg32
 z28:=Tryz.sizeOf32
 v28:=Tryz.zeroValue32
 t46:=Tryz.underlying75
 a46:=Tryz.isAgg75
 z46:=Tryz.sizeOf75
 v46:=Tryz.zeroValue75
 t51:=Tryz.underlying247
 a51:=Tryz.isAgg247
 z51:=Tryz.sizeOf247
 v51:=Tryz.zeroValue247
 t53:=Tryz.underlying22
 a53:=Tryz.isAgg22
 z53:=Tryz.sizeOf22
 v53:=Tryz.zeroValue22
 t131:=Tryz.underlying244
 a131:=Tryz.isAgg244
 z131:=Tryz.sizeOf244
 v131:=Tryz.zeroValue244
 t182:=Tryz.underlying238
 a182:=Tryz.isAgg238
 z182:=Tryz.sizeOf238
 v182:=Tryz.zeroValue238
 t183:=Tryz.underlying239
 a183:=Tryz.isAgg239
 z183:=Tryz.sizeOf239
 v183:=Tryz.zeroValue239
 t218:=Tryz.underlying281
 a218:=Tryz.isAgg281
 z218:=Tryz.sizeOf281
 v218:=Tryz.zeroValue281
 t222:=Tryz.underlying284
 a222:=Tryz.isAgg284
 z222:=Tryz.sizeOf284
 v222:=Tryz.zeroValue284
 t228:=Tryz.underlying296
 a228:=Tryz.isAgg296
 z228:=Tryz.sizeOf296
 v228:=Tryz.zeroValue296
 t229:=Tryz.underlying297
 a229:=Tryz.isAgg297
 z229:=Tryz.sizeOf297
 v229:=Tryz.zeroValue297}
end Go.Proofs
namespace Go.Am
open Go.RowKit Go.MapKept Go.Proofs
def HN (z:Int):Value:= .int .i64 z
def FZ (ls:List Int):List Int:=ls.mergeSort fun x y=>decide (x<=y)
open Classical in
def XA (args:List Value) (S:St) (K:VK):Bool:=
 match args with
 | [.slice none 0 0]=>K (.tuple #[]) S
 | [.slice (some _) 0 _]=>K (.tuple #[]) S
 | [.slice (some ⟨i,0,some 0⟩) n _]=>if h:∃ls:List Int,ls.length=n/\ls.length<1000000/\∃olds,S.obj i=some (.cells (ls.map HN) 3 (.grown olds))then uP S i 0 ((FZ h.choose).map HN) fun S=>K (.tuple #[]) S else false
 | _=>false
theorem QE (ls:List Int):(FZ ls).length=ls.length:=List.length_mergeSort ls
theorem Ln (d:List Int) (off:Nat) (cs:Array Value) (h:off+d.length<=cs.size):Go.Sort.putCells HN off d.toArray cs=⟨aY off (d.map HN) cs.toList⟩:=by
 apply Array.ext_getElem?;intro k;have:=sB off (d.map HN) cs.toList (by simpa using h) k;simp only [lR]at this;simp only [Go.Sort.putCells,Array.getElem?_mapIdx,List.size_toArray];refine Eq.trans ?_ (show(aY off (d.map HN) cs.toList)[k]? =(⟨aY off (d.map HN) cs.toList⟩:Array Value)[k]? by simp);rw [this];by_cases hk:off<=k/\k<off+d.length
 ·rw [aJ hk,Hl (show k<cs.size by omega),CY,aJ hk,dO,aQ (show k-off<d.length by omega)]
  simp [show k-off<d.length by omega]
 ·rw [aG hk]
  cases hc:cs[k]? with
  | none=>rw [Option.map_none];simpa using hc.symm
  | some y=>rw [CY,aG hk];simpa using hc.symm
section
variable{w0:World}
theorem aGD:kT Tryz.prog w0 (fun f' args S K=>match Nat.beq f' 43 with | true=>XA args S K | false=>false):=by
 intro f args S K U w eK hk h ha;dsimp only at hk;split at hk
 ·rename_i hf
  obtain rfl:f=43:=by simpa using hf
  refine⟨enters_of Tryz.func43 (by kernel_rfl) rfl ⟨eK⟩,?_⟩;have nil:∀U',VR U' (.tuple #[]) (.tuple #[]):=fun U'=> .tuple rfl fun k v v' e _=>by simp at e
  unfold XA at hk;split at hk
  ·obtain⟨t',l',rfl,ht,ha⟩:=ha.dH
   cases ha.kS;obtain rfl:=ht.of_flat rfl;have hc:Calls Tryz.prog 43 #[.slice none 0 0] w fun e w'=>e= .returned (.tuple #[])/\w'=w:=Any.slices_Sort_int_none Tryz.sortI none 0 w;refine callsIn_wide.2 (hc.mono ?_)
   rintro e w' ⟨rfl,rfl⟩
   exact⟨_,rfl,U,_,S,hk,nil U,h,.refl U _⟩
  ·obtain⟨t',l',rfl,ht,ha⟩:=ha.dH
   cases ha.kS
   obtain⟨p',c',rfl⟩:∃p' c',t'= .slice p' 0 c':=by
    cases ht with
    | flat q=>cases q
    | _=>exact⟨_,_,rfl⟩
   have hc:Calls Tryz.prog 43 #[.slice p' 0 c'] w fun e w'=>e= .returned (.tuple #[])/\w'=w:=Any.slices_Sort_int_none Tryz.sortI p' c' w;refine callsIn_wide.2 (hc.mono ?_)
   rintro e w' ⟨rfl,rfl⟩
   exact⟨_,rfl,U,_,S,hk,nil U,h,.refl U _⟩
  ·rename_i i n c _
   split at hk
   ·rename_i hex
    obtain⟨h1,h2,olds,ho⟩:=hex.choose_spec;generalize hex.choose=ls at h1 h2 ho hk;obtain⟨t',l',rfl,ht,ha⟩:=ha.dH;cases ha.kS;cases ht with
    | flat q=>cases q
    | @rF _ _ _ _ c' L hL hcc hn he hm=>
     obtain⟨cs,t,fz,hb,hcell,DQ⟩:=h.cells ho hL;obtain⟨g1,g2,g3,g4,g5⟩:=DQ
     have Hi:∀j (hj:j<ls.length),cs[L.s+j]? =some (HN ls[j]):=fun j hj=>by
      obtain⟨v',PU,hr⟩:=hcell j (HN ls[j]) (by rw [dO,aQ hj];rfl);rw [PU,hr.of_flat rfl]
     have Ch:L.s+ls.length<=cs.size:=by
      rcases RH ls.length with hz | hz
      ·rw [<-g3,<-he,hz];omega
      ·have:=Hi (ls.length-1) (by omega)
       have:=(Array.getElem?_eq_some_iff.1 this).1;omega
     have hH:Go.Sort.Holds HN w L.b L.s ls.toArray:=fun j hj=>by
      have hj:j<ls.length:=by simpa using hj
      refine⟨?_,?_⟩
      ·rw [cell_of hb (Hi j hj)]
       simp [hj]
      ·have:=g2 (L.s+j) (by omega)
       unfold World.frozen?;simp only [hb];obtain⟨lo,hi⟩:=fz;rw [Bool.eq_false_iff];intro q;simp only [dR,decide_eq_true_eq]at q;exact this q
     have hc:Calls Tryz.prog 43 #[.slice (some ⟨L.b,L.s,none⟩) ls.length c'] w fun e w'=>e= .returned (.tuple #[])/\∃n os,w'=Go.Sort.grow (Go.Sort.putRow HN (Go.Sort.ahead w n) L.b L.s (FZ ls).toArray) os:=
      Any.slices_Sort_int Tryz.sortI L.b L.s c' ls w hH (Array.getElem?_eq_some_iff.1 hb).1 (by omega)
     obtain⟨S',w1,k1,r1,s1,aSt⟩:=DI (new':=(FZ ls).map HN) h hk hL (lM.flat fun v hv=>by
      obtain⟨u,_,rfl⟩:=List.mem_map.1 hv;rfl) (fun v hv=>by obtain⟨u,_,rfl⟩:=List.mem_map.1 hv;rfl)
     have hlen:((FZ ls).map HN).length=ls.length:=by rw [lR,QE]
     have aL5:=DJ (P:=Tryz.prog) ((FZ ls).map HN) w L.b (L.s+0) 0 cs t fz hb (by rw [hlen];omega) (fun x _ hx=>g2 x (by rw [hlen]at hx;omega)) (fun v hv=>by obtain⟨u,_,rfl⟩:=List.mem_map.1 hv;rfl);rw [aSt]at aL5;injection aL5 with _ aL5;subst h1;refine callsIn_wide.2 (Calls.mono (show Calls Tryz.prog 43 #[.slice (some ⟨L.b,L.s+0,none⟩) ls.length c'] w _ from hc) ?_)
     rintro e w' ⟨rfl,m,os,rfl⟩
     have aSu:Below w1.heap.size w1 (Go.Sort.grow (Go.Sort.putRow HN (Go.Sort.ahead w m) L.b L.s (FZ ls).toArray) os):=by
      subst aL5;have hsz:(w.putObj L.b (.cells ⟨aY (L.s+0+0) ((FZ ls).map HN) cs.toList⟩ t fz)).heap.size=w.heap.size:=putObj_size _ _;have hhp:∀k,k<w.heap.size->(Go.Sort.grow (Go.Sort.putRow HN (Go.Sort.ahead w m) L.b L.s (FZ ls).toArray) os).heap[k]? =(Go.Sort.putRow HN (Go.Sort.ahead w m) L.b L.s (FZ ls).toArray).heap[k]? :=fun k hk=>Go.Sort.heap_grow_old _ os (by rw [Go.Sort.size_putRow];exact hk);refine⟨rfl,rfl,rfl,by rw [hsz,Go.Sort.size_grow,Go.Sort.size_putRow];show w.heap.size<=w.heap.size+os.size;omega,fun k hk=>?_⟩;rw [hsz]at hk;rw [hhp k hk];by_cases e:k=L.b
      ·subst e
       rw [RY hb];simp only [Go.Sort.putRow,Go.Sort.mapBlock,Array.getElem?_modify,if_true];show Option.map _ w.heap[L.b]? =_;rw [hb,CY];simp only [Go.Sort.onCells];rw [Ln _ _ _ (by rw [QE];exact Ch)];rfl
      ·rw [yF e]
       simp only [Go.Sort.putRow,Go.Sort.mapBlock,Array.getElem?_modify];rw [aG (aO e)];rfl
     obtain⟨q1,q2⟩:=r1.below aSu;exact⟨_,rfl,U,_,S',k1,nil U,q1,s1.trans q2⟩
   ·cases hk
  ·cases hk
 ·cases hk
end
end Go.Am
namespace Go.Am
open Go.Proofs Go.RowKit
def aOx:FuncId->Option (List Value->St->VK->Bool):=FY 43 XA aLK
theorem aLL{w:World} (hsz:Tryz.prog.globals.size<=w.heap.size) (hl:Laid gs w):Ee Tryz.prog w aOx:=vU aGD (aEZ hsz hl)
set_option maxRecDepth 1000000 in
theorem aGE:YP Tryz.prog aLK 1000 60 8 gs ([],.bool true):=⟨by simp,rfl,by kernel_rfl⟩
def Ze:List (List Value×Value):=[([],.bool true)]
def Fg:FuncId->Option (List Value->St->VK->Bool):=FY 8 (NO Ze) aOx
theorem aLM{w:World} (hsz:Tryz.prog.globals.size<=w.heap.size) (hl:Laid gs w):Ee Tryz.prog w Fg:=by
 refine vU (Mu (most:=1000) (n:=60) aEU hsz hl (fun w hz hw=>aEZ hz hw) Qc Qb (enters_of Tryz.func8 (by kernel_rfl) rfl) fun x hx=>?_) (aLL hsz hl);unfold Ze at hx;rcases List.mem_cons.1 hx with rfl | hx
 ·exact aGE
 cases hx
end Go.Am
namespace Go.Am
open Go.RowKit Go.MapKept Go.Proofs.NQ
abbrev nu (n:Nat):V:= .int .u64 (.ofNat n)
abbrev ni (n:Nat):V:= .int .i64 (.ofNat n)
def tN (b:Bool):Nat:=4
def tT (b:Bool):Nat:=1
def tM (b:Bool):Nat:=5
def pv (b:Bool):List V:=[nu 23,nu 11,nu 4,nu 9,ni (tM b),ni (tN b),ni (tT b),ni 1,ni 1,ni 1,ni 1,ni 1]
def gM3 (g:Nat->Nat->Nat->Nat) (args:List V) (h:Hp) (K:KV):Prop:=∃a b m:Nat,args=[nu a,nu b,nu m]/\a<18446744073709551616/\b<18446744073709551616/\0<m/\m<=4294967296/\K (nu (g a b m)) h
def aE0 (args:List V) (h:Hp) (K:KV):Prop:=∃a m:Nat,args=[nu a,nu m]/\a<18446744073709551616/\0<m/\m<=4294967296/\
 K (if(CO (a%m+1) m (a%m) 0 (1%m) m).1=1 then .tuple [nu (CO (a%m+1) m (a%m) 0 (1%m) m).2,ni 0]else .tuple [nu 0,ni 5]) h
def aE1 (args:List V) (h:Hp) (K:KV):Prop:=∃b:Bool,args=[.agg (pv b)]/\K (.bool true) h
def Zf (args:List V) (h:Hp) (K:KV):Prop:=args=[nu 11]/\K (nu 5) h
def aLN (args:List V) (h:Hp) (K:KV):Prop:=args=[nu 11]/\K (.bool true) h
def Ip (args:List V) (h:Hp) (K:KV):Prop:=(args=[.nil]/\K (.tuple []) h)\/(∃i o c:Nat,args=[.own i o 0 c]/\K (.tuple []) h)\/∃(i:Nat) (ls:List Int),args=[.acc i ls.length]/\0<ls.length/\h i=some (.fW (ls.map (V.int .i64)) 3 ls.length)/\ls.length<1000000/\K (.tuple []) (aK h i (.fW ((FZ ls).map (V.int .i64)) 3 ls.length))
def aLO (args:List V) (h:Hp) (K:KV):Prop:=args=[]/\K (.bool true) h
def gM (f:FuncId):Option (List V->Hp->KV->Prop):=
 if f=AE then some aLO else if f=lA then some Ip else if f=HM then some Zf else if f=uG then some aE1 else if f=NS then some aLN else
 if f=nX then some (gM3 fun a b m=>a*b%m)else if f=CF then some (gM3 fun a b m=>(a%m+b%m)%m)else if f=yH then some (gM3 iB)else
 if f=QD then some (gM3 fun a e m=>ZL 64 (1%m) a e m)else if f=yI then some aE0 else none
section
variable{B:Nat->Prop}{Sb:St}{c:Cx}{h:Hp}{S:St}
theorem LL{a b:Nat} (h:a≠b):Nat.beq a b=false:=by
 cases e:Nat.beq a b with
 | false=>rfl
 | true=>exact aX (dE e) h
theorem Vx{a b:Nat} (h:a<b):Nat.blt a b=true:=nJ h
theorem Fh{a b m:Nat} (ha:a<18446744073709551616) (hb:b<18446744073709551616) (h0:0<m) (hm:m<=4294967296) (k:Nat->Nat->Nat->Bool):aBK [.int .u64 (.ofNat a),.int .u64 (.ofNat b),.int .u64 (.ofNat m)] k=k a b m:=by
 show(match Nat.blt a 18446744073709551616,Nat.blt b 18446744073709551616,Nat.ble m 4294967296,Nat.blt 0 m with | true,true,true,true=>k a b m | _,_,_,_=>false)=_;simp only [Vx ha,Vx hb,Vx h0,nJ hm]
theorem Mz{g:Nat->Nat->Nat->Nat}{g':List Value->St->VK->Bool} (hg:∀{a b m:Nat} (S:St) (K:VK),a<18446744073709551616->b<18446744073709551616->0<m->m<=4294967296->g' [.int .u64 (.ofNat a),.int .u64 (.ofNat b),.int .u64 (.ofNat m)] S K=K (.int .u64 (.ofNat (g a b m))) S)
 {args:List V} {ws:List Value} {Kv:KV} {K:VK} (s:VS PP B Sb c h S) (ra:lN c S (dI B c h) args ws) (k:KR PP B Sb c h S Kv K) (hv:gM3 g args h Kv):g' ws S K=true:=by
 obtain⟨a,b,m,rfl,h1,h2,h3,h4,hv⟩:=hv;obtain⟨w1,ws,rfl,r1,ra⟩:=ra.cons_inv;obtain⟨w2,ws,rfl,r2,ra⟩:=ra.cons_inv;obtain⟨w3,ws,rfl,r3,ra⟩:=ra.cons_inv;rw [ra.rK];cases r1;cases r2;cases r3;rw [hg S K h1 h2 h3 h4];exact k.here s .int hv
theorem aGF{args:List V}{ws:List Value}{Kv:KV}{K:VK} (s:VS PP B Sb c h S) (ra:lN c S (dI B c h) args ws) (k:KR PP B Sb c h S Kv K) (hv:aE0 args h Kv):aBL ws S K=true:=by
 obtain⟨a,m,rfl,h1,h3,h4,hv⟩:=hv;obtain⟨w1,ws,rfl,r1,ra⟩:=ra.cons_inv;obtain⟨w2,ws,rfl,r2,ra⟩:=ra.cons_inv;rw [ra.rK];cases r1;cases r2
 show(match Nat.blt a 18446744073709551616,Nat.ble m 4294967296,Nat.blt 0 m with
  | true,true,true=>bV (Nat.mod a m) fun s=>aLP (Nat.succ s) m s 0 (Nat.mod 1 m) m fun r x=>match Nat.beq r 1 with
   | true=>K (.tuple ⟨[.int .u64 (.ofNat x),.int .i64 (.ofNat 0)]⟩) S
   | false=>K (.tuple ⟨[.int .u64 (.ofNat 0),.int .i64 (.ofNat 5)]⟩) S
  | _,_,_=>false)=true
 simp only [Vx h1,Vx h3,nJ h4];rw [bK,aE2];have t2:∀x y:Nat,lN c S (dI B c h) [nu x,ni y] [.int .u64 (.ofNat x),.int .i64 (.ofNat y)]:=fun x y=> .cons .int (.cons .int .nil);by_cases e:(CO (a%m+1) m (a%m) 0 (1%m) m).1=1
 ·rw [aJ e]at hv
  show(match Nat.beq (CO (a%m+1) m (a%m) 0 (1%m) m).1 1 with | true=>_ | false=>_)=true;rw [e];exact k.here s (.tuple (t2 _ _).len (t2 _ _).rd) hv
 ·rw [aG e]at hv
  show(match Nat.beq (CO (a%m+1) m (a%m) 0 (1%m) m).1 1 with | true=>_ | false=>_)=true;rw [LL e];exact k.here s (.tuple (t2 _ _).len (t2 _ _).rd) hv
theorem aGG{args:List V}{ws:List Value}{Kv:KV}{K:VK} (s:VS PP B Sb c h S) (ra:lN c S (dI B c h) args ws) (k:KR PP B Sb c h S Kv K) (hv:aE1 args h Kv):NO aLI ws S K=true:=by
 obtain⟨b,rfl,hv⟩:=hv;obtain⟨w1,ws,rfl,r1,ra⟩:=ra.cons_inv;rw [ra.rK];cases r1 with
 | @agg _ cs hl hr=>
  have hr:lN c S (dI B c h) (pv b) cs:=⟨hl,hr⟩;obtain⟨w1,ws,rfl,r1,hr⟩:=hr.cons_inv;obtain⟨w2,ws,rfl,r2,hr⟩:=hr.cons_inv;obtain⟨w3,ws,rfl,r3,hr⟩:=hr.cons_inv;obtain⟨w4,ws,rfl,r4,hr⟩:=hr.cons_inv;obtain⟨w5,ws,rfl,r5,hr⟩:=hr.cons_inv;obtain⟨w6,ws,rfl,r6,hr⟩:=hr.cons_inv;obtain⟨w7,ws,rfl,r7,hr⟩:=hr.cons_inv;obtain⟨w8,ws,rfl,r8,hr⟩:=hr.cons_inv;obtain⟨w9,ws,rfl,r9,hr⟩:=hr.cons_inv;obtain⟨w10,ws,rfl,r10,hr⟩:=hr.cons_inv;obtain⟨w11,ws,rfl,r11,hr⟩:=hr.cons_inv;obtain⟨w12,ws,rfl,r12,hr⟩:=hr.cons_inv;rw [hr.rK];cases r1;cases r2;cases r3;cases r4;cases r5;cases r6;cases r7;cases r8;cases r9;cases r10;cases r11;cases r12;have hk:=k.here s .bool hv;cases b with
  | false=>exact hk
  | true=>exact hk
theorem aDn{args:List V}{ws:List Value}{Kv:KV}{K:VK} (s:VS PP B Sb c h S) (ra:lN c S (dI B c h) args ws) (k:KR PP B Sb c h S Kv K) (hv:Zf args h Kv):NO aEY ws S K=true:=by
 obtain⟨rfl,hv⟩:=hv;obtain⟨w1,ws,rfl,r1,ra⟩:=ra.cons_inv;rw [ra.rK];cases r1;exact k.here s .int hv
theorem aIE{args:List V}{ws:List Value}{Kv:KV}{K:VK} (s:VS PP B Sb c h S) (ra:lN c S (dI B c h) args ws) (k:KR PP B Sb c h S Kv K) (hv:aLN args h Kv):NO Zd ws S K=true:=by
 obtain⟨rfl,hv⟩:=hv;obtain⟨w1,ws,rfl,r1,ra⟩:=ra.cons_inv;rw [ra.rK];cases r1;exact k.here s .bool hv
theorem aIF{C:Nat->Prop}:∀{ls:List Int} {ws:List Value},lN c S C (ls.map (V.int .i64)) ws->ws=ls.map HN:=by
 intro ls;induction ls with
 | nil=>intro ws r;exact r.rK
 | cons l ls ih=>
  intro ws r;obtain⟨w1,ws,rfl,r1,r2⟩:=r.cons_inv;cases r1;rw [ih r2];rfl
theorem aGH{C:Nat->Prop}:∀(ls:List Int),lN c S C (ls.map (V.int .i64)) (ls.map HN):=by
 intro ls;induction ls with
 | nil=>exact .nil
 | cons l ls ih=>exact .cons .int ih
theorem aIG:∀{a b:List Int},a.map HN=b.map HN->a=b:=by
 intro a;induction a with
 | nil=>intro b h;cases b with | nil=>rfl | cons=>cases h
 | cons x a ih=>
  intro b h;cases b with
  | nil=>cases h
  | cons y b=>
   simp only [Bp,List.cons.injEq]at h
   have hx:x=y:=by
    have h:=h.1;unfold HN at h;injection h
   rw [hx,ih h.2]
theorem aGI{b n c:Nat}{K:VK}:XA [.slice (some ⟨b,0,some 0⟩) (n+1) c] S K= @dite Bool (∃ls:List Int,ls.length=n+1/\ls.length<1000000/\∃olds,S.obj b=some (.cells (ls.map HN) 3 (.grown olds))) (Classical.propDecidable _) (fun h=>uP S b 0 ((FZ h.choose).map HN) fun S=>K (.tuple #[]) S) (fun _=>false):=rfl
open Classical in
theorem aDo{args:List V}{ws:List Value}{Kv:KV}{K:VK} (s:VS PP B Sb c h S) (ra:lN c S (dI B c h) args ws) (k:KR PP B Sb c h S Kv K) (hv:Ip args h Kv):XA ws S K=true:=by
 have nil:∀{d:Cx} {S':St} {C:Nat->Prop},fI d S' C (.tuple []) (.tuple #[]):= .tuple rfl fun k v w e _=>by simp at e
 rcases hv with ⟨rfl,hv⟩ | ⟨i,o,c,rfl,hv⟩ | ⟨i,ls,rfl,h0,hi,hn,hv⟩
 ·obtain⟨w1,ws,rfl,r1,ra⟩:=ra.cons_inv
  rw [ra.rK];cases r1;exact k.here s nil hv
 ·obtain⟨w1,ws,rfl,r1,ra⟩:=ra.cons_inv
  rw [ra.rK];cases r1 with
  | own hZ=>exact k.here s nil hv
 ·obtain⟨w1,ws,rfl,r1,ra⟩:=ra.cons_inv
  rw [ra.rK];cases r1 with
  | acc hG=>
   obtain⟨b,us,olds,sz,e1,e2,e3,e4,e5,_⟩:=s.fW i _ _ _ hi;rw [hG]at e1;injection e1 with e1;subst e1;have hu:=aIF e5;subst hu;obtain⟨n,hn1⟩:∃n,ls.length=n+1:=⟨ls.length-1,by omega⟩;have hex:∃aOA:List Int,aOA.length=n+1/\aOA.length<1000000/\∃olds,S.obj b=some (.cells (aOA.map HN) 3 (.grown olds)):=⟨ls,hn1,hn,olds,e4⟩;have hg:∀m,ls.length=m->XA [.slice (some ⟨b,0,some 0⟩) m m] S K=XA [.slice (some ⟨b,0,some 0⟩) (n+1) (n+1)] S K:=fun m hm=>by rw [<-hm,hn1]
   rw [hg _ rfl,aGI];rw [dif_pos hex];obtain⟨h1,h2,aTc,h3⟩:=hex.choose_spec
   have hls:hex.choose=ls:=by
    have h4:=e4.symm.trans h3;injection h4 with h4;injection h4 with h4;exact(aIG h4).symm
   rw [hls];refine SM s (o:=0) (cs:=(FZ ls).map (V.int .i64)) hi hG (aGH _) (by simp [QE]) (Kv:=fun h'=>Kv (.tuple []) h') (fun h' S' f s' PU=>k c h' S' _ _ (.refl c) f s' nil PU) ?_
   have:aY 0 ((FZ ls).map (V.int .i64)) (ls.map (V.int .i64))=(FZ ls).map (V.int .i64):=by
    unfold aY;simp [QE]
   rw [this];exact hv
theorem aIH{args:List V}{ws:List Value}{Kv:KV}{K:VK} (s:VS PP B Sb c h S) (ra:lN c S (dI B c h) args ws) (k:KR PP B Sb c h S Kv K) (hv:aLO args h Kv):NO Ze ws S K=true:=by
 obtain⟨rfl,hv⟩:=hv;rw [ra.rK];exact k.here s .bool hv
theorem aOB:aNh PP B Sb gM Fg:=by
 have h1:∀f,(gM f=none/\Fg f=none)\/(gM f=some aLO/\Fg f=some (NO Ze))\/(gM f=some Ip/\Fg f=some XA)\/(gM f=some Zf/\Fg f=some (NO aEY))\/(gM f=some aE1/\Fg f=some (NO aLI))\/(gM f=some aLN/\Fg f=some (NO Zd))\/
  (gM f=some (gM3 fun a b m=>a*b%m)/\Fg f=some (ov3 fun a b m=>a*b%m))\/(gM f=some (gM3 fun a b m=>(a%m+b%m)%m)/\Fg f=some (ov3 fun a b m=>(a%m+b%m)%m))\/(gM f=some (gM3 iB)/\Fg f=some (ov3 iB))\/
  (gM f=some (gM3 fun a e m=>ZL 64 (1%m) a e m)/\Fg f=some aE3)\/(gM f=some aE0/\Fg f=some aBL):=by
  intro f;by_cases ea:f=AE
  ·subst ea;exact .inr (.inl ⟨rfl,rfl⟩)
  by_cases e0:f=lA
  ·subst e0;exact .inr (.inr (.inl ⟨rfl,rfl⟩))
  by_cases e1:f=HM
  ·subst e1;exact .inr (.inr (.inr (.inl ⟨rfl,rfl⟩)))
  by_cases e2:f=uG
  ·subst e2;exact .inr (.inr (.inr (.inr (.inl ⟨rfl,rfl⟩))))
  by_cases e3:f=NS
  ·subst e3;exact .inr (.inr (.inr (.inr (.inr (.inl ⟨rfl,rfl⟩)))))
  by_cases e4:f=nX
  ·subst e4;exact .inr (.inr (.inr (.inr (.inr (.inr (.inl ⟨rfl,rfl⟩))))))
  by_cases e5:f=CF
  ·subst e5;exact .inr (.inr (.inr (.inr (.inr (.inr (.inr (.inl ⟨rfl,rfl⟩)))))))
  by_cases e6:f=yH
  ·subst e6;exact .inr (.inr (.inr (.inr (.inr (.inr (.inr (.inr (.inl ⟨rfl,rfl⟩))))))))
  by_cases e7:f=QD
  ·subst e7;exact .inr (.inr (.inr (.inr (.inr (.inr (.inr (.inr (.inr (.inl ⟨rfl,rfl⟩)))))))))
  by_cases e8:f=yI
  ·subst e8;exact .inr (.inr (.inr (.inr (.inr (.inr (.inr (.inr (.inr (.inr ⟨rfl,rfl⟩)))))))))
  refine .inl ⟨by unfold gM;rw [aG ea,aG e0,aG e1,aG e2,aG e3,aG e4,aG e5,aG e6,aG e7,aG e8],?_⟩;unfold Fg aOx aLK aLJ aLH aIz aIA FY;rw [show Nat.beq f 8=false from LL ea,show Nat.beq f 43=false from LL e0,show Nat.beq f HM=false from LL e1,show Nat.beq f uG=false from LL e2,show Nat.beq f NS=false from LL e3,show Nat.beq f nX=false from LL e4,show Nat.beq f CF=false from LL e5,show Nat.beq f yH=false from LL e6,show Nat.beq f QD=false from LL e7,show Nat.beq f yI=false from LL e8];rfl
 refine⟨fun f hf=>?_,fun f g hg=>?_⟩
 ·rcases h1 f with ⟨_,q⟩ | ⟨q,_⟩ | ⟨q,_⟩ | ⟨q,_⟩ | ⟨q,_⟩ | ⟨q,_⟩ | ⟨q,_⟩ | ⟨q,_⟩ | ⟨q,_⟩ | ⟨q,_⟩ | ⟨q,_⟩
  ·exact q
  all_goals rw [q]at hf;cases hf
 ·rcases h1 f with ⟨q,_⟩ | ⟨q,q2⟩ | ⟨q,q2⟩ | ⟨q,q2⟩ | ⟨q,q2⟩ | ⟨q,q2⟩ | ⟨q,q2⟩ | ⟨q,q2⟩ | ⟨q,q2⟩ | ⟨q,q2⟩ | ⟨q,q2⟩
  all_goals rw [q]at hg
  ·cases hg
  all_goals injection hg with hg;subst hg;refine⟨_,q2,fun s ra k hv=>?_⟩
  ·exact aIH s ra k hv
  ·exact aDo s ra k hv
  ·exact aDn s ra k hv
  ·exact aGG s ra k hv
  ·exact aIE s ra k hv
  ·exact Mz (fun S K h1 h2 h3 h4=>by unfold ov3;rw [Fh h1 h2 h3 h4,bK]) s ra k hv
  ·exact Mz (fun S K h1 h2 h3 h4=>by unfold ov3;rw [Fh h1 h2 h3 h4,bK]) s ra k hv
  ·exact Mz (fun S K h1 h2 h3 h4=>by unfold ov3;rw [Fh h1 h2 h3 h4,bK]) s ra k hv
  ·exact Mz (fun S K h1 h2 h3 h4=>by unfold aE3;rw [Fh h1 h2 h3 h4];exact aE4 64 _ _ _) s ra k hv
  ·exact aGF s ra k hv
end
end Go.Am
namespace Go.Am
abbrev nd (n:Nat):Dt:= .int .u64 (.ofNat n)
def jK (l:List Nat):List Dt:=l.map nd
def nY (l:List Nat):List V:=l.map nu
theorem GY (l:List Nat):(jK l).length=l.length:=lR _
theorem nZ (l:List Nat):(nY l).length=l.length:=lR _
theorem IP{l:List Nat}{i n:Nat} (h:l[i]? =some n):(nY l)[i]? =some (nu n):=by unfold nY;rw [dO,h];rfl
theorem Zg{l:List Nat}{i n:Nat} (h:l[i]? =some n):(jK l)[i]? =some (nd n):=by unfold jK;rw [dO,h];rfl
theorem aE5 (l m:List Nat):nY (l++m)=nY l++nY m:=RI
theorem aLQ (l:List Nat):(nY l).all fR=true:=by rw [KO];intro v hv;obtain⟨n,_,rfl⟩:=List.mem_map.1 hv;rfl
inductive NV (S:Hp):V->List Nat->Prop
 | nil:NV S .nil []
 | list {O:Tag} {l:List Nat}:NV S (.list O (jK l) l.length) l
 | acc {i:Nat} {t:TypeId} {l:List Nat} (h:S i=some (.fW (nY l) t l.length)):NV S (.acc i l.length) l
 | own {i o c:Nat} {t:TypeId} {vs:List V} {l:List Nat} (h:S i=some (.row vs t)) (hv:∀j n,l[j]? =some n->vs[o+j]? =some (nu n)) (hl:o+l.length<=vs.length):NV S (.own i o l.length c) l
 | ID {i m o c:Nat} {t:TypeId} {vs:List V} {l:List Nat} (h:S i=some (.fW vs t m)) (hv:∀j n,l[j]? =some n->vs[o+j]? =some (nu n)) (hl:o+l.length<=vs.length):NV S (.ID i m o l.length c) l
 | emp {i n:Nat}:NV S (.emp i n) []
section
variable{S S':Hp}{v:V}{l:List Nat}
theorem NV.up (h:NV S v l) (hle:bO S S'):NV S' v l:=by
 cases h with
 | nil=>exact .nil
 | list=>exact .list
 | acc h=>exact .acc (hle _ _ h)
 | own h hv hl=>exact .own (hle _ _ h) hv hl
 | ID h hv hl=>exact .ID (hle _ _ h) hv hl
 | emp=>exact .emp
theorem NV.len (h:NV S v l){K:V->Prop}:bH v K=K (ni l.length):=by cases h<;>rfl
theorem NV.at (h:NV S v l){i n:Nat} (hi:l[i]? =some n):∃p,(∀(j:IntKind) (K:V->Prop),cF 1 v (.int j (.ofNat i)) K=K p)/\(∀S',bO S S'->∀K:KV,aT p S' K=K (nu n) S'):=by
 have hlt:i<l.length:=(List.getElem?_eq_some_iff.1 hi).1;cases h with
 | nil=>cases hi
 | @list O=>
  refine⟨.pI O (jK l) (i*1),fun j K=>fH hlt,fun S' _ K=>?_⟩;rw [jL,sJ,cI (Zg hi)];rfl
 | @acc b t _ h=>
  refine⟨.vY b l.length (i*1),fun j K=>LM hlt,fun S' hle K=>?_⟩;rw [jL];unfold aT;simp only [hle _ _ h,cI (IP hi),true_and]
 | @own b o c t vs _ h hv hl=>
  refine⟨.ptr b (o+i*1),fun j K=>by simp [cF,hlt],fun S' hle K=>?_⟩;rw [jL];unfold aT;simp only [hle _ _ h,cI (hv i n hi)]
 | @ID b m o c t vs _ h hv hl=>
  refine⟨.vY b m (o+i*1),fun j K=>by simp [cF,hlt],fun S' hle K=>?_⟩;rw [jL];unfold aT;simp only [hle _ _ h,cI (hv i n hi),true_and]
 | emp=>cases hi
theorem aII (O:Tag) (l:List Nat):∀o,Tl O o (jK l)=nY l:=by
 induction l with
 | nil=>intro o;rfl
 | cons a l ih=>intro o;show _::Tl O (o+1) (jK l)=_;rw [ih];rfl
theorem NV.src (h:NV S v l){k:Nat->List V->Prop} (hk:k l.length (nY l)):Tx 1 v S k:=by
 cases h with
 | nil=>exact hk
 | @list O=>refine⟨by rw [GY];omega,?_⟩;rw [lQ (by rw [GY];omega),aII];exact hk
 | acc h=>unfold Tx;simp only [h];exact⟨trivial,by rw [nZ];omega,hk⟩
 | @own b o c t vs _ h hv hl=>
  unfold Tx;simp only [h];rw [dL (by omega)]
  have:(vs.drop o).take (l.length*1)=nY l:=by
   apply xE;intro j;rw [pK,oT];by_cases hj:j<l.length
   ·rw [aJ (by omega),hv j l[j] (aQ hj),IP (aQ hj)]
   ·rw [aG (by omega)];symm;exact FK (by rw [nZ];omega)
  rw [this];exact hk
 | @ID b m o c t vs _ h hv hl=>
  unfold Tx;simp only [h];rw [dL (by omega)]
  have:(vs.drop o).take (l.length*1)=nY l:=by
   apply xE;intro j;rw [pK,oT];by_cases hj:j<l.length
   ·rw [aJ (by omega),hv j l[j] (aQ hj),IP (aQ hj)]
   ·rw [aG (by omega)];symm;exact FK (by rw [nZ];omega)
  rw [this];exact⟨trivial,hk⟩
 | emp=>exact hk
theorem Zh{S0 S:Hp}{vs:List V}{o:Nat} (hv:∀j n,l[j]? =some n->vs[o+j]? =some (nu n)) (j:Nat) (v:V) (d:Dt) (h1:vs[o+j]? =some v) (h2:(jK l)[j]? =some d):Fi S0 S v d:=by
 unfold jK at h2;rw [dO]at h2;cases hq:l[j]? with
 | none=>rw [hq]at h2;cases h2
 | some n=>
  rw [hq]at h2;injection h2 with h2;subst h2;rw [hv j n hq]at h1;injection h1 with h1;subst h1;exact .int
inductive MN (S0 S:Hp):V->List Nat->Prop
 | nil:MN S0 S .nil []
 | acc {i:Nat} {l:List Nat} (h0:S0 i=none) (h:S i=some (.fW (nY l) 22 l.length)):MN S0 S (.acc i l.length) l
 | own {i:Nat} {l:List Nat} (h0:S0 i=none) (h:S i=some (.row (nY l) 22)):MN S0 S (.own i 0 l.length l.length) l
theorem MN.nv{S0:Hp} (h:MN S0 S v l):NV S v l:=by
 cases h with
 | nil=>exact .nil
 | acc _ h=>exact .acc h
 | own _ h=>exact .own h (fun j n hj=>by rw [eG];exact IP hj) (by rw [nZ];omega)
theorem MN.Cm{S0:Hp} (h:MN S0 S v l):Fi S0 S v (.list (jK l) l.length):=by
 cases h with
 | nil=>exact .nil
 | acc h0 h=>exact .acc h h0 (by rw [nZ,GY]) fun j v d a b=>Zh (o:=0) (fun j n hj=>by rw [eG];exact IP hj) j v d (by rw [eG];exact a) b
 | own h0 h=>exact .own h h0 (bR _) (by rw [nZ,GY];omega) fun j v d a b=>Zh (fun j n hj=>by rw [eG];exact IP hj) j v d a b
theorem MN.up{S0:Hp} (h:MN S0 S v l) (hle:bO S S'):MN S0 S' v l:=by
 cases h with
 | nil=>exact .nil
 | acc h0 h=>exact .acc h0 (hle _ _ h)
 | own h0 h=>exact .own h0 (hle _ _ h)
theorem MN.app{S0:Hp} (h:MN S0 S v l) (hs:bO S0 S) (hl:l.length<=1000000){n:Nat}{K:KV}
 (hk:∀w S',bO S0 S'->(∀j o,S j=some o->(∀vs m,o≠ .fW vs 22 m)->S' j=some o)->MN S0 S' w (l++[n])->K w S'):aS 22 1 iC [(0,1,nu n)] S fun v2 S=>jT 22 1 8 v v2 S K:=by
 refine⟨rfl,by simp,fun j hj=>?_⟩;have hj0:S0 j=none:=hs.none hj;have xB:bO S0 (aK S j (.row [nu n] 22)):=hs.trans (.aI hj);show jT 22 1 8 v (.own j 0 1 1) (aK S j (.row (aY 0 [nu n] [nu 0]) 22)) K;have e:aY 0 [nu n] [nu 0]=[nu n]:=rfl;rw [e];refine LN (m:=1) aC rfl ?_;refine⟨rfl,?_⟩;cases h with
 | nil=>
  refine⟨by decide,fun i hi=>hk _ _ (xB.trans (.aI hi)) (fun q o e _=>(bO.aI hi) _ _ ((bO.aI hj) _ _ e)) ?_⟩;exact .acc (l:=[n]) (xB.none hi) aC
 | @acc i _ h0 h=>
  have oJ:j≠i:=fun e=>by rw [e,h]at hj;cases hj
  have h':aK S j (.row [nu n] 22) i=some (.fW (nY l) 22 l.length):=by rw [aB (aO oJ)];exact h
  simp only [h'];refine⟨trivial,trivial,by rw [nZ];omega,by omega,?_⟩;have el:l.length+(0+1)=(l++[n]).length:=by simp
  rw [el];refine hk _ _ (fun q o e=>?_) (fun q o e xC=>?_) (.acc h0 (by rw [aE5];exact aC))
  ·rw [aB (fun c=>by rw [c,h0]at e;cases e)];exact xB q o e
  ·rw [aB (fun c=>by rw [c,h]at e;injection e with e;exact xC _ _ e.symm)];exact(bO.aI hj) _ _ e
 | @own i _ h0 h=>
  have oJ:j≠i:=fun e=>by rw [e,h]at hj;cases hj
  have h':aK S j (.row [nu n] 22) i=some (.row (nY l) 22):=by rw [aB (aO oJ)];exact h
  simp only [h'];refine⟨by omega,by rw [nZ];omega,fun c=>aX c (by omega),fun _ q hq=>?_⟩;have e2:(List.take (l.length*1) (List.drop 0 (nY l)))++[nu n]=nY (l++[n]):=by rw [xG,lQ (by rw [nZ];omega),aE5];rfl
  rw [e2];have el:l.length+(0+1)=(l++[n]).length:=by simp
  rw [el];exact hk _ _ (xB.trans (.aI hq)) (fun q o e _=>(bO.aI hq) _ _ ((bO.aI hj) _ _ e)) (.acc (xB.none hq) aC)
end
set_option maxRecDepth 100000
def wP (x:VE) (m:Nat) (t0 t1 t2 t7 t10 t11:V) (S:Hp) (K:KV):Prop:=dG PP bI xR x [.r,.r,.l,.r,.d] m [] [t0,t1,t2,t7,t10,t11] S K
def Kl (x:VE) (a0 a1 a2:V) (S:Hp) (K:KV):Prop:=
 bH a0 fun v0=>
 wP x x.most a0 a1 a2 (.int .u64 (.ofNat 0)) v0 (.int .i64 (.ofNat 0)) S K
theorem aBN (x:VE) (a0 a1 a2:V) (S:Hp) (K:KV):jI PP bI xR x [a0,a1,a2] S K=Kl x a0 a1 a2 S K:=by kernel_rfl
def BQ (x:VE) (m0:Nat) (t0 t1 t2 t7 t10 t11:V) (S:Hp) (K:KV):Prop:=
 cH S fun S=>
 aH PP .lss 3 t11 t10 fun v0=>
 fS v0 (bH t0 fun v1=>aH PP .sub 3 v1 (.int .i64 (.ofNat 1)) fun v2=>aH PP .sub 3 v2 t11 fun v3=>cF 1 t0 v3 fun v4=>aT v4 S fun v5 S=>x.call nX [t7,t1,t2] S fun v6 S=>aT v4 S fun v7 _=>aZ v7 v5 (x.call CF [v6,v5,t2] S fun v8 S=>aH PP .add 3 t11 (.int .i64 (.ofNat 1)) fun v9=>wP x m0 t0 t1 t2 v8 t10 v9 S K)) (bD t7 S K)
theorem LT (x:VE) (m0:Nat) (t0 t1 t2 t7 t10 t11:V) (S:Hp) (K:KV):wP x (m0+1) t0 t1 t2 t7 t10 t11 S K=BQ x m0 t0 t1 t2 t7 t10 t11 S K:=by kernel_rfl
def Qe (x:VE) (a0:V) (S:Hp) (K:KV):Prop:=
 aH PP .gtr 22 a0 (.int .u64 (.ofNat 0)) fun v0=>
 gK x true v0 a0 S fun v1 S=>gP x true v0 (aH PP .leq 22 v1 (.int .u64 (.ofNat 2305843009213693952))) S fun v3 S=>gQ x v0 v3 (.bool false) fun v4=>bD v4 S K
theorem aDp (x:VE) (a0:V) (S:Hp) (K:KV):jI PP bI Co x [a0] S K=Qe x a0 S K:=by kernel_rfl
def Ql (x:VE) (a0:V) (S:Hp) (K:KV):Prop:=
 cV iC [(0,1,a0)] fun v0=>
 cV [(.int .u64 (.ofNat 0)),(.slice none 0 0),(.int .i64 (.ofNat 0))] [(0,1,v0)] fun v1=>
 iD 140 v1 S fun v2 S=>
 bD v2 S K
theorem aDA (x:VE) (a0:V) (S:Hp) (K:KV):jI PP bI Ct x [a0] S K=Ql x a0 S K:=by kernel_rfl
def oX (x:VE) (m:Nat) (t0 t1:V) (S:Hp) (K:KV):Prop:=dG PP bI dM x [.r,.r,.r,.r,.d] m [] [t0,t1] S K
def GC (x:VE) (a0 a1:V) (S:Hp) (K:KV):Prop:=
 aH PP .eql 30 a0 .Lq fun v0=>
 fS v0 (bD (.int .u64 (.ofNat 0)) S K) (oW PP a0 fun v1=>aP 2 v1 fun v2=>aT v2 S fun v3 S=>aH PP .add 3 v3 (.int .i64 (.ofNat 1)) fun v4=>oW PP a0 fun v5=>aP 2 v5 fun v6=>mL 1 v6 v4 S fun S=>oW PP a0 fun v7=>aP 1 v7 fun v8=>aT v8 S fun v9 S=>bH v9 fun v10=>aH PP .gtr 3 v10 (.int .i64 (.ofNat 0)) fun v11=>fS v11 (oW PP a0 fun v12=>aP 1 v12 fun sO=>aT sO S fun sS S=>cF 1 sS (.int .i64 (.ofNat 0)) fun AM=>aT AM S fun wU S=>oW PP a0 fun rQ=>aP 1 rQ fun yE=>aT yE S fun wZ S=>LU 22 1 wZ (some (.int .i64 (.ofNat 1))) none none S fun v20=>oW PP a0 fun v21=>aP 1 v21 fun MY=>mL 1 MY v20 S fun S=>x.call JY [wU,a1] S fun FI S=>bD FI S K) (oX x x.most a0 a1 S K))
theorem QH (x:VE) (a0 a1:V) (S:Hp) (K:KV):jI PP bI dM x [a0,a1] S K=GC x a0 a1 S K:=by kernel_rfl
def tD (x:VE) (m0:Nat) (t0 t1:V) (S:Hp) (K:KV):Prop:=
 cH S fun S=>
 oW PP t0 fun v0=>
 aP 0 v0 fun v1=>
 x.call DU [v1] S fun v2 S=>
 SO .xor v2 fun v3=>
 x.call HM [t1] S fun v4 S=>
 aH PP .geq 22 v3 v4 fun v5=>
 fS v5 (x.call JY [v2,t1] S fun v6 S=>bD v6 S K) (oX x m0 t0 t1 S K)
theorem CI (x:VE) (m0:Nat) (t0 t1:V) (S:Hp) (K:KV):oX x (m0+1) t0 t1 S K=tD x m0 t0 t1 S K:=by kernel_rfl
def NU (x:VE) (a0:V) (S:Hp) (K:KV):Prop:=
 oW PP a0 fun v0=>
 aP 0 v0 fun v1=>
 aT v1 S fun v2 S=>
 aH PP .add 22 v2 (.int .u64 (.ofNat 11400714819323198485)) fun v3=>
 oW PP a0 fun v4=>
 aP 0 v4 fun v5=>
 mL 1 v5 v3 S fun S=>
 oW PP a0 fun v6=>
 aP 0 v6 fun v7=>
 aT v7 S fun v8 S=>
 aH PP .shr 22 v8 (.int .u64 (.ofNat 30)) fun v9=>
 aH PP .xor 22 v8 v9 fun v10=>
 aH PP .mul 22 v10 (.int .u64 (.ofNat 13787848793156543929)) fun v11=>
 aH PP .shr 22 v11 (.int .u64 (.ofNat 27)) fun v12=>
 aH PP .xor 22 v11 v12 fun sO=>
 aH PP .mul 22 sO (.int .u64 (.ofNat 10723151780598845931)) fun sS=>
 aH PP .shr 22 sS (.int .u64 (.ofNat 31)) fun AM=>
 aH PP .xor 22 sS AM fun wU=>
 bD wU S K
theorem Fj (x:VE) (a0:V) (S:Hp) (K:KV):jI PP bI DU x [a0] S K=NU x a0 S K:=by kernel_rfl
def Fk (x:VE) (a0 a1:V) (S:Hp) (K:KV):Prop:=
 aH PP .eql 22 a1 (.int .u64 (.ofNat 0)) fun v0=>
 fS v0 (bD a0 S K) (aH PP .rem 22 a0 a1 fun v1=>bD v1 S K)
theorem Zo (x:VE) (a0 a1:V) (S:Hp) (K:KV):jI PP bI JY x [a0,a1] S K=Fk x a0 a1 S K:=by kernel_rfl
def oZ (x:VE) (a0:V) (S:Hp) (K:KV):Prop:=
 aH PP .eql 32 a0 .nil fun v0=>
 fS v0 (bD .nil S K) (aS 3 0 IT [] S fun v1 S=>jT 3 1 8 v1 a0 S fun v2 S=>bD v2 S K)
theorem wT (x:VE) (a0:V) (S:Hp) (K:KV):jI PP bI dW x [a0] S K=oZ x a0 S K:=by kernel_rfl
def qM (x:VE) (a0:V) (S:Hp) (K:KV):Prop:=
 aH PP .eql 51 a0 .nil fun v0=>
 fS v0 (bD .nil S K) (aS 22 0 iC [] S fun v1 S=>jT 22 1 8 v1 a0 S fun v2 S=>bD v2 S K)
theorem CQ (x:VE) (a0:V) (S:Hp) (K:KV):jI PP bI cE x [a0] S K=qM x a0 S K:=by kernel_rfl
def sP (x:VE) (a0:V) (S:Hp) (K:KV):Prop:=
 aH PP .eql 39 a0 .nil fun v0=>
 fS v0 (bD .nil S K) (aS 2 0 IT [] S fun v1 S=>jT 2 1 8 v1 a0 S fun v2 S=>bD v2 S K)
theorem FA (x:VE) (a0:V) (S:Hp) (K:KV):jI PP bI fF x [a0] S K=sP x a0 S K:=by kernel_rfl
def fP (x:VE) (m:Nat) (t0 t3:V) (S:Hp) (K:KV):Prop:=dG PP bI cY x [.r,.r,.l,.r,.d] m [] [t0,t3] S K
def dK (x:VE) (m:Nat) (m0:Nat) (t0 t3 t4 t5:V) (S:Hp) (K:KV):Prop:=dG PP bI cY x [.r,.r,.l,.r,.d,.d,.r,.l,.d,.r,.l,.r,.l,.r,.d] m [m0] [t0,t3,t4,t5] S K
def dB (x:VE) (m0:Nat) (m1:Nat) (t0 t3 t4 t5:V) (S:Hp) (K:KV):Prop:=Qv PP bI cY x [.r,.r,.l,.r,.d,.d,.r,.l,.d,.r,.l,.r,.l,.r,.d,.d,.r,.r] [m0,m1] [t0,t3,t4,t5] S K
def uK (x:VE) (a0:V) (S:Hp) (K:KV):Prop:=
 bH a0 fun v0=>
 aH PP .lss 3 v0 (.int .i64 (.ofNat 2)) fun v1=>
 fS v1 (bD a0 S K) (fP x x.most a0 (.int .i64 (.ofNat 1)) S K)
theorem HY (x:VE) (a0:V) (S:Hp) (K:KV):jI PP bI cY x [a0] S K=uK x a0 S K:=by kernel_rfl
def jN (x:VE) (m0:Nat) (t0 t3:V) (S:Hp) (K:KV):Prop:=
 cH S fun S=>
 bH t0 fun v0=>
 aH PP .lss 3 t3 v0 fun v1=>
 fS v1 (cF 1 t0 t3 fun v2=>aT v2 S fun v3 S=>aH PP .sub 3 t3 (.int .i64 (.ofNat 1)) fun v4=>cF 1 t0 v4 fun v5=>aT v5 S fun v6 S=>aH PP .eql 3 v3 v6 fun v7=>fS v7 (LU 3 1 t0 (some t3) none none S fun v8=>dK x x.most m0 t0 t3 v8 (.int .i64 (.ofNat 1)) S K) (aH PP .add 3 t3 (.int .i64 (.ofNat 1)) fun v9=>fP x m0 t0 v9 S K)) (bD t0 S K)
theorem oO (x:VE) (m0:Nat) (t0 t3:V) (S:Hp) (K:KV):fP x (m0+1) t0 t3 S K=jN x m0 t0 t3 S K:=by kernel_rfl
def fC (x:VE) (m1:Nat) (m0:Nat) (t0 t3 t4 t5:V) (S:Hp) (K:KV):Prop:=
 cH S fun S=>
 bH t4 fun v0=>
 aH PP .lss 3 t5 v0 fun v1=>
 fS v1 (cF 1 t4 t5 fun v2=>aT v2 S fun v3 S=>aH PP .sub 3 t5 (.int .i64 (.ofNat 1)) fun v4=>cF 1 t4 v4 fun v5=>aT v5 S fun v6 S=>aH PP .neq 3 v3 v6 fun v7=>fS v7 (cF 1 t4 t5 fun v8=>aT v8 S fun v9 S=>cF 1 t0 t3 fun v10=>mL 1 v10 v9 S fun S=>aH PP .add 3 t3 (.int .i64 (.ofNat 1)) fun v11=>dB x m0 m1 t0 v11 t4 t5 S K) (dB x m0 m1 t0 t3 t4 t5 S K)) (LU 3 1 t0 (some t3) none none S fun v12=>Cw IT v12 S fun S=>LU 3 1 t0 none (some t3) none S fun sO=>bD sO S K)
theorem jX (x:VE) (m1:Nat) (m0:Nat) (t0 t3 t4 t5:V) (S:Hp) (K:KV):dK x (m1+1) m0 t0 t3 t4 t5 S K=fC x m1 m0 t0 t3 t4 t5 S K:=by kernel_rfl
def eL (x:VE) (m0:Nat) (m1:Nat) (t0 t3 t4 t5:V) (S:Hp) (K:KV):Prop:=
 cH S fun S=>
 aH PP .add 3 t5 (.int .i64 (.ofNat 1)) fun v0=>
 dK x m1 m0 t0 t3 t4 v0 S K
theorem qB (x:VE) (m0:Nat) (m1:Nat) (t0 t3 t4 t5:V) (S:Hp) (K:KV):Qw PP bI cY x [.r,.r,.l,.r,.d,.d,.r,.l,.d,.r,.l,.r,.l,.r,.d,.d,.r,.r] [m0,m1] [t0,t3,t4,t5] S K=eL x m0 m1 t0 t3 t4 t5 S K:=by kernel_rfl
theorem qK (x:VE) (hm:x.most≠0) (m0:Nat) (m1:Nat) (t0 t3 t4 t5:V) (S:Hp) (K:KV):dB x m0 m1 t0 t3 t4 t5 S K=eL x m0 m1 t0 t3 t4 t5 S K:=(XS (hm:=hm) ..).trans (qB x m0 m1 t0 t3 t4 t5 S K)
def kL (x:VE) (a0 a1:V) (S:Hp) (K:KV):Prop:=
 x.call mB [a0,a1] S fun v0 S=>
 aH PP .geq 3 v0 (.int .i64 (.ofNat 0)) fun v1=>
 bD v1 S K
theorem pZ (x:VE) (a0 a1:V) (S:Hp) (K:KV):jI PP bI gG x [a0,a1] S K=kL x a0 a1 S K:=by kernel_rfl
def fJ (x:VE) (m:Nat) (t0 t1 t7 t8:V) (S:Hp) (K:KV):Prop:=dG PP bI mB x [.r,.l,.r,.d] m [] [t0,t1,t7,t8] S K
def mA (x:VE) (a0 a1:V) (S:Hp) (K:KV):Prop:=
 bH a0 fun v0=>
 fJ x x.most a0 a1 v0 (.int .i64 (.ofNat 0)) S K
theorem sN (x:VE) (a0 a1:V) (S:Hp) (K:KV):jI PP bI mB x [a0,a1] S K=mA x a0 a1 S K:=by kernel_rfl
def cX (x:VE) (m0:Nat) (t0 t1 t7 t8:V) (S:Hp) (K:KV):Prop:=
 cH S fun S=>
 aH PP .lss 3 t8 t7 fun v0=>
 fS v0 (cF 1 t0 t8 fun v1=>aT v1 S fun v2 S=>lX x t1 [v2] S fun v3 S=>fS v3 (bD t8 S K) (aH PP .add 3 t8 (.int .i64 (.ofNat 1)) fun v4=>fJ x m0 t0 t1 t7 v4 S K)) (bD (.int .i64 (.negSucc 0)) S K)
theorem dN (x:VE) (m0:Nat) (t0 t1 t7 t8:V) (S:Hp) (K:KV):fJ x (m0+1) t0 t1 t7 t8 S K=cX x m0 t0 t1 t7 t8 S K:=by kernel_rfl
def nQ (x:VE) (a0 a1:V) (S:Hp) (K:KV):Prop:=
 x.call kC [a0,a1] S fun v0 S=>
 aH PP .geq 3 v0 (.int .i64 (.ofNat 0)) fun v1=>
 bD v1 S K
theorem xY (x:VE) (a0 a1:V) (S:Hp) (K:KV):jI PP bI iQ x [a0,a1] S K=nQ x a0 a1 S K:=by kernel_rfl
def eJ (x:VE) (m:Nat) (t0 t1 t7 t8:V) (S:Hp) (K:KV):Prop:=dG PP bI kC x [.r,.l,.r,.d] m [] [t0,t1,t7,t8] S K
def pF (x:VE) (a0 a1:V) (S:Hp) (K:KV):Prop:=
 bH a0 fun v0=>
 eJ x x.most a0 a1 v0 (.int .i64 (.ofNat 0)) S K
theorem AL (x:VE) (a0 a1:V) (S:Hp) (K:KV):jI PP bI kC x [a0,a1] S K=pF x a0 a1 S K:=by kernel_rfl
def gN (x:VE) (m0:Nat) (t0 t1 t7 t8:V) (S:Hp) (K:KV):Prop:=
 cH S fun S=>
 aH PP .lss 3 t8 t7 fun v0=>
 fS v0 (cF 1 t0 t8 fun v1=>aT v1 S fun v2 S=>lX x t1 [v2] S fun v3 S=>fS v3 (bD t8 S K) (aH PP .add 3 t8 (.int .i64 (.ofNat 1)) fun v4=>eJ x m0 t0 t1 t7 v4 S K)) (bD (.int .i64 (.negSucc 0)) S K)
theorem lO (x:VE) (m0:Nat) (t0 t1 t7 t8:V) (S:Hp) (K:KV):eJ x (m0+1) t0 t1 t7 t8 S K=gN x m0 t0 t1 t7 t8 S K:=by kernel_rfl
def mN (x:VE) (a0 a1:V) (S:Hp) (K:KV):Prop:=
 x.call jG [a0,a1] S fun v0 S=>
 aH PP .geq 3 v0 (.int .i64 (.ofNat 0)) fun v1=>
 bD v1 S K
theorem wF (x:VE) (a0 a1:V) (S:Hp) (K:KV):jI PP bI iE x [a0,a1] S K=mN x a0 a1 S K:=by kernel_rfl
def dV (x:VE) (m:Nat) (t0 t1 t7 t8:V) (S:Hp) (K:KV):Prop:=dG PP bI jG x [.r,.l,.r,.d] m [] [t0,t1,t7,t8] S K
def oA (x:VE) (a0 a1:V) (S:Hp) (K:KV):Prop:=
 bH a0 fun v0=>
 dV x x.most a0 a1 v0 (.int .i64 (.ofNat 0)) S K
theorem yO (x:VE) (a0 a1:V) (S:Hp) (K:KV):jI PP bI jG x [a0,a1] S K=oA x a0 a1 S K:=by kernel_rfl
def fU (x:VE) (m0:Nat) (t0 t1 t7 t8:V) (S:Hp) (K:KV):Prop:=
 cH S fun S=>
 aH PP .lss 3 t8 t7 fun v0=>
 fS v0 (cF 1 t0 t8 fun v1=>aT v1 S fun v2 S=>lX x t1 [v2] S fun v3 S=>fS v3 (bD t8 S K) (aH PP .add 3 t8 (.int .i64 (.ofNat 1)) fun v4=>dV x m0 t0 t1 t7 v4 S K)) (bD (.int .i64 (.negSucc 0)) S K)
theorem kW (x:VE) (m0:Nat) (t0 t1 t7 t8:V) (S:Hp) (K:KV):dV x (m0+1) t0 t1 t7 t8 S K=fU x m0 t0 t1 t7 t8 S K:=by kernel_rfl
def iP (x:VE) (a0 a1:V) (S:Hp) (K:KV):Prop:=
 x.call eZ [a0,a1] S fun v0 S=>
 aH PP .geq 3 v0 (.int .i64 (.ofNat 0)) fun v1=>
 bD v1 S K
theorem pY (x:VE) (a0 a1:V) (S:Hp) (K:KV):jI PP bI cZ x [a0,a1] S K=iP x a0 a1 S K:=by kernel_rfl
def cT (x:VE) (m:Nat) (t0 t1 t7 t8:V) (S:Hp) (K:KV):Prop:=dG PP bI eZ x [.r,.l,.r,.d] m [] [t0,t1,t7,t8] S K
def jQ (x:VE) (a0 a1:V) (S:Hp) (K:KV):Prop:=
 bH a0 fun v0=>
 cT x x.most a0 a1 v0 (.int .i64 (.ofNat 0)) S K
theorem rR (x:VE) (a0 a1:V) (S:Hp) (K:KV):jI PP bI eZ x [a0,a1] S K=jQ x a0 a1 S K:=by kernel_rfl
def dQ (x:VE) (m0:Nat) (t0 t1 t7 t8:V) (S:Hp) (K:KV):Prop:=
 cH S fun S=>
 aH PP .lss 3 t8 t7 fun v0=>
 fS v0 (cF 1 t0 t8 fun v1=>aT v1 S fun v2 S=>lX x t1 [v2] S fun v3 S=>fS v3 (bD t8 S K) (aH PP .add 3 t8 (.int .i64 (.ofNat 1)) fun v4=>cT x m0 t0 t1 t7 v4 S K)) (bD (.int .i64 (.negSucc 0)) S K)
theorem gZ (x:VE) (m0:Nat) (t0 t1 t7 t8:V) (S:Hp) (K:KV):cT x (m0+1) t0 t1 t7 t8 S K=dQ x m0 t0 t1 t7 t8 S K:=by kernel_rfl
def kD (x:VE) (a0 a1:V) (S:Hp) (K:KV):Prop:=
 x.call fV [a0,a1] S fun v0 S=>
 aH PP .geq 3 v0 (.int .i64 (.ofNat 0)) fun v1=>
 bD v1 S K
theorem sD (x:VE) (a0 a1:V) (S:Hp) (K:KV):jI PP bI fD x [a0,a1] S K=kD x a0 a1 S K:=by kernel_rfl
def dC (x:VE) (m:Nat) (t0 t1 t7 t8:V) (S:Hp) (K:KV):Prop:=dG PP bI fV x [.r,.l,.r,.d] m [] [t0,t1,t7,t8] S K
def kX (x:VE) (a0 a1:V) (S:Hp) (K:KV):Prop:=
 bH a0 fun v0=>
 dC x x.most a0 a1 v0 (.int .i64 (.ofNat 0)) S K
theorem uA (x:VE) (a0 a1:V) (S:Hp) (K:KV):jI PP bI fV x [a0,a1] S K=kX x a0 a1 S K:=by kernel_rfl
def eQ (x:VE) (m0:Nat) (t0 t1 t7 t8:V) (S:Hp) (K:KV):Prop:=
 cH S fun S=>
 aH PP .lss 3 t8 t7 fun v0=>
 fS v0 (cF 2 t0 t8 fun v1=>bN 2 v1 S fun v2 S=>lX x t1 [v2] S fun v3 S=>fS v3 (bD t8 S K) (aH PP .add 3 t8 (.int .i64 (.ofNat 1)) fun v4=>dC x m0 t0 t1 t7 v4 S K)) (bD (.int .i64 (.negSucc 0)) S K)
theorem iX (x:VE) (m0:Nat) (t0 t1 t7 t8:V) (S:Hp) (K:KV):dC x (m0+1) t0 t1 t7 t8 S K=eQ x m0 t0 t1 t7 t8 S K:=by kernel_rfl
def eW (x:VE) (m:Nat) (t0 t1 t12 t13:V) (S:Hp) (K:KV):Prop:=dG PP bI eU x [.r,.r,.l,.r,.d] m [] [t0,t1,t12,t13] S K
def qO (x:VE) (a0 a1:V) (S:Hp) (K:KV):Prop:=
 bH a0 fun v0=>
 bH a1 fun v1=>
 aH PP .neq 3 v0 v1 fun v2=>
 fS v2 (bD (.bool false) S K) (bH a0 fun v3=>eW x x.most a0 a1 v3 (.int .i64 (.ofNat 0)) S K)
theorem CR (x:VE) (a0 a1:V) (S:Hp) (K:KV):jI PP bI eU x [a0,a1] S K=qO x a0 a1 S K:=by kernel_rfl
def iF (x:VE) (m0:Nat) (t0 t1 t12 t13:V) (S:Hp) (K:KV):Prop:=
 cH S fun S=>
 aH PP .lss 3 t13 t12 fun v0=>
 fS v0 (cF 1 t0 t13 fun v1=>aT v1 S fun v2 S=>cF 1 t1 t13 fun v3=>aT v3 S fun v4 S=>aH PP .neq 22 v2 v4 fun v5=>fS v5 (bD (.bool false) S K) (aH PP .add 3 t13 (.int .i64 (.ofNat 1)) fun v6=>eW x m0 t0 t1 t12 v6 S K)) (bD (.bool true) S K)
theorem mO (x:VE) (m0:Nat) (t0 t1 t12 t13:V) (S:Hp) (K:KV):eW x (m0+1) t0 t1 t12 t13 S K=iF x m0 t0 t1 t12 t13 S K:=by kernel_rfl
end Go.Am
set_option maxRecDepth 4000
namespace Go.Am
open Go.Proofs.NQ
section
variable{k:V->Prop}{a b:Nat}{t:TypeId}
theorem aN:aH PP .lss t (ni a) (ni b) k=k (.bool (decide (a<b))):=by rw [rC];congr 2;simp
theorem LR:aH PP .gtr t (ni a) (ni b) k=k (.bool (decide (b<a))):=by rw [QF];congr 2;simp
theorem zE:aH PP .geq t (ni a) (ni b) k=k (.bool (decide (b<=a))):=by rw [CH];congr 2;simp
theorem uV:aH PP .eql t (ni a) (ni b) k=k (.bool (decide (a=b))):=by rw [KI];congr 2;simp;omega
theorem lV:aH PP .neq t (ni a) (ni b) k=k (.bool (!decide (a=b))):=by rw [KJ];congr 3;simp;omega
theorem bE (h:a+b<4611686018427387904):aH PP .add t (ni a) (ni b) k=k (ni (a+b)):=by
 rw [KK]
 congr 2
 rw [wrap_small (by simp only [VI];omega) (by simp only [VI];omega)];simp
theorem Zk (h:b<=a) (h2:a<4611686018427387904):aH PP .sub t (ni a) (ni b) k=k (ni (a-b)):=by
 rw [Ir]
 congr 2
 rw [wrap_small (by simp only [VI];omega) (by simp only [VI];omega)];simp only [VI];omega
theorem Cn (h:a*b<4611686018427387904):aH PP .mul t (ni a) (ni b) k=k (ni (a*b)):=by
 rw [Vy]
 congr 2
 have e:Int.ofNat a*Int.ofNat b=((a*b:Nat):Int):=by simp
 rw [e,wrap_small (by omega) (by omega)];rfl
theorem aQw (h:True):aH PP .gtr t (nu a) (nu b) k=k (.bool (decide (b<a))):=by rw [QF];congr 2;simp
theorem aFb:aH PP .leq t (nu a) (nu b) k=k (.bool (decide (a<=b))):=by rw [KL];congr 2;simp
theorem aFc:aH PP .neq t (nu a) (nu b) k=k (.bool (!decide (a=b))):=by rw [KJ];congr 3;simp;omega
theorem aNi:aH PP .eql t (nu a) (nu b) k=k (.bool (decide (a=b))):=by rw [KI];congr 2;simp;omega
theorem Ai (h:b≠0):aH PP .rem t (nu a) (nu b) k=k (nu (a%b)):=by
 rw [aGK (by simp only [VI];omega)]
 congr 2
theorem wX{a b:Nat} (h:a<b):decide (a<b)=true:=bF h
theorem iN{a b:Nat} (h:¬a<b):decide (a<b)=false:=bJ h
theorem bQ{p q:Prop}:fS (.bool true) p q=p:=rfl
theorem aW{p q:Prop}:fS (.bool false) p q=q:=rfl
theorem dJ{a b:V}{k:V->Prop}:Vz (.bool true) a b k=k a:=rfl
theorem eI{a b:V}{k:V->Prop}:Vz (.bool false) a b k=k b:=rfl
theorem Iq{n:Nat} (h:n<18446744073709551616){k:V->Prop}:LS .u64 (ni n) k=k (nu n):=by
 show k (.int .u64 (sH .u64 (.ofNat n)))=_;rw [show sH .u64 (.ofNat n)= .ofNat n from by show(match Nat.blt n 18446744073709551616 with | true=>_ | false=>_)=_;rw [Vx h]]
end
section
variable{M n a b m:Nat}{x:VE}{S:Hp}{K:KV}
abbrev EY (n:Nat):Prop:=n<18446744073709551616
def bq (m:Nat):Prop:=0<m/\m<=4294967296
theorem qQ:bq 11:=⟨by decide,by decide⟩
theorem qP:bq 23:=⟨by decide,by decide⟩
theorem Zl{a m:Nat} (h:bq m):EY (a%m):=CX (iY _ h.1) (zA h.2 (by decide))
theorem QG (hx:Deep PP bI gM M (n+1) x) (ha:EY a) (hb:EY b) (hm:bq m) (hK:K (nu (a*b%m)) S):x.call nX [nu a,nu b,nu m] S K:=hx.IQ (g:=gM3 fun a b m=>a*b%m) rfl ⟨a,b,m,rfl,ha,hb,hm.1,hm.2,hK⟩
theorem aIO (hx:Deep PP bI gM M (n+1) x) (ha:EY a) (hb:EY b) (hm:bq m) (hK:K (nu ((a%m+b%m)%m)) S):x.call CF [nu a,nu b,nu m] S K:=hx.IQ (g:=gM3 fun a b m=>(a%m+b%m)%m) rfl ⟨a,b,m,rfl,ha,hb,hm.1,hm.2,hK⟩
theorem aBM (hx:Deep PP bI gM M (n+1) x) (ha:EY a) (hb:EY b) (hm:bq m) (hK:K (nu (iB a b m)) S):x.call yH [nu a,nu b,nu m] S K:=hx.IQ (g:=gM3 iB) rfl ⟨a,b,m,rfl,ha,hb,hm.1,hm.2,hK⟩
theorem aQx (hx:Deep PP bI gM M (n+1) x) (ha:EY a) (hb:EY b) (hm:bq m) (hK:K (nu (ZL 64 (1%m) a b m)) S):x.call QD [nu a,nu b,nu m] S K:=hx.IQ (g:=gM3 fun a e m=>ZL 64 (1%m) a e m) rfl ⟨a,b,m,rfl,ha,hb,hm.1,hm.2,hK⟩
theorem aFd (hx:Deep PP bI gM M (n+1) x){two:Bool} (hK:K (.bool true) S):x.call uG [.agg (pv two)] S K:=hx.IQ (g:=aE1) rfl ⟨two,rfl,hK⟩
theorem aIP (hx:Deep PP bI gM M (n+1) x) (hK:K (nu 5) S):x.call HM [nu 11] S K:=hx.IQ (g:=Zf) rfl ⟨rfl,hK⟩
theorem aIQ (hx:Deep PP bI gM M (n+1) x) (ha:EY a) (hm:bq m) (hi:(CO (a%m+1) m (a%m) 0 (1%m) m).1=1) (hK:K (.tuple [nu (CO (a%m+1) m (a%m) 0 (1%m) m).2,ni 0]) S):x.call yI [nu a,nu m] S K:=
 hx.IQ (g:=aE0) rfl ⟨a,m,rfl,ha,hm.1,hm.2,by rw [aJ hi];exact hK⟩
end
def ev (q:Nat) (l:List Nat) (X:Nat):Nat:=l.foldr (fun c out=>(out*X%q%q+c%q)%q) 0
def LP (l:List Nat):Prop:=∀c∈l,EY c
theorem aFe (q:Nat) (h:bq q) (l:List Nat) (X:Nat):EY (ev q l X):=by
 cases l with
 | nil=>show 0<18446744073709551616;decide
 | cons a l=>exact Zl h
section
variable{M n:Nat}{x:VE}{S:Hp}{K:KV}{v:V}{l:List Nat}{q X:Nat}
theorem aLT (hx:Deep PP bI gM M (n+1) x) (h:NV S v l) (hl:l.length<1000000) (UX:LP l) (hX:EY X) (hq:bq q) (hK:K (nu (ev q l X)) S):
 ∀(r i m:Nat),i+r=l.length->r<m->wP x m v (nu X) (nu q) (nu (ev q (l.drop (l.length-i)) X)) (ni l.length) (ni i) S K:=by
 intro r;induction r with
 | zero=>
  intro i m hi hm;obtain⟨m,rfl⟩:=bG (show m≠0 by omega);rw [LT];unfold BQ;refine aE ?_;rw [aN,iN (by omega),aW];have e:l.length-i=0:=by omega
  rw [e,xG];exact aL hK
 | succ r ih=>
  intro i m hi hm;obtain⟨m,rfl⟩:=bG (show m≠0 by omega);rw [LT];unfold BQ;refine aE ?_;have hlt:l.length-1-i<l.length:=by omega
  obtain⟨p,hp,RD⟩:=h.at (i:=l.length-1-i) (aQ hlt);have RD:=fun K=>RD S (.refl S) K;rw [aN,wX (by omega),bQ,h.len,Zk (by omega) (by omega),Zk (by omega) (by omega),hp,RD];refine QG hx (aFe q hq _ X) hX hq ?_;rw [RD,cS];refine aIO hx (Zl hq) (UX _ (cK hlt)) hq ?_;rw [bE (by omega)];have:=ih (i+1) m (by omega) (by omega)
  have e:l.drop (l.length-(i+1))=l[l.length-1-i]::l.drop (l.length-i):=by
   have e1:l.length-(i+1)=l.length-1-i:=by omega
   have e2:l.length-i=l.length-1-i+1:=by omega
   rw [e1,e2];exact lP hlt
  rw [e]at this;exact this
theorem Zi (hM:1000000<M) (hx:Deep PP bI gM M (n+2) x) (h:NV S v l) (hl:l.length<1000000) (UX:LP l) (hX:EY X) (hq:bq q) (hK:K (nu (ev q l X)) S):x.call xR [v,nu X,nu q] S K:=by
 refine hx.call rfl fun y hy=>?_;rw [aBN];unfold Kl;rw [h.len,hy.most];have:=aLT hy h hl UX hX hq hK l.length 0 M (by omega) (by omega);rw [Nat.sub_zero,List.drop_length]at this;exact this
theorem aOD (hx:Deep PP bI gM M (n+1) x) (hq:bq q) (hK:K (.bool true) S):x.call Co [nu q] S K:=by
 refine hx.call rfl fun y hy=>?_;rw [aDp];unfold Qe gP gK gQ;have h1:decide (0<q)=true:=bF hq.1;have h2:decide (q<=2305843009213693952)=true:=bF (zA hq.2 (by decide));rw [aQw trivial,h1];simp only [aF,aM,dJ];rw [aFb,h2];exact aL hK
end
theorem aFf (l:List Nat) (i n:Nat):(nY l).set i (nu n)=nY (l.set i n):=by unfold nY;rw [List.map_set]
end Go.Am
set_option maxRecDepth 4000
namespace Go.Am
open Go.Mq
abbrev vb (b:BitVec 64):V:=nu b.toNat
theorem wrap64 (m:Nat):sH .u64 (.ofNat m)= .ofNat (m%18446744073709551616):=by
 rw [KW];show IntKind.u64.wrap (.ofNat m)=_;unfold IntKind.wrap;simp [IntKind.bits,IntKind.signed]
theorem aNj (b:BitVec 64):IntKind.u64.wrap (b.toNat:Int)= .ofNat b.toNat:=by
 rw [<-KW];have:=wrap64 b.toNat;rw [VJ b.isLt]at this;exact this
section
variable{k:V->Prop}{t:TypeId}{b c:BitVec 64}
theorem aQy:aH PP .add t (vb b) (vb c) k=k (vb (b+c)):=by
 rw [KK]
 congr 2
 have e:Int.ofNat b.toNat+Int.ofNat c.toNat= .ofNat (b.toNat+c.toNat):=rfl;rw [e,wrap64,BitVec.toNat_add]
theorem aNk:aH PP .mul t (vb b) (vb c) k=k (vb (b*c)):=by
 rw [Vy]
 congr 2
 have e:Int.ofNat b.toNat*Int.ofNat c.toNat= .ofNat (b.toNat*c.toNat):=rfl;rw [e,wrap64,BitVec.toNat_mul]
theorem aDq (b:BitVec 64):BitVec.ofInt IntKind.u64.bits (Int.ofNat b.toNat)=b:=by
 show BitVec.ofInt 64 ((b.toNat:Nat):Int)=b;rw [BitVec.ofInt_natCast];simp
theorem aIR:aH PP .xor t (vb b) (vb c) k=k (vb (b ^^^ c)):=by
 have e0:aH PP .xor t (vb b) (vb c) k=k (.int .u64 (IntKind.u64.wrap (BitVec.ofInt IntKind.u64.bits (Int.ofNat b.toNat) ^^^ BitVec.ofInt IntKind.u64.bits (Int.ofNat c.toNat)).toNat)):=by simp [aH,yJ,TU]
 rw [e0,aDq,aDq];have:=aNj (b ^^^ c);exact iZ (fun z=>k (.int .u64 z)) this
theorem aIS{n:Nat} (h:n<64):aH PP .shr t (vb b) (nu n) k=k (vb (b >>> n)):=by
 show((0:Int)<=Int.ofNat n/\k (.int .u64 (Int.fdiv (Int.ofNat b.toNat) (2 ^ (min (Int.ofNat n).toNat IntKind.u64.bits)))))=_;have e1:min (Int.ofNat n).toNat IntKind.u64.bits=n:=by show min n 64=n;omega
 rw [e1]
 have e2:Int.fdiv (Int.ofNat b.toNat) (2 ^ n)= .ofNat (b >>> n).toNat:=by
  rw [BitVec.toNat_ushiftRight,Nat.shiftRight_eq_div_pow];have:(2:Int) ^ n=((2 ^ n:Nat):Int):=by simp
  rw [this];exact(Int.ofNat_fdiv _ _).symm
 rw [e2];exact propext ⟨fun h=>h.2,fun h=>⟨Int.natCast_nonneg n,h⟩⟩
theorem aNl:SO .xor (vb b) k=k (vb (~~~ b)):=by
 show k (.int .u64 (IntKind.u64.wrap (BitVec.ofInt IntKind.u64.bits (if IntKind.u64.signed then-1 else IntKind.u64.max) ^^^ BitVec.ofInt IntKind.u64.bits (Int.ofNat b.toNat)).toNat))=_;rw [aDq];have e:BitVec.ofInt IntKind.u64.bits (if IntKind.u64.signed then-1 else IntKind.u64.max)=BitVec.allOnes 64:=by show(BitVec.ofInt 64 (if IntKind.u64.signed then-1 else IntKind.u64.max):BitVec 64)=_;decide
 rw [e];show k (.int .u64 (IntKind.u64.wrap ((BitVec.allOnes 64 ^^^ b:BitVec 64).toNat:Int)))=_;rw [BitVec.allOnes_xor];exact iZ (fun z=>k (.int .u64 z)) (aNj (~~~ b))
theorem aIT{a b:Nat}:aH PP .geq t (nu a) (nu b) k=k (.bool (decide (b<=a))):=by rw [CH];congr 2;simp
end
def TV (s:BitVec 64):Nat×BitVec 64:=if 5<=(~~~ XB (s+RF)).toNat then((XB (s+RF)).toNat%11,s+RF)else((XB (s+RF+RF)).toNat%11,s+RF+RF)
theorem aLU{s:BitVec 64} (h:¬5<=(~~~ XB s).toNat):aBJ (XB s):=by
 unfold aBJ;rw [BitVec.toNat_not]at h;have:=(XB s).isLt;omega
theorem aQz{s:BitVec 64} (h:¬5<=(~~~ XB s).toNat):5<=(~~~ XB (s+RF)).toNat:=by
 have:=once s (aLU h);unfold aBJ at this;rw [BitVec.toNat_not];have:=(XB (s+RF)).isLt;omega
inductive Ah (S:Hp):V->List Nat->Prop
 | nil:Ah S .nil []
 | emp {i n:Nat}:Ah S (.emp i n) []
 | aDr {i o:Nat}:Ah S (.own i o 0 0) []
 | acc {i:Nat} {l:List Nat} (h:S i=some (.fW (nY l) 22 l.length)) (h0:0<l.length):Ah S (.acc i l.length) l
 | ID {i m o:Nat} {vs:List V} {l:List Nat} (h:S i=some (.fW vs 22 m)) (h0:0<l.length) (hv:∀j n,l[j]? =some n->vs[o+j]? =some (nu n)):Ah S (.ID i m o l.length l.length) l
theorem Ah.up{S S':Hp}{v:V}{l:List Nat} (h:Ah S v l) (hle:bO S S'):Ah S' v l:=by
 cases h with
 | nil=>exact .nil
 | emp=>exact .emp
 | aDr=>exact .aDr
 | acc h h0=>exact .acc (hle _ _ h) h0
 | ID h h0 hv=>exact .ID (hle _ _ h) h0 hv
theorem Ah.len{S:Hp}{v:V}{l:List Nat} (h:Ah S v l){K:V->Prop}:bH v K=K (ni l.length):=by cases h<;>rfl
theorem Ah.one{S:Hp}{v:V}{l:List Nat} (h:Ah S v l):fR v=true:=by cases h<;>rfl
theorem Ah.set{S:Hp}{v w:V}{l:List Nat}{t d:Nat}{b c:V} (h:Ah S v l) (ht:S t=some (.row [b,w,c] d)){o:Ob}:Ah (aK S t o) v l:=by
 have ne:∀{i:Nat} {vs:List V} {q n:Nat},S i=some (.fW vs q n)->i≠t:=fun h c=>by rw [c,ht]at h;cases h
 cases h with
 | nil=>exact .nil
 | emp=>exact .emp
 | aDr=>exact .aDr
 | acc h h0=>exact .acc (by rw [aB (ne h)];exact h) h0
 | ID h h0 hv=>exact .ID (by rw [aB (ne h)];exact h) h0 hv
theorem Ah.head{S:Hp}{v:V}{a:Nat}{l:List Nat} (h:Ah S v (a::l)):(∃p,(∀(K:V->Prop),cF 1 v (ni 0) K=K p)/\∀K:KV,aT p S K=K (nu a) S)/\∃w,(∀{k:V->Prop},k w->LU 22 1 v (some (ni 1)) none none S k)/\∀{S'},bO S S'->Ah S' w l:=by
 generalize hm:a::l=m at h;cases h with
 | nil=>cases hm
 | emp=>cases hm
 | aDr=>cases hm
 | @acc i _ h h0=>
  subst hm;refine⟨⟨.vY i (a::l).length (0*1),fun K=>LM (by simp),fun K=>?_⟩,?_⟩
  ·unfold aT;simp only [h,true_and];rfl
  ·cases l with
   | nil=>exact⟨.emp i 1,fun hk=>aIU (n:=1) h hk,fun _=> .emp⟩
   | cons b l=>
    refine⟨.ID i (a::b::l).length (1*1) ((a::b::l).length-1) ((a::b::l).length-1),fun hk=>Zm h (by simp) hk,fun hle=>?_⟩
    exact .ID (l:=b::l) (hle _ _ h) (by simp) fun j n hj=>by
     rw [Nat.add_comm];exact IP (l:=a::b::l) (i:=j+1) hj
 | @ID i q o vs _ h h0 hv=>
  subst hm;refine⟨⟨.vY i q (o+0*1),fun K=>by simp [cF],fun K=>?_⟩,?_⟩
  ·unfold aT
   simp only [h,true_and];rw [Bq,cI (hv 0 a rfl)]
  ·cases l with
   | nil=>
    refine⟨.emp i q,fun {k} hk=>?_,fun _=> .emp⟩;unfold LU;simp only [h,true_and];unfold LV Is;simp only [oU,List.length_nil];refine⟨by omega,by omega,by omega,fun c=>aX c (by omega),fun _=>hk⟩
   | cons b l=>
    refine⟨.ID i q (o+1*1) (b::l).length (b::l).length,fun {k} hk=>?_,fun hle=> .ID (l:=b::l) (hle _ _ h) (by simp) fun j n hj=>?_⟩
    ·unfold LU
     simp only [h,true_and];unfold LV Is;simp only [oU];refine⟨by omega,by omega,by omega,fun _=>?_,fun c=>aX c (by omega)⟩;exact hk
    ·have:=hv (j+1) n hj
     rw [jL,uO,Nat.add_comm 1 j];exact this
set_option maxRecDepth 4000
section
variable{S:Hp}{i o:Nat}{vs:List V}{t:TypeId}{v:V}
theorem cQ (h:S i=some (.row vs t)) (hv:vs[o]? =some v){K:KV}:aT (.ptr i o) S K=K v S:=by unfold aT;simp only [h,cI hv]
theorem DT (h:S i=some (.row vs t)) (ho:o<vs.length) (h1:fR v=true){k:Hp->Prop}:mL 1 (.ptr i o) v S k=k (aK S i (.row (vs.set o v) t)):=by
 apply propext;constructor
 ·intro hv
  unfold mL at hv;simp only [h]at hv;have:∀{p:List V->Prop},vZ v p=p [v]:=fun {p}=>by cases v<;>first | rfl | cases h1
  rw [this]at hv;rw [<-GB ho];exact hv.2.2
 ·intro hk;exact NT h h1 ho (by rw [GB ho];exact hk)
end
def Tape (S:Hp) (t:Nat) (s:BitVec 64) (ah:List Nat) (d:Nat):Prop:=∃w,S t=some (.row [vb s,w,ni d] 140)/\Ah S w ah
def Cp (S S':Hp) (t:Nat):Prop:=∀i,i≠t->S' i=S i
theorem Cp.trans{a b c:Hp}{t:Nat} (h:Cp a b t) (k:Cp b c t):Cp a c t:=fun i hi=>by rw [k i hi,h i hi]
section
variable{M n t d:Nat}{x:VE}{S:Hp}{K:KV}{s:BitVec 64}{w:V}{a:Nat}{ah:List Nat}
theorem aBO (hx:Deep PP bI gM M (n+1) x) (h:S t=some (.row [vb s,w,ni d] 140)) (hK:K (vb (XB (s+RF))) (aK S t (.row [vb (s+RF),w,ni d] 140))):x.call DU [.ptr t 0] S K:=by
 refine hx.call rfl fun y hy=>?_;rw [Fj];unfold NU;have e1:(.int .u64 (.ofNat 11400714819323198485):V)=vb RF:=rfl;have e2:(.int .u64 (.ofNat 13787848793156543929):V)=vb m1:=rfl;have e3:(.int .u64 (.ofNat 10723151780598845931):V)=vb m2:=rfl;have h2:aK S t (.row [vb (s+RF),w,ni d] 140) t=some (.row [vb (s+RF),w,ni d] 140):=aC;rw [dA,aU,cQ h rfl,e1,aQy,dA,aU,DT h (by simp) rfl];show oW PP (.ptr t 0) (fun v6=>aP 0 v6 fun v7=>aT v7 (aK S t (.row [vb (s+RF),w,ni d] 140)) _);rw [dA,aU,cQ h2 rfl,aIS (by decide),aIR,e2,aNk,aIS (by decide),aIR,e3,aNk,aIS (by decide),aIR];exact aL hK
theorem Zn (hx:Deep PP bI gM M (n+1) x) (hK:K (nu (a%11)) S):x.call JY [nu a,nu 11] S K:=by
 refine hx.call rfl fun y hy=>?_;rw [Zo];unfold Fk;rw [aNi,bJ (by decide),aW,Ai (by decide)];exact aL hK
theorem aNm:Fl PP 30=some .ptr:=by kernel_rfl
theorem aLV (hx:Deep PP bI gM M (n+1) x) (h:S t=some (.row [vb s,w,ni d] 140)) (hw:Ah S w []) (hK:∀S',Cp S S' t->Tape S' t (TV s).2 [] d->K (nu (TV s).1) S'){m:Nat}:oX x (m+2) (.ptr t 0) (nu 11) S K:=by
 rw [CI];unfold tD;refine aE ?_;rw [dA,aU];refine aBO hx h ?_;rw [aNl];refine aIP hx ?_;have h1:aK S t (.row [vb (s+RF),w,ni d] 140) t=some (.row [vb (s+RF),w,ni d] 140):=aC;rw [aIT];by_cases c:5<=(~~~ XB (s+RF)).toNat
 ·rw [bF c,bQ]
  refine Zn hx ?_;have e:TV s=((XB (s+RF)).toNat%11,s+RF):=by unfold TV;rw [aJ c]
  rw [e]at hK;exact aL (hK _ (fun i hi=>aB hi) ⟨w,h1,hw.set h⟩)
 ·rw [bJ c,aW,CI]
  unfold tD;refine aE ?_;rw [dA,aU];refine aBO hx h1 ?_;rw [aNl];refine aIP hx ?_;rw [aIT,bF (aQz c),bQ];refine Zn hx ?_;have e:TV s=((XB (s+RF+RF)).toNat%11,s+RF+RF):=by unfold TV;rw [aG c]
  rw [e]at hK;exact aL (hK _ (fun i hi=>by rw [dU,aB hi]) ⟨w,by rw [dU];exact aC,by rw [dU];exact hw.set h⟩)
theorem aOE (hM:2<M) (hx:Deep PP bI gM M (n+2) x) (h:Tape S t s [] d) (hd:d<1000000) (hK:∀S',Cp S S' t->Tape S' t (TV s).2 [] (d+1)->K (nu (TV s).1) S'):x.call dM [.ptr t 0,nu 11] S K:=by
 obtain⟨w,h,hw⟩:=h;refine hx.call rfl fun y hy=>?_;rw [QH];unfold GC;refine aFg aNm ?_;have h1:aK S t (.row [vb s,w,ni (d+1)] 140) t=some (.row [vb s,w,ni (d+1)] 140):=aC;have hw1:Ah (aK S t (.row [vb s,w,ni (d+1)] 140)) w []:=hw.set h;rw [aW,dA,aU,cQ h rfl,bE (by omega),dA,aU,DT h (by simp) rfl];show oW PP (.ptr t 0) (fun v7=>aP 1 v7 fun v8=>aT v8 (aK S t (.row [vb s,w,ni (d+1)] 140)) _);rw [dA,aU,cQ h1 rfl,hw1.len,LR,bJ (by simp),aW,hy.most];obtain⟨m,rfl⟩:∃m,M=m+2:=⟨M-2,by omega⟩;exact aLV hy h1 hw1 fun S' b tp=>hK S' ((show Cp S (aK S t (.row [vb s,w,ni (d+1)] 140)) t from fun i hi=>aB hi).trans b) tp
end
def drawn:Nat->List Nat->BitVec 64->List Nat
 | 0,_,_=>[]
 | k+1,a::ah,s=>a%11::drawn k ah s
 | k+1,[],s=>(TV s).1::drawn k [] (TV s).2
theorem vV:∀(k:Nat) (ah:List Nat) (s:BitVec 64),(drawn k ah s).length=k:=by
 intro k;induction k with
 | zero=>intro ah s;rfl
 | succ k ih=>intro ah s;cases ah<;>simp [drawn,ih]
theorem QI:∀(k:Nat) (ah:List Nat) (s:BitVec 64),∀c∈drawn k ah s,c<11:=by
 intro k;induction k with
 | zero=>intro ah s c hc;cases hc
 | succ k ih=>
  intro ah s c hc;cases ah with
  | nil=>
   rcases List.mem_cons.1 hc with rfl | hc
   ·show(TV s).1<11
    unfold TV;split<;>exact iY _ (by decide)
   ·exact ih _ _ c hc
  | cons a ah=>
   rcases List.mem_cons.1 hc with rfl | hc
   ·exact iY _ (by decide)
   ·exact ih _ _ c hc
section
variable{M n t d:Nat}{x:VE}{S:Hp}{K:KV}{s:BitVec 64}{ah:List Nat}
end
set_option maxRecDepth 4000
section
variable{M n t d:Nat}{x:VE}{S:Hp}{K:KV}
theorem aQA{sd:Nat} (h:EY sd):vb (BitVec.ofNat 64 sd)=nu sd:=by
 show nu (BitVec.ofNat 64 sd).toNat=nu sd;rw [BitVec.toNat_ofNat,VJ h]
end
end Go.Am
set_option maxRecDepth 100000
namespace Go.Am
def rP (x:VE) (m:Nat) (t3 t9 t10 t11 t29 t30 t31:V) (S:Hp) (K:KV):Prop:=dG PP bI yN x [.r,.r,.r,.r,.l,.r,.d] m [] [t3,t9,t10,t11,t29,t30,t31] S K
def gF (x:VE) (m:Nat) (t3 t10 t11 t14 t63 t64:V) (S:Hp) (K:KV):Prop:=dG PP bI yN x [.r,.r,.r,.r,.r,.r,.l,.r,.d] m [] [t3,t10,t11,t14,t63,t64] S K
def jD (x:VE) (m:Nat) (m0:Nat) (t3 t10 t11 t14 t15 t63 t64 t68 t69:V) (S:Hp) (K:KV):Prop:=dG PP bI yN x [.r,.r,.r,.r,.r,.r,.l,.r,.d,.d,.r,.r,.l,.d,.r,.r,.d] m [m0] [t3,t10,t11,t14,t15,t63,t64,t68,t69] S K
def Gu (x:VE) (a0 a1 a2:V) (S:Hp) (K:KV):Prop:=
 iD 29 a0 S fun v0 S=>
 bN 12 v0 S fun v1 S=>
 x.call uG [v1] S fun v2 S=>
 SO .not v2 fun v3=>
 gK x false v3 a1 S fun v4 S=>gP x false v3 (bH v4) S fun v6 S=>gL x false v3 (bN 12 v0 S) S fun v8 S=>gL x false v3 (x.call DZ [v8] S) S fun v10 S=>gP x false v3 (aH PP .neq 3 v6 v10) S fun v12 S=>gQ x v3 (.bool true) v12 fun sO=>fS sO (bD (.tuple [.nil,.nil,(.int .i64 (.ofNat 1))]) S K) (bH a1 fun sS=>rP x x.most v0 (.func dM [a2] []) .nil .nil a1 sS (.int .i64 (.ofNat 0)) S K)
theorem aAv (x:VE) (a0 a1 a2:V) (S:Hp) (K:KV):jI PP bI yN x [a0,a1,a2] S K=Gu x a0 a1 a2 S K:=by kernel_rfl
def wE (x:VE) (m0:Nat) (t3 t9 t10 t11 t29 t30 t31:V) (S:Hp) (K:KV):Prop:=
 cH S fun S=>
 aH PP .lss 3 t31 t30 fun v0=>
 fS v0 (cF 1 t29 t31 fun v1=>aT v1 S fun v2 S=>aP 6 t3 fun v3=>aT v3 S fun v4 S=>aP 1 t3 fun v5=>aT v5 S fun v6 S=>x.call vW [v2,v4,v6,t9] S fun v7 S=>aS 51 1 cU [(0,1,v7)] S fun v8 S=>jT 51 1 24 t10 v8 S fun v9 S=>aP 1 t3 fun v10=>aT v10 S fun v11 S=>aP 6 t3 fun v12=>aT v12 S fun sO S=>aP 1 t3 fun sS=>aT sS S fun AM S=>lX x t9 [v11] S fun wU S=>aT sS S fun rQ _=>aZ rQ AM (aT v12 S fun yE _=>aZ yE sO (x.call vW [wU,sO,AM,t9] S fun wZ S=>(aS 51 1 cU [(0,1,wZ)] S fun v20 S=>True)/\(aS 51 1 cU [(0,1,wZ)] S fun v21 S=>jT 51 1 24 t11 v21 S fun MY S=>aH PP .add 3 t31 (.int .i64 (.ofNat 1)) fun FI=>rP x m0 t3 t9 v9 MY t29 t30 FI S K)))) (aP 5 t3 fun v24=>aT v24 S fun TE S=>vMk 82 24 cU TE TE S fun ZS S=>bH ZS fun Cs=>gF x x.most t3 t10 t11 ZS Cs (.int .i64 (.ofNat 0)) S K)
theorem FH (x:VE) (m0:Nat) (t3 t9 t10 t11 t29 t30 t31:V) (S:Hp) (K:KV):rP x (m0+1) t3 t9 t10 t11 t29 t30 t31 S K=wE x m0 t3 t9 t10 t11 t29 t30 t31 S K:=by kernel_rfl
def tB (x:VE) (m0:Nat) (t3 t10 t11 t14 t63 t64:V) (S:Hp) (K:KV):Prop:=
 cH S fun S=>
 aH PP .lss 3 t64 t63 fun v0=>
 fS v0 (bH t10 fun v1=>jD x x.most m0 t3 t10 t11 t14 t64 t63 t64 v1 (.int .i64 (.ofNat 0)) S K) (bN 12 t3 S fun v2 S=>x.call aR [v2,t10,t11] S fun v3 S=>bD (.tuple [t14,v3,(.int .i64 (.ofNat 0))]) S K)
theorem CG (x:VE) (m0:Nat) (t3 t10 t11 t14 t63 t64:V) (S:Hp) (K:KV):gF x (m0+1) t3 t10 t11 t14 t63 t64 S K=tB x m0 t3 t10 t11 t14 t63 t64 S K:=by kernel_rfl
def lU (x:VE) (m1:Nat) (m0:Nat) (t3 t10 t11 t14 t15 t63 t64 t68 t69:V) (S:Hp) (K:KV):Prop:=
 cH S fun S=>
 aH PP .lss 3 t69 t68 fun v0=>
 fS v0 (cF 1 t14 t15 fun v1=>aT v1 S fun v2 S=>cF 1 t10 t69 fun v3=>aT v3 S fun v4 S=>aH PP .add 3 t15 (.int .i64 (.ofNat 1)) fun v5=>LS .u64 v5 fun v6=>aP 1 t3 fun v7=>aT v7 S fun v8 S=>cF 1 t11 t69 fun v9=>aT v9 S fun v10 S=>aH PP .add 3 t15 (.int .i64 (.ofNat 1)) fun v11=>LS .u64 v11 fun v12=>aP 1 t3 fun sO=>aT sO S fun sS S=>x.call xR [v4,v6,v8] S fun AM S=>aT sO S fun wU _=>aZ wU sS (aT v9 S fun rQ _=>aZ rQ v10 (aT v1 S fun yE _=>aZ yE v2 (x.call xR [v10,v12,sS] S fun wZ S=>aT v1 S fun v20 _=>aZ v20 v2 (cV GA [(0,1,AM),(1,1,wZ)] fun v21=>aT v1 S fun MY _=>aZ MY v2 ((aS 145 1 GA [(0,2,v21)] S fun FI S=>True)/\(aS 145 1 GA [(0,2,v21)] S fun v24 S=>jT 145 2 16 v2 v24 S fun TE S=>cF 1 t14 t15 fun ZS=>mL 1 ZS TE S fun S=>aH PP .add 3 t69 (.int .i64 (.ofNat 1)) fun Cs=>jD x m1 m0 t3 t10 t11 t14 t15 t63 t64 t68 Cs S K))))))) (aH PP .add 3 t64 (.int .i64 (.ofNat 1)) fun v28=>gF x m0 t3 t10 t11 t14 t63 v28 S K)
theorem sK (x:VE) (m1:Nat) (m0:Nat) (t3 t10 t11 t14 t15 t63 t64 t68 t69:V) (S:Hp) (K:KV):jD x (m1+1) m0 t3 t10 t11 t14 t15 t63 t64 t68 t69 S K=lU x m1 m0 t3 t10 t11 t14 t15 t63 t64 t68 t69 S K:=by kernel_rfl
def XK (x:VE) (a0:V) (S:Hp) (K:KV):Prop:=
 iD 29 a0 S fun v0 S=>
 aP 7 v0 fun v1=>
 aT v1 S fun v2 S=>
 aP 8 v0 fun v3=>
 aT v3 S fun v4 S=>
 aH PP .add 3 v4 (.int .i64 (.ofNat 1)) fun v5=>
 aH PP .mul 3 v2 v5 fun v6=>
 bD v6 S K
theorem Qg (x:VE) (a0:V) (S:Hp) (K:KV):jI PP bI DZ x [a0] S K=XK x a0 S K:=by kernel_rfl
def oN (x:VE) (m:Nat) (t2 t3 t9 t14 t15:V) (S:Hp) (K:KV):Prop:=dG PP bI vW x [.r,.r,.l,.r,.d] m [] [t2,t3,t9,t14,t15] S K
def Aw (x:VE) (a0 a1 a2 a3:V) (S:Hp) (K:KV):Prop:=
 aH PP .rem 22 a0 a2 fun v0=>
 aS 22 1 iC [(0,1,v0)] S fun v1 S=>
 oN x x.most a2 a3 v1 a1 (.int .i64 (.ofNat 0)) S K
theorem Uj (x:VE) (a0 a1 a2 a3:V) (S:Hp) (K:KV):jI PP bI vW x [a0,a1,a2,a3] S K=Aw x a0 a1 a2 a3 S K:=by kernel_rfl
def xX (x:VE) (m0:Nat) (t2 t3 t9 t14 t15:V) (S:Hp) (K:KV):Prop:=
 cH S fun S=>
 aH PP .lss 3 t15 t14 fun v0=>
 fS v0 (lX x t3 [t2] S fun v1 S=>aS 22 1 iC [(0,1,v1)] S fun v2 S=>jT 22 1 8 t9 v2 S fun v3 S=>aH PP .add 3 t15 (.int .i64 (.ofNat 1)) fun v4=>oN x m0 t2 t3 v3 t14 v4 S K) (bD t9 S K)
theorem HX (x:VE) (m0:Nat) (t2 t3 t9 t14 t15:V) (S:Hp) (K:KV):oN x (m0+1) t2 t3 t9 t14 t15 S K=xX x m0 t2 t3 t9 t14 t15 S K:=by kernel_rfl
def TW (x:VE) (a0 a1 a2:V) (S:Hp) (K:KV):Prop:=
 iD 29 a0 S fun v0 S=>
 cW cU 33 S fun v1 S=>
 x.call oC [a1,a2] S fun v2 S=>
 PG x v2 [3,7] [v0,v1] 36 (DV PP aR [.r,.r,.l,.r,.d]) (DW PP aR [.r,.r,.l,.r,.d]) (yK PP aR [.r,.r,.l,.r,.d]) S fun pe S=>
 UA pe (aT v1 S fun v4 S=>bD v4 S K) (bD .nil S K) (fun v3=>Au v3 0 (aT v1 S fun v5 S=>bD v5 S K) (False))
theorem Lj (x:VE) (a0 a1 a2:V) (S:Hp) (K:KV):jI PP bI aR x [a0,a1,a2] S K=TW x a0 a1 a2 S K:=by kernel_rfl
def DX (x:VE) (l:Nat) (t3 t7 a0 a1:V) (S:Hp) (K:KV):Prop:=
 At l S fun S=>
 cW cU 51 S fun v0 S=>
 x.call tE [a0,a1] S fun v1 S=>
 SP l S (PG x v1 [3,10] [t3,v0] 36 (DV PP aR [.r,.r,.l,.r,.d,.d,.d,.r,.l,.r,.d]) (DW PP aR [.r,.r,.l,.r,.d,.d,.d,.r,.l,.r,.d]) (yK PP aR [.r,.r,.l,.r,.d,.d,.d,.r,.l,.r,.d]) S fun pe S=>UA pe (aT t7 S fun v3 S=>aT v0 S fun v4 S=>aS 51 1 cU [(0,1,v4)] S fun v5 S=>jT 51 1 24 v3 v5 S fun v6 S=>mL 1 t7 v6 S fun S=>JI l .ready none true S K) (JI l .done (some .ret) false S K) (fun v2=>Au v2 2 (aT t7 S fun v7 S=>aT v0 S fun v8 S=>aS 51 1 cU [(0,1,v8)] S fun v9 S=>jT 51 1 24 v7 v9 S fun v10 S=>mL 1 t7 v10 S fun S=>JI l .ready none true S K) (Au v2 1 (JI l .ready none true S K) (JI l .done (some (.exit v2)) false S K))))
theorem UZ (x:VE) (l:Nat) (t3 t7 a0 a1:V) (S:Hp) (K:KV):XT PP bI x 36 (DV PP aR [.r,.r,.l,.r,.d]) (DW PP aR [.r,.r,.l,.r,.d]) (yK PP aR [.r,.r,.l,.r,.d]) l [t3,t7] [a0,a1] S K=DX x l t3 t7 a0 a1 S K:=by kernel_rfl
theorem UY:[3,7]=Ag bI 36 (yK PP aR [.r,.r,.l,.r,.d]):=by kernel_rfl
def vR (x:VE) (l:Nat) (t3 t10 a0 a1:V) (S:Hp) (K:KV):Prop:=
 At l S fun S=>
 aT t10 S fun v0 S=>
 bN 12 t3 S fun v1 S=>
 cV GA [(0,1,a0),(1,1,a1)] fun v2=>
 x.call LX [v1,v2] S fun v3 S=>
 aT t10 S fun v4 _=>
 aZ v4 v0 (aT t10 S fun v5 _=>aZ v5 v0 ((aS 22 1 iC [(0,1,v3)] S fun v6 S=>True)/\(aS 22 1 iC [(0,1,v3)] S fun v7 S=>jT 22 1 8 v0 v7 S fun v8 S=>mL 1 t10 v8 S fun S=>JI l .ready none true S K)))
theorem KA (x:VE) (l:Nat) (t3 t10 a0 a1:V) (S:Hp) (K:KV):XT PP bI x 36 (DV PP aR [.r,.r,.l,.r,.d,.d,.d,.r,.l,.r,.d]) (DW PP aR [.r,.r,.l,.r,.d,.d,.d,.r,.l,.r,.d]) (yK PP aR [.r,.r,.l,.r,.d,.d,.d,.r,.l,.r,.d]) l [t3,t10] [a0,a1] S K=vR x l t3 t10 a0 a1 S K:=by kernel_rfl
theorem JZ:[3,10]=Ag bI 36 (yK PP aR [.r,.r,.l,.r,.d,.d,.d,.r,.l,.r,.d]):=by kernel_rfl
def yU (x:VE) (a0 a1:V) (S:Hp) (K:KV):Prop:=
 bH a0 fun v0=>
 aH PP .geq 3 a1 v0 fun v1=>
 fS v1 (bD .nil S K) (cF 1 a0 a1 fun v2=>aT v2 S fun v3 S=>bD v3 S K)
theorem NA (x:VE) (a0 a1:V) (S:Hp) (K:KV):jI PP bI mF x [a0,a1] S K=yU x a0 a1 S K:=by kernel_rfl
def vQ (x:VE) (a0 a1:V) (S:Hp) (K:KV):Prop:=
 iD 33 a0 S fun v0 S=>
 iD 33 a1 S fun v1 S=>
 bD (.func fK [] [v0,v1]) S K
theorem IR (x:VE) (a0 a1:V) (S:Hp) (K:KV):jI PP bI oC x [a0,a1] S K=vQ x a0 a1 S K:=by kernel_rfl
def gU (x:VE) (m:Nat) (t0 t1 t2 t9 t10:V) (S:Hp) (K:KV):Prop:=dG PP bI fK x [.r,.d] m [] [t0,t1,t2,t9,t10] S K
def tF (x:VE) (a0 a1 a2:V) (S:Hp) (K:KV):Prop:=
 aT a1 S fun v0 S=>
 bH v0 fun v1=>
 aT a2 S fun v2 S=>
 bH v2 fun v3=>
 Cq true v1 v3 fun v4=>
 gU x x.most a0 a1 a2 v4 (.int .i64 (.ofNat 0)) S K
theorem GD (x:VE) (a0 a1 a2:V) (S:Hp) (K:KV):jI PP bI fK x [a0,a1,a2] S K=tF x a0 a1 a2 S K:=by kernel_rfl
def kK (x:VE) (m0:Nat) (t0 t1 t2 t9 t10:V) (S:Hp) (K:KV):Prop:=
 cH S fun S=>
 aH PP .lss 3 t10 t9 fun v0=>
 fS v0 (aT t1 S fun v1 S=>aT t2 S fun v2 S=>x.call mF [v1,t10] S fun v3 S=>aT t2 S fun v4 _=>aZ v4 v2 (x.call mF [v2,t10] S fun v5 S=>lX x t0 [v3,v5] S fun v6 S=>SO .not v6 fun v7=>fS v7 (bD (.tuple []) S K) (aH PP .add 3 t10 (.int .i64 (.ofNat 1)) fun v8=>gU x m0 t0 t1 t2 t9 v8 S K))) (bD (.tuple []) S K)
theorem pQ (x:VE) (m0:Nat) (t0 t1 t2 t9 t10:V) (S:Hp) (K:KV):gU x (m0+1) t0 t1 t2 t9 t10 S K=kK x m0 t0 t1 t2 t9 t10 S K:=by kernel_rfl
def CJ (x:VE) (a0 a1:V) (S:Hp) (K:KV):Prop:=
 iD 51 a0 S fun v0 S=>
 iD 51 a1 S fun v1 S=>
 bD (.func jJ [] [v0,v1]) S K
theorem QJ (x:VE) (a0 a1:V) (S:Hp) (K:KV):jI PP bI tE x [a0,a1] S K=CJ x a0 a1 S K:=by kernel_rfl
def kF (x:VE) (m:Nat) (t0 t1 t2 t9 t10:V) (S:Hp) (K:KV):Prop:=dG PP bI jJ x [.r,.d] m [] [t0,t1,t2,t9,t10] S K
def yV (x:VE) (a0 a1 a2:V) (S:Hp) (K:KV):Prop:=
 aT a1 S fun v0 S=>
 bH v0 fun v1=>
 aT a2 S fun v2 S=>
 bH v2 fun v3=>
 Cq true v1 v3 fun v4=>
 kF x x.most a0 a1 a2 v4 (.int .i64 (.ofNat 0)) S K
theorem NB (x:VE) (a0 a1 a2:V) (S:Hp) (K:KV):jI PP bI jJ x [a0,a1,a2] S K=yV x a0 a1 a2 S K:=by kernel_rfl
def nK (x:VE) (m0:Nat) (t0 t1 t2 t9 t10:V) (S:Hp) (K:KV):Prop:=
 cH S fun S=>
 aH PP .lss 3 t10 t9 fun v0=>
 fS v0 (aT t1 S fun v1 S=>aT t2 S fun v2 S=>x.call rM [v1,t10] S fun v3 S=>aT t2 S fun v4 _=>aZ v4 v2 (x.call rM [v2,t10] S fun v5 S=>lX x t0 [v3,v5] S fun v6 S=>SO .not v6 fun v7=>fS v7 (bD (.tuple []) S K) (aH PP .add 3 t10 (.int .i64 (.ofNat 1)) fun v8=>kF x m0 t0 t1 t2 t9 v8 S K))) (bD (.tuple []) S K)
theorem uH (x:VE) (m0:Nat) (t0 t1 t2 t9 t10:V) (S:Hp) (K:KV):kF x (m0+1) t0 t1 t2 t9 t10 S K=nK x m0 t0 t1 t2 t9 t10 S K:=by kernel_rfl
def HR (x:VE) (a0 a1:V) (S:Hp) (K:KV):Prop:=
 bH a0 fun v0=>
 aH PP .geq 3 a1 v0 fun v1=>
 fS v1 (bD (.int .u64 (.ofNat 0)) S K) (cF 1 a0 a1 fun v2=>aT v2 S fun v3 S=>bD v3 S K)
theorem XF (x:VE) (a0 a1:V) (S:Hp) (K:KV):jI PP bI rM x [a0,a1] S K=HR x a0 a1 S K:=by kernel_rfl
def XE (x:VE) (a0 a1:V) (S:Hp) (K:KV):Prop:=
 iD 29 a0 S fun v0 S=>
 iD 145 a1 S fun v1 S=>
 bN 12 v0 S fun v2 S=>
 bN 12 v0 S fun v3 S=>
 aP 2 v0 fun v4=>
 aT v4 S fun v5 S=>
 aP 0 v1 fun v6=>
 aT v6 S fun v7 S=>
 bN 12 v0 S fun v8 S=>
 aP 3 v0 fun v9=>
 aT v9 S fun v10 S=>
 aP 1 v1 fun v11=>
 aT v11 S fun v12 S=>
 x.call sC [v3,v5,v7] S fun sO S=>
 aT v11 S fun sS _=>
 aZ sS v12 (aT v9 S fun AM _=>aZ AM v10 (bN 12 v0 S fun wU _=>aZ wU v8 (bN 12 v0 S fun rQ _=>aZ rQ v2 (x.call sC [v8,v10,v12] S fun yE S=>bN 12 v0 S fun wZ _=>aZ wZ v2 (bN 12 v0 S fun v20 _=>aZ v20 v2 ((aS 22 2 iC [(0,1,sO),(1,1,yE)] S fun v21 S=>True)/\(aS 22 2 iC [(0,1,sO),(1,1,yE)] S fun MY S=>x.call nD [v2,MY] S fun FI S=>bD FI S K)))))))
theorem Qf (x:VE) (a0 a1:V) (S:Hp) (K:KV):jI PP bI LX x [a0,a1] S K=XE x a0 a1 S K:=by kernel_rfl
def Aj (x:VE) (a0 a1 a2:V) (S:Hp) (K:KV):Prop:=
 iD 29 a0 S fun v0 S=>
 aP 0 v0 fun v1=>
 aT v1 S fun v2 S=>
 x.call QD [a1,a2,v2] S fun v3 S=>
 bD v3 S K
theorem Ty (x:VE) (a0 a1 a2:V) (S:Hp) (K:KV):jI PP bI sC x [a0,a1,a2] S K=Aj x a0 a1 a2 S K:=by kernel_rfl
def sV (x:VE) (m:Nat) (t2 t5 t11 t12 t13:V) (S:Hp) (K:KV):Prop:=dG PP bI nD x [.r,.r,.l,.r,.d] m [] [t2,t5,t11,t12,t13] S K
def Ak (x:VE) (a0 a1:V) (S:Hp) (K:KV):Prop:=
 iD 29 a0 S fun v0 S=>
 aP 0 v0 fun v1=>
 aT v1 S fun v2 S=>
 x.call nX [(.int .u64 (.ofNat 1)),(.int .u64 (.ofNat 1)),v2] S fun v3 S=>
 bH a1 fun v4=>
 sV x x.most v0 v3 a1 v4 (.int .i64 (.ofNat 0)) S K
theorem Tz (x:VE) (a0 a1:V) (S:Hp) (K:KV):jI PP bI nD x [a0,a1] S K=Ak x a0 a1 S K:=by kernel_rfl
def xS (x:VE) (m0:Nat) (t2 t5 t11 t12 t13:V) (S:Hp) (K:KV):Prop:=
 cH S fun S=>
 aH PP .lss 3 t13 t12 fun v0=>
 fS v0 (cF 1 t11 t13 fun v1=>aT v1 S fun v2 S=>aP 0 t2 fun v3=>aT v3 S fun v4 S=>x.call nX [t5,v2,v4] S fun v5 S=>aH PP .add 3 t13 (.int .i64 (.ofNat 1)) fun v6=>sV x m0 t2 v5 t11 t12 v6 S K) (bD t5 S K)
theorem HQ (x:VE) (m0:Nat) (t2 t5 t11 t12 t13:V) (S:Hp) (K:KV):sV x (m0+1) t2 t5 t11 t12 t13 S K=xS x m0 t2 t5 t11 t12 t13 S K:=by kernel_rfl
end Go.Am
set_option maxRecDepth 4000
namespace Go.Am
open Go.Proofs.NQ
def pw (g e:Nat):Nat:=ZL 64 (1%23) g e 23
def LW (l:List Nat):Nat:=l.foldl (fun acc y=>acc*y%23) (1*1%23)
def com (sd B:Nat):Nat:=LW [pw 4 sd,pw 9 B]
theorem aFh (g e:Nat):pw g e<23:=by
 have:∀(f out a e:Nat),out<23->ZL f out a e 23<23:=by
  intro f;induction f with
  | zero=>intro out a e h;exact h
  | succ f ih=>
   intro out a e h;by_cases he:0<e
   ·rw [Vv he]
    refine ih _ _ _ ?_;split
    ·exact iY _ (by decide)
    ·exact h
   ·have:e=0:=by omega
    subst this;rw [Vu];exact h
 exact this 64 _ g e (by decide)
theorem aIV (sd B:Nat):com sd B<23:=iY _ (by decide)
section
variable{M n:Nat}{x:VE}{S:Hp}{K:KV}{two:Bool}
theorem jV:(pv two).all fR=true:=rfl
theorem BP:(pv two).length=12:=rfl
theorem Fm (hx:Deep PP bI gM M (n+2) x){g e:Nat} (hg:EY g) (he:EY e) (hK:K (nu (pw g e)) S):x.call sC [.agg (pv two),nu g,nu e] S K:=by
 refine hx.call rfl fun y hy=>?_;rw [Ty];unfold Aj;refine cA jV fun b hb=>?_;rw [aU,cQ (o:=0) aC rfl];refine aQx hy hg he qP ?_;exact bL (.aI hb) hK
theorem aGL (hx:Deep PP bI gM M (n+1) x){v:V}{l:List Nat}{b:Nat}{S0:Hp} (hle:bO S0 S) (h:NV S v l) (UX:LP l) (hl:l.length<1000000) (hb:S b=some (.row (pv two) 29)) (hK:K (nu (LW l)) S0):
 ∀(r i m:Nat) (acc:Nat),i+r=l.length->r<m->EY acc->(l.drop i).foldl (fun acc y=>acc*y%23) acc=LW l->sV x m (.ptr b 0) (nu acc) v (ni l.length) (ni i) S K:=by
 intro r;induction r with
 | zero=>
  intro i m acc hi hm h6 he;obtain⟨m,rfl⟩:=bG (show m≠0 by omega);rw [HQ];unfold xS;refine aE ?_;rw [aN,iN (by omega),aW];rw [oS (by omega)]at he;have he:acc=LW l:=he;rw [he];exact bL hle hK
 | succ r ih=>
  intro i m acc hi hm h6 he;obtain⟨m,rfl⟩:=bG (show m≠0 by omega);rw [HQ];unfold xS;refine aE ?_;have hlt:i<l.length:=by omega
  obtain⟨p,hp,RD⟩:=h.at (i:=i) (aQ hlt);rw [aN,wX hlt,bQ,hp,RD S (.refl S),aU,cQ hb rfl];refine QG hx h6 (UX _ (cK hlt)) qP ?_;rw [bE (by omega)];refine ih (i+1) m _ (by omega) (by omega) (Zl qP) ?_;rw [lP hlt]at he;exact he
theorem XD (hM:1000000<M) (hx:Deep PP bI gM M (n+2) x){v:V}{l:List Nat} (h:NV S v l) (UX:LP l) (hl:l.length<1000000) (hK:K (nu (LW l)) S):x.call nD [.agg (pv two),v] S K:=by
 refine hx.call rfl fun y hy=>?_;rw [Tz];unfold Ak;refine cA jV fun b hb=>?_;rw [aU,cQ (o:=0) aC rfl];refine QG hy (by decide) (by decide) qP ?_;have hle:bO S (aK S b (.row (pv two) 29)):= .aI hb;rw [(h.up hle).len,hy.most];exact aGL hy hle (h.up hle) UX hl aC hK l.length 0 M _ (by omega) (by omega) (by decide) rfl
theorem Iu{a b:Nat} (hk:∀j,S j=none->K (.own j 0 2 2) (aK S j (.row (nY [a,b]) 22))):aS 22 2 iC [(0,1,nu a),(1,1,nu b)] S K:=⟨rfl,by simp,rfl,by simp [aY],fun j hj=>hk j hj⟩
theorem aIW (hM:1000000<M) (hx:Deep PP bI gM M (n+3) x){sd B:Nat} (hS:EY sd) (hB:EY B) (hK:K (nu (com sd B)) S):x.call LX [.agg (pv two),.agg [nu sd,nu B]] S K:=by
 refine hx.call rfl fun y hy=>?_;rw [Qf];unfold XE;refine cA jV fun b hb=>?_;have dF:bO S (aK S b (.row (pv two) 29)):= .aI hb;have rb:aK S b (.row (pv two) 29) b=some (.row (pv two) 29):=aC;generalize aK S b (.row (pv two) 29)=S1 at dF rb;refine cA rfl fun c hc=>?_;have fG:bO S1 (aK S1 c (.row [nu sd,nu B] 145)):= .aI hc;have rc:aK S1 c (.row [nu sd,nu B] 145) c=some (.row [nu sd,nu B] 145):=aC;generalize aK S1 c (.row [nu sd,nu B] 145)=S2 at fG rc;have rb:=fG _ _ rb;have le:=dF.trans fG
 have all:∀{K:KV},bN 12 (.ptr b 0) S2 K=K (.agg (pv two)) S2:=fun {K}=>by
  unfold bN;simp only [rb];rw [dL (by rw [BP];omega),xG,lQ (by rw [BP];omega)]
 have same:∀{p:Prop},aZ (.agg (pv two)) (.agg (pv two)) p=p:=fun {p}=>cR rfl;have l2:∀{K:KV},aT (.ptr b 2) S2 K=K (nu 4) S2:=cQ rb rfl;have l3:∀{K:KV},aT (.ptr b 3) S2 K=K (nu 9) S2:=cQ rb rfl;have l0:∀{K:KV},aT (.ptr c 0) S2 K=K (nu sd) S2:=cQ rc rfl;have l1:∀{K:KV},aT (.ptr c 1) S2 K=K (nu B) S2:=cQ rc rfl;simp only [all,aU,l2,l3,l0,l1];refine Fm hy (by decide) hS ?_;simp only [all,l3,l1,same,cS];refine Fm hy (by decide) hB ?_;simp only [all,same];have p1:=aFh 4 sd;have p2:=aFh 9 B;refine⟨Iu fun j hj=>trivial,Iu fun j hj=>?_⟩;refine XD hM hy (.own (l:=[pw 4 sd,pw 9 B]) aC (fun i z h=>by rw [eG];exact IP h) (by rw [nZ];simp)) (fun z hz=>?_) (by simp) ?_
 ·rcases List.mem_cons.1 hz with rfl | hz
  ·unfold EY;omega
  ·rcases List.mem_cons.1 hz with rfl | hz
   ·unfold EY;omega
   ·cases hz
 ·exact bL (le.trans (.aI hj)) hK
end
inductive NL (S0 S:Hp):V->List Nat->Prop
 | val {O:Tag} {l:List Nat}:NL S0 S (.list O (jK l) l.length) l
 | made {w:V} {l:List Nat} (h:MN S0 S w l):NL S0 S w l
section
variable{S0 S S':Hp}{w v:V}{l:List Nat}{ls:List (List Nat)}
theorem NL.nv (h:NL S0 S w l):NV S w l:=by cases h with | val=>exact .list | made h=>exact h.nv
theorem NL.Cm (h:NL S0 S w l):Fi S0 S w (.list (jK l) l.length):=by cases h with | val=>exact .list | made h=>exact h.Cm
theorem NL.one (h:NL S0 S w l):fR w=true:=by cases h with | val=>rfl | made h=>cases h<;>rfl
theorem NL.but{i:Nat} (h:NL S0 S w l) (hs:∀j o,j≠i->S j=some o->S' j=some o) (h1:∀vs m,S i≠some (.fW vs 22 m)) (h2:∀vs,S i≠some (.row vs 22)):NL S0 S' w l:=by
 cases h with
 | val=>exact .val
 | made h=>
  refine .made ?_;cases h with
  | nil=>exact .nil
  | acc h0 h=>exact .acc h0 (hs _ _ (fun c=>by rw [c]at h;exact h1 _ _ h) h)
  | own h0 h=>exact .own h0 (hs _ _ (fun c=>by rw [c]at h;exact h2 _ h) h)
theorem NL.up (h:NL S0 S w l) (hle:bO S S'):NL S0 S' w l:=by cases h with | val=>exact .val | made h=>exact .made (h.up hle)
inductive ML (S0 S:Hp):V->List (List Nat)->Prop
 | nil:ML S0 S .nil []
 | acc {i:Nat} {vs:List V} {ls:List (List Nat)} (h0:S0 i=none) (h:S i=some (.fW vs 51 ls.length)) (hl:vs.length=ls.length) (hv:∀(j:Nat) (l:List Nat),ls[j]? =some l->∃w,vs[j]? =some w/\NL S0 S w l):ML S0 S (.acc i ls.length) ls
theorem ML.len (h:ML S0 S v ls){K:V->Prop}:bH v K=K (ni ls.length):=by cases h<;>rfl
theorem ML.up (h:ML S0 S v ls) (hle:bO S S'):ML S0 S' v ls:=by
 cases h with
 | nil=>exact .nil
 | acc h0 h hl hv=>exact .acc h0 (hle _ _ h) hl fun j l e=>by obtain⟨w,a,b⟩:=hv j l e;exact⟨w,a,b.up hle⟩
theorem ML.at (h:ML S0 S v ls){i:Nat} (hi:ls[i]? =some l):∃p w,(∀(j:IntKind) (K:V->Prop),cF 1 v (.int j (.ofNat i)) K=K p)/\(∀S',bO S S'->∀K:KV,aT p S' K=K w S')/\NL S0 S w l:=by
 have hlt:i<ls.length:=(List.getElem?_eq_some_iff.1 hi).1;cases h with
 | nil=>cases hi
 | @acc b vs _ h0 h hl hv=>
  obtain⟨w,a,q⟩:=hv i l hi;refine⟨.vY b ls.length (i*1),w,fun j K=>LM hlt,fun S' hle K=>?_,q⟩;rw [jL];unfold aT;simp only [hle _ _ h,cI a,true_and]
theorem ML.Cm (h:ML S0 S v ls):Fi S0 S v (.list (ls.map fun l=> .list (jK l) l.length) ls.length):=by
 cases h with
 | nil=>exact .nil
 | acc h0 h hl hv=>
  refine .acc h h0 (by rw [hl,lR]) fun j v d a b=>?_;rw [dO]at b;cases hq:ls[j]? with
  | none=>rw [hq]at b;cases b
  | some l=>
   rw [hq]at b;injection b with b;subst b;obtain⟨w,a2,q⟩:=hv j l hq;rw [a]at a2;injection a2 with a2;subst a2;exact q.Cm
theorem ML.app (h:ML S0 S v ls) (hs:bO S0 S) (hl:ls.length<=1000000) (hw:NL S0 S w l){K:KV}
 (hk:∀u S',bO S0 S'->(∀j o,S j=some o->(∀vs m,o≠ .fW vs 51 m)->S' j=some o)->ML S0 S' u (ls++[l])->fR u=true->K u S'):aS 51 1 cU [(0,1,w)] S fun v2 S=>jT 51 1 24 v v2 S K:=by
 have hc:∀{p:List V->Prop},vZ w p=p [w]:=fun {p}=>by
  have:=hw.one;cases w<;>first | rfl | cases this
 have hz:LO cU=some [.nil]:=rfl;unfold aS rL;rw [hz];show iG [(0,1,w)] [.nil] _;unfold iG;rw [hc];refine⟨rfl,by simp,?_⟩;unfold iG;intro j hj;have hj0:S0 j=none:=hs.none hj;have xB:bO S (aK S j (.row [w] 51)):= .aI hj;show jT 51 1 24 v (.own j 0 1 1) (aK S j (.row (aY 0 [w] [.nil]) 51)) K;have e:aY 0 [w] [V.nil]=[w]:=rfl;rw [e];refine LN (m:=1) aC rfl ?_;refine⟨by simp [hw.one],?_⟩;have hwj:=hw.up xB;cases h with
 | nil=>
  refine⟨by decide,fun i hi=>?_⟩;have tZ:bO (aK S j (.row [w] 51)) (aK (aK S j (.row [w] 51)) i (.fW [w] 51 1)):= .aI hi;refine hk _ _ ((hs.trans xB).trans tZ) (fun q o e _=>tZ _ _ (xB _ _ e)) (.acc (ls:=[l]) ((hs.trans xB).none hi) aC rfl fun q l' e=>?_) rfl
  match q,e with
  | 0,e=>injection e with e;subst e;exact⟨w,rfl,hwj.up tZ⟩
  | q+1,e=>cases e
 | @acc i vs _ h0 h DK hv=>
  have oJ:j≠i:=fun e=>by rw [e,h]at hj;cases hj
  have h':aK S j (.row [w] 51) i=some (.fW vs 51 ls.length):=by rw [aB (aO oJ)];exact h
  simp only [h'];refine⟨trivial,trivial,by omega,by omega,?_⟩;have el:ls.length+(0+1)=(ls++[l]).length:=by simp
  rw [el];have tZ:∀q o,q≠i->S q=some o->aK (aK S j (.row [w] 51)) i (.fW (vs++[w]) 51 (ls++[l]).length) q=some o:=fun q o hq e=>by rw [aB hq];exact xB _ _ e
  have hn1:∀vs m,S i≠some (.fW vs 22 m):=fun vs m c=>by rw [h]at c;cases c
  have hn2:∀vs,S i≠some (.row vs 22):=fun vs c=>by rw [h]at c;cases c
  refine hk _ _ (fun q o e=>tZ q o (fun c=>by rw [c,h0]at e;cases e) (hs _ _ e)) (fun q o e xC=>tZ q o (fun c=>by rw [c,h]at e;injection e with e;exact xC _ _ e.symm) e) (.acc h0 aC (by simp [DK]) fun q l' e=>?_) rfl;rcases BF q ls.length with hq | hq
  ·rw [gI hq]at e
   obtain⟨u,a,b⟩:=hv q l' e;exact⟨u,by rw [gI (by omega)];exact a,b.but tZ hn1 hn2⟩
  ·have hq':q=ls.length:=by
    have:=(List.getElem?_eq_some_iff.1 e).1;simp at this;omega
   subst hq';simp at e;subst e;exact⟨w,by rw [kI (by omega),DK];simp,hw.but tZ hn1 hn2⟩
end
end Go.Am
set_option maxRecDepth 4000
namespace Go.Am
theorem NL.same{S0 S:Hp}{v:V}{l:List Nat} (h:NL S0 S v l):DS v=true:=by
 cases h with
 | val=>rfl
 | made h=>cases h<;>rfl
theorem ML.same{S0 S:Hp}{v:V}{l:List (List Nat)} (h:ML S0 S v l):DS v=true:=by cases h<;>rfl
theorem ML.one{S0 S:Hp}{v:V}{l:List (List Nat)} (h:ML S0 S v l):fR v=true:=by cases h<;>rfl
inductive RL (S0 S:Hp):V->List (List Nat)->Prop
 | ml {v:V} {ls:List (List Nat)} (h:ML S0 S v ls):RL S0 S v ls
 | val {t:Tag} {ls:List (List Nat)}:RL S0 S (.list t (ls.map fun l=> .list (jK l) l.length) ls.length) ls
theorem RL.same{S0 S:Hp}{v:V}{l:List (List Nat)} (h:RL S0 S v l):DS v=true:=by cases h with | ml h=>exact h.same | val=>rfl
theorem RL.one{S0 S:Hp}{v:V}{l:List (List Nat)} (h:RL S0 S v l):fR v=true:=by cases h with | ml h=>exact h.one | val=>rfl
theorem RL.len{S0 S:Hp}{v:V}{l:List (List Nat)} (h:RL S0 S v l){K:V->Prop}:bH v K=K (ni l.length):=by cases h with | ml h=>exact h.len | val=>rfl
theorem RL.up{S0 S S':Hp}{v:V}{l:List (List Nat)} (h:RL S0 S v l) (hle:bO S S'):RL S0 S' v l:=by cases h with | ml h=>exact .ml (h.up hle) | val=>exact .val
theorem RL.at{S0 S:Hp}{v:V}{ls:List (List Nat)}{l:List Nat} (h:RL S0 S v ls){i:Nat} (hi:ls[i]? =some l):∃p w,(∀(j:IntKind) (K:V->Prop),cF 1 v (.int j (.ofNat i)) K=K p)/\(∀S',bO S S'->∀K:KV,aT p S' K=K w S')/\NL S0 S w l:=by
 cases h with
 | ml h=>exact h.at hi
 | @val t _=>
  have hlt:i<ls.length:=(List.getElem?_eq_some_iff.1 hi).1;refine⟨.pI t (ls.map fun l=> .list (jK l) l.length) (i*1),.list (.sub t (i*1)) (jK l) l.length,fun j K=>fH hlt,fun S' hle K=>?_,.val⟩;rw [jL,sJ];have e:(ls.map fun l=>Dt.list (jK l) l.length)[i]? =some (.list (jK l) l.length):=by rw [dO,hi];rfl
  rw [cI e];rfl
theorem MN.base{S0 S1 S:Hp}{w:V}{l:List Nat} (h:MN S1 S w l) (hle:bO S0 S1):MN S0 S w l:=by
 cases h with
 | nil=>exact .nil
 | acc h0 h=>exact .acc (hle.none h0) h
 | own h0 h=>exact .own (hle.none h0) h
theorem MN.same{S0 S:Hp}{w:V}{l:List Nat} (h:MN S0 S w l):DS w=true:=by cases h<;>rfl
theorem MN.one{S0 S:Hp}{w:V}{l:List Nat} (h:MN S0 S w l):fR w=true:=by cases h<;>rfl
theorem ZM{t:TypeId}{v:V}{S:Hp}{K:KV} (h1:fR v=true) (hk:∀i,S i=none->K (.ptr i 0) (aK S i (.row [v] t))):iD t v S K:=by
 unfold iD;have hc:∀{p:List V->Prop},vZ v p=p [v]:=fun {p}=>by cases v<;>first | rfl | cases h1
 rw [hc];exact hk
theorem aDs{a:Nat}{K:V->Prop}:Cq true (ni a) (ni a) K=K (ni a):=by
 show K (.int .i64 (max (Int.ofNat a) (Int.ofNat a)))=_;rw [Int.max_self]
section
variable{M n:Nat}{x:VE}{S S0:Hp}{K:KV}
theorem aNn (hx:Deep PP bI gM M (n+1) x){v:V}{l:List Nat} (h:NV S v l){i:Nat} (hi:i<l.length) (hK:K (nu l[i]) S):x.call rM [v,ni i] S K:=by
 refine hx.call rfl fun y hy=>?_;rw [XF];unfold HR;obtain⟨p,hp,RD⟩:=h.at (i:=i) (aQ hi);rw [h.len,zE,bJ (by omega),aW,hp,RD S (.refl S)];exact aL hK
theorem aNo (hx:Deep PP bI gM M (n+1) x){v:V}{ls:List (List Nat)} (h:RL S0 S v ls){i:Nat} (hi:i<ls.length) (hK:∀w,NL S0 S w ls[i]->K w S):x.call mF [v,ni i] S K:=by
 refine hx.call rfl fun y hy=>?_;rw [NA];unfold yU;obtain⟨p,w,hp,RD,hw⟩:=h.at (i:=i) (aQ hi);rw [h.len,zE,bJ (by omega),aW,hp,RD S (.refl S)];exact aL (hK w hw)
theorem aIX (hx:Deep PP bI gM M (n+1) x){v w:V} (h1:fR v=true) (h2:fR w=true) (hK:∀b1 b2 S',S b1=none->S b2=none->b1≠b2->bO S S'->S' b1=some (.row [v] 51)->S' b2=some (.row [w] 51)->K (.func jJ [] [.ptr b1 0,.ptr b2 0]) S'):x.call tE [v,w] S K:=by
 refine hx.call rfl fun y hy=>?_;rw [QJ];unfold CJ;refine ZM h1 fun b1 Dl=>ZM h2 fun b2 NH=>aL ?_;have dF:bO S (aK S b1 (.row [v] 51)):= .aI Dl;have oJ:b1≠b2:=fun e=>by rw [<-e,aC]at NH;cases NH
 exact hK b1 b2 _ Dl (dF.none NH) oJ (dF.trans (.aI NH)) (by rw [aB oJ];exact aC) aC
theorem aIY (hx:Deep PP bI gM M (n+1) x){v w:V} (h1:fR v=true) (h2:fR w=true) (hK:∀b1 b2 S',S b1=none->S b2=none->b1≠b2->bO S S'->S' b1=some (.row [v] 33)->S' b2=some (.row [w] 33)->K (.func fK [] [.ptr b1 0,.ptr b2 0]) S'):x.call oC [v,w] S K:=by
 refine hx.call rfl fun y hy=>?_;rw [IR];unfold vQ;refine ZM h1 fun b1 Dl=>ZM h2 fun b2 NH=>aL ?_;have dF:bO S (aK S b1 (.row [v] 33)):= .aI Dl;have oJ:b1≠b2:=fun e=>by rw [<-e,aC]at NH;cases NH
 exact hK b1 b2 _ Dl (dF.none NH) oJ (dF.trans (.aI NH)) (by rw [aB oJ];exact aC) aC
theorem aIZ (hM:1000000<M) (hx:Deep PP bI gM M (n+3) x){l b1 b2:Nat}{va vb:V}{a b:List Nat} (hlen:b.length=a.length) (hl:a.length<1000000){Inv:Nat->Hp->Prop} (hI:∀i S,Inv i S->S b1=some (.row [va] 51)/\S b2=some (.row [vb] 51)/\NV S va a/\NV S vb b) (hv:DS vb=true)
 (step:∀(y:VE),Deep PP bI gM M (n+2) y->∀(i:Nat) (S:Hp) (h1:i<a.length) (h2:i<b.length) (K:KV),Inv i S->(∀S',Inv (i+1) S'->K (.bool true) S')->y.R l [nu a[i],nu b[i]] S K) (h0:Inv 0 S) (hK:∀S,Inv a.length S->K (.tuple []) S):x.call jJ [.yield l,.ptr b1 0,.ptr b2 0] S K:=by
 refine hx.call rfl fun y hy=>?_;rw [NB];unfold yV;obtain⟨q1,q2,q3,q4⟩:=hI 0 S h0;rw [cQ q1 rfl,q3.len,cQ q2 rfl,q4.len,hlen,aDs,hy.most]
 have:∀(r i m:Nat) (S:Hp),i+r=a.length->r<m->Inv i S->kF y m (.yield l) (.ptr b1 0) (.ptr b2 0) (ni a.length) (ni i) S K:=by
  intro r;induction r with
  | zero=>
   intro i m S hi hm h;obtain⟨m,rfl⟩:=bG (show m≠0 by omega);rw [uH];unfold nK;refine aE ?_;rw [aN,iN (by omega),aW];have e:i=a.length:=by omega
   subst e;exact aL (hK S h)
  | succ r ih=>
   intro i m S hi hm h;obtain⟨m,rfl⟩:=bG (show m≠0 by omega);rw [uH];unfold nK;refine aE ?_;obtain⟨q1,q2,q3,q4⟩:=hI i S h;rw [aN,wX (by omega),bQ,cQ q1 rfl,cQ q2 rfl];refine aNn hy q3 (show i<a.length by omega) ?_;rw [cQ q2 rfl,cR hv];refine aNn hy q4 (show i<b.length by omega) ?_;refine step y hy i S _ _ _ h fun S' h'=>?_;rw [lW,dD,aW,bE (by omega)];exact ih (i+1) m S' (by omega) (by omega) h'
 exact this a.length 0 M S (by omega) (by omega) h0
theorem aI0 (hM:1000000<M) (hx:Deep PP bI gM M (n+3) x){l b1 b2:Nat}{va vb:V}{a b:List (List Nat)} (hlen:b.length=a.length) (hl:a.length<1000000){Inv:Nat->Hp->Prop}{Oa:Hp} (hI:∀i S,Inv i S->S b1=some (.row [va] 33)/\S b2=some (.row [vb] 33)/\RL Oa S va a/\RL Oa S vb b)
 (step:∀(y:VE),Deep PP bI gM M (n+2) y->∀(i:Nat) (S:Hp) (h1:i<a.length) (h2:i<b.length) (u w:V) (K:KV),Inv i S->NL Oa S u a[i]->NL Oa S w b[i]->(∀S',Inv (i+1) S'->K (.bool true) S')->y.R l [u,w] S K) (h0:Inv 0 S) (hK:∀S,Inv a.length S->K (.tuple []) S):x.call fK [.yield l,.ptr b1 0,.ptr b2 0] S K:=by
 refine hx.call rfl fun y hy=>?_;rw [GD];unfold tF;obtain⟨q1,q2,q3,q4⟩:=hI 0 S h0;rw [cQ q1 rfl,q3.len,cQ q2 rfl,q4.len,hlen,aDs,hy.most]
 have:∀(r i m:Nat) (S:Hp),i+r=a.length->r<m->Inv i S->gU y m (.yield l) (.ptr b1 0) (.ptr b2 0) (ni a.length) (ni i) S K:=by
  intro r;induction r with
  | zero=>
   intro i m S hi hm h;obtain⟨m,rfl⟩:=bG (show m≠0 by omega);rw [pQ];unfold kK;refine aE ?_;rw [aN,iN (by omega),aW];have e:i=a.length:=by omega
   subst e;exact aL (hK S h)
  | succ r ih=>
   intro i m S hi hm h;obtain⟨m,rfl⟩:=bG (show m≠0 by omega);rw [pQ];unfold kK;refine aE ?_;obtain⟨q1,q2,q3,q4⟩:=hI i S h;rw [aN,wX (by omega),bQ,cQ q1 rfl,cQ q2 rfl];refine aNo hy q3 (show i<a.length by omega) fun u hu=>?_;rw [cQ q2 rfl,cR q4.same];refine aNo hy q4 (show i<b.length by omega) fun w hw=>?_;refine step y hy i S (by omega) (by omega) u w _ h hu hw fun S' h'=>?_;rw [lW,dD,aW,bE (by omega)];exact ih (i+1) m S' (by omega) (by omega) h'
 exact this a.length 0 M S (by omega) (by omega) h0
end
def BR (f r:List Nat):List Nat:=List.zipWith com f r
def iO (fs rs:List (List Nat)):List (List Nat):=List.zipWith BR fs rs
section
variable{M n:Nat}{x:VE}{S S0:Hp}{K:KV}{two:Bool}
def loO (a b:Nat) (st:LoopState):Ob:= .loop [3,7] [.ptr a 0,.ptr b 0] 36 (DV PP aR [.r,.r,.l,.r,.d]) (DW PP aR [.r,.r,.l,.r,.d]) (yK PP aR [.r,.r,.l,.r,.d]) st none
def loI (a b:Nat) (st:LoopState):Ob:= .loop [3,10] [.ptr a 0,.ptr b 0] 36 (DV PP aR [.r,.r,.l,.r,.d,.d,.d,.r,.l,.r,.d]) (DW PP aR [.r,.r,.l,.r,.d,.d,.d,.r,.l,.r,.d]) (yK PP aR [.r,.r,.l,.r,.d,.d,.d,.r,.l,.r,.d]) st none
theorem FD{S1 S:Hp}{i:Nat}{o:Ob} (h:bO S1 S) (h0:S1 i=none):bO S1 (aK S i o):=fun q p e=>by rw [aB (fun c=>by rw [c,h0]at e;cases e)];exact h q p e
structure aLW (S1:Hp) (bv l2 b3 b4 bp:Nat) (fa fb:V) (f r:List Nat) (i:Nat) (S:Hp):Prop where
 le:bO S1 S
 n1:S1 bv=none
 n2:S1 l2=none
 u:∃u,S bv=some (.row [u] 51)/\MN S1 S u ((BR f r).take i)
 lo:S l2=some (loI bp bv .ready)
 r3:S b3=some (.row [fa] 51)
 r4:S b4=some (.row [fb] 51)
 d1:bv≠l2
 d2:bv≠b3
 d3:bv≠b4
 d4:l2≠b3
 d5:l2≠b4
theorem MN.set{S1 S:Hp}{u:V}{l:List Nat} (h:MN S1 S u l){i:Nat}{o p:Ob} (hi:S i=some p) (h1:∀vs m,p≠ .fW vs 22 m) (h2:∀vs,p≠ .row vs 22):MN S1 (aK S i o) u l:=by
 cases h with
 | nil=>exact .nil
 | acc h0 h=>exact .acc h0 (by rw [aB (fun c=>by rw [c,hi]at h;injection h with h;exact h1 _ _ h)];exact h)
 | own h0 h=>exact .own h0 (by rw [aB (fun c=>by rw [c,hi]at h;injection h with h;exact h2 _ h)];exact h)
theorem aBP{f r:List Nat}{i:Nat} (h1:i<f.length) (h2:i<r.length):(BR f r).take (i+1)=(BR f r).take i++[com f[i] r[i]]:=by
 have hl:i<(List.zipWith com f r).length:=by rw [uM];omega
 show(List.zipWith com f r).take (i+1)=(List.zipWith com f r).take i++[com f[i] r[i]];rw [KM,aQ hl,Nm];rfl
theorem aDt (hM:1000000<M) (hx:Deep PP bI gM M (n+5) x){S1:Hp}{bv l2 b3 b4 bp:Nat}{fa fb:V}{f r:List Nat} (hf:LP f) (hr:LP r) (RQ:f.length<100000) (Qd:S1 bp=some (.row (pv two) 29)){i:Nat}{S:Hp} (h1:i<f.length) (h2:i<r.length){K:KV} (h:aLW S1 bv l2 b3 b4 bp fa fb f r i S)
 (hK:∀S',aLW S1 bv l2 b3 b4 bp fa fb f r (i+1) S'->K (.bool true) S'):x.R l2 [nu f[i],nu r[i]] S K:=by
 refine hx.round fun y hy=>?_;refine QK (st:= .ready) (pe:=none) h.lo JZ ?_;rw [KA];unfold vR;refine XG h.lo ?_;obtain⟨u,hu,mu⟩:=h.u;have hbz:aK S l2 (.loop [3,10] [.ptr bp 0,.ptr bv 0] 36 (DV PP aR [.r,.r,.l,.r,.d,.d,.d,.r,.l,.r,.d]) (DW PP aR [.r,.r,.l,.r,.d,.d,.d,.r,.l,.r,.d]) (yK PP aR [.r,.r,.l,.r,.d,.d,.d,.r,.l,.r,.d]) .busy none)=aK S l2 (loI bp bv .busy):=rfl;rw [hbz];have k1:bO S1 (aK S l2 (loI bp bv .busy)):=FD h.le h.n2;have kl:aK S l2 (loI bp bv .busy) l2=some (loI bp bv .busy):=aC;have ku:aK S l2 (loI bp bv .busy) bv=some (.row [u] 51):=by rw [aB h.d1];exact hu
 have k3:aK S l2 (loI bp bv .busy) b3=some (.row [fa] 51):=by rw [aB (aO h.d4)];exact h.r3
 have k4:aK S l2 (loI bp bv .busy) b4=some (.row [fb] 51):=by rw [aB (aO h.d5)];exact h.r4
 have km:MN S1 (aK S l2 (loI bp bv .busy)) u ((BR f r).take i):=mu.set h.lo (fun vs m e=>by cases e) (fun vs e=>by cases e);generalize aK S l2 (loI bp bv .busy)=S2 at k1 kl ku k3 k4 km;have rb:=k1 _ _ Qd
 have all:∀{K:KV},bN 12 (.ptr bp 0) S2 K=K (.agg (pv two)) S2:=fun {K}=>by
  unfold bN;simp only [rb];rw [dL (by rw [BP];omega),xG,lQ (by rw [BP];omega)]
 have lu:∀{K:KV},aT (.ptr bv 0) S2 K=K u S2:=cQ ku rfl;have su:∀{p:Prop},aZ u u p=p:=fun {p}=>cR km.same
 have b1:cV GA [(0,1,nu f[i]),(1,1,nu r[i])]=fun K:V->Prop=>K (.agg [nu f[i],nu r[i]]):=by
  funext K
  apply propext;constructor
  ·intro hv;exact hv.2.2.2.2
  ·intro hv;exact⟨rfl,by simp,rfl,by simp [aY],hv⟩
 rw [lu,all,b1];refine aIW hM hy (hf _ (cK h1)) (hr _ (cK h2)) ?_;simp only [lu,su];refine⟨⟨rfl,by simp,fun j hj=>trivial⟩,?_⟩;refine km.app k1 (by rw [mP];omega) fun w S3 l3 p3 m3=>?_;rw [<-aBP h1 h2]at m3;have q:∀{j:Nat} {ob:Ob},S2 j=some ob->(∀vs m,ob≠ .fW vs 22 m)->S3 j=some ob:=fun e xC=>p3 _ _ e xC;have u3:=q ku (fun vs m e=>by cases e);rw [DT u3 (by simp) m3.one];have l4:aK S3 bv (.row ([u].set 0 w) 51) l2=some (loI bp bv .busy):=by rw [aB (aO h.d1)];exact q kl (fun vs m e=>by cases e)
 refine XH l4 (hK _ ⟨FD (FD l3 h.n1) h.n2,h.n1,h.n2,⟨w,by rw [aB h.d1];exact aC,?_⟩,aC,?_,?_,h.d1,h.d2,h.d3,h.d4,h.d5⟩)
 ·exact(m3.set u3 (fun vs m e=>by cases e) (fun vs e=>by cases e)).set l4 (fun vs m e=>by cases e) (fun vs e=>by cases e)
 ·rw [aB (aO h.d4),aB (aO h.d2)];exact q k3 (fun vs m e=>by cases e)
 ·rw [aB (aO h.d5),aB (aO h.d3)];exact q k4 (fun vs m e=>by cases e)
end
set_option maxRecDepth 4000
theorem NL.set{S1 S:Hp}{u:V}{l:List Nat} (h:NL S1 S u l){i:Nat}{o p:Ob} (hi:S i=some p) (h1:∀vs m,p≠ .fW vs 22 m) (h2:∀vs,p≠ .row vs 22):NL S1 (aK S i o) u l:=by
 cases h with
 | val=>exact .val
 | made h=>exact .made (h.set hi h1 h2)
theorem ML.set{S1 S:Hp}{u:V}{l:List (List Nat)} (h:ML S1 S u l){i:Nat}{o p:Ob} (hi:S i=some p) (h0:∀vs m,p≠ .fW vs 51 m) (h1:∀vs m,p≠ .fW vs 22 m) (h2:∀vs,p≠ .row vs 22):ML S1 (aK S i o) u l:=by
 cases h with
 | nil=>exact .nil
 | acc q0 q hl hv=>exact .acc q0 (by rw [aB (fun c=>by rw [c,hi]at q;injection q with q;exact h0 _ _ q)];exact q) hl fun j l e=>by obtain⟨w,a,b⟩:=hv j l e;exact⟨w,a,b.set hi h1 h2⟩
section
variable{M n:Nat}{x:VE}{K:KV}{two:Bool}
structure aLX (SA:Hp) (bp bo b1 b2 l:Nat) (two:Bool) (vf vr:V) (fs rs:List (List Nat)) (i:Nat) (S:Hp):Prop where
 le:bO SA S
 n1:SA bo=none
 n2:SA l=none
 rp:S bp=some (.row (pv two) 29)
 u:∃u,S bo=some (.row [u] 33)/\ML SA S u ((iO fs rs).take i)
 lo:S l=some (loO bp bo .ready)
 r1:S b1=some (.row [vf] 33)
 r2:S b2=some (.row [vr] 33)
 d1:bo≠l
 d2:bo≠b1
 d3:bo≠b2
 d4:l≠b1
 d5:l≠b2
 d6:bo≠bp
 d7:l≠bp
theorem aDu{f r:List (List Nat)}{i:Nat} (h1:i<f.length) (h2:i<r.length):(iO f r).take (i+1)=(iO f r).take i++[BR f[i] r[i]]:=by
 have hl:i<(List.zipWith BR f r).length:=by rw [uM];omega
 show(List.zipWith BR f r).take (i+1)=(List.zipWith BR f r).take i++[BR f[i] r[i]];rw [KM,aQ hl,Nm];rfl
theorem fY{S:Hp}{i j:Nat}{o:Ob} (h1:S i=none) (h2:S j=some o):i≠j:=fun e=>by rw [e,h2]at h1;cases h1
theorem aDv (hM:1000000<M) (hx:Deep PP bI gM M (n+10) x){SA O:Hp}{bp bo b1 b2 l:Nat}{vf vr:V}{fs rs:List (List Nat)} (hf:∀q∈fs,LP q) (hr:∀q∈rs,LP q) (RQ:∀q∈fs,q.length<100000) (XC:fs.length<100000){i:Nat}{S:Hp} (h1:i<fs.length) (h2:i<rs.length) (heq:rs[i].length=fs[i].length){u w:V}{K:KV}
 (h:aLX SA bp bo b1 b2 l two vf vr fs rs i S) (hu:NL O S u fs[i]) (hw:NL O S w rs[i]) (hK:∀S',aLX SA bp bo b1 b2 l two vf vr fs rs (i+1) S'->K (.bool true) S'):x.R l [u,w] S K:=by
 have f64:=hf _ (cK h1);have r64:=hr _ (cK h2);have fl:=RQ _ (cK h1);refine hx.round fun y hy=>?_;refine QK (st:= .ready) (pe:=none) h.lo UY ?_;rw [UZ];unfold DX;refine XG h.lo ?_;obtain⟨v,hv,mv⟩:=h.u;have hbz:aK S l (.loop [3,7] [.ptr bp 0,.ptr bo 0] 36 (DV PP aR [.r,.r,.l,.r,.d]) (DW PP aR [.r,.r,.l,.r,.d]) (yK PP aR [.r,.r,.l,.r,.d]) .busy none)=aK S l (loO bp bo .busy):=rfl;rw [hbz];have k1:bO SA (aK S l (loO bp bo .busy)):=FD h.le h.n2;have kl:aK S l (loO bp bo .busy) l=some (loO bp bo .busy):=aC;have ko:aK S l (loO bp bo .busy) bo=some (.row [v] 33):=by rw [aB h.d1];exact hv
 have kp:aK S l (loO bp bo .busy) bp=some (.row (pv two) 29):=by rw [aB (aO h.d7)];exact h.rp
 have k3:aK S l (loO bp bo .busy) b1=some (.row [vf] 33):=by rw [aB (aO h.d4)];exact h.r1
 have k4:aK S l (loO bp bo .busy) b2=some (.row [vr] 33):=by rw [aB (aO h.d5)];exact h.r2
 have km:ML SA (aK S l (loO bp bo .busy)) v ((iO fs rs).take i):=mv.set h.lo (fun vs m e=>by cases e) (fun vs m e=>by cases e) (fun vs e=>by cases e);have hu:=hu.set (o:=loO bp bo .busy) h.lo (fun vs m e=>by cases e) (fun vs e=>by cases e);have hw:=hw.set (o:=loO bp bo .busy) h.lo (fun vs m e=>by cases e) (fun vs e=>by cases e);generalize aK S l (loO bp bo .busy)=S1 at k1 kl ko kp k3 k4 km hu hw;refine cB rfl fun bv hbv=>?_;have fG:bO S1 (aK S1 bv (.row [.nil] 51)):= .aI hbv;have rv:aK S1 bv (.row [.nil] 51) bv=some (.row [.nil] 51):=aC;generalize aK S1 bv (.row [.nil] 51)=S2 at fG rv;have hu2:=hu.up fG;have hw2:=hw.up fG;refine aIX hy hu2.one hw2.one fun b3 b4 S3 n3 n4 d34 pR r3 r4=>?_;have aOF:=fG.trans pR;have l3:S3 l=some (loO bp bo .busy):=aOF _ _ kl;have inl:∀{p:Prop},SP l S3 p=p:=fun {p}=>by unfold SP;rw [l3];rfl
 rw [inl];refine QL fun l2 DK=>?_;have rv3:=pR _ _ rv;have hlo:aK S3 l2 (.loop [3,10] [.ptr bp 0,.ptr bv 0] 36 (DV PP aR [.r,.r,.l,.r,.d,.d,.d,.r,.l,.r,.d]) (DW PP aR [.r,.r,.l,.r,.d,.d,.d,.r,.l,.r,.d]) (yK PP aR [.r,.r,.l,.r,.d,.d,.d,.r,.l,.r,.d]) .ready none)=aK S3 l2 (loI bp bv .ready):=rfl;rw [hlo]
 have q0:aLW S1 bv l2 b3 b4 bp u w fs[i] rs[i] 0 (aK S3 l2 (loI bp bv .ready)):=
  ⟨aOF.trans (.aI DK),hbv,aOF.none DK,⟨.nil,by rw [aB (aO (fY DK rv3))];exact rv3,.nil⟩,aC,by rw [aB (aO (fY DK r3))];exact r3,by rw [aB (aO (fY DK r4))];exact r4,
   aO (fY DK rv3),aO (fY n3 rv),aO (fY n4 rv),fY DK r3,fY DK r4⟩
 refine aIZ (n:=n+6) hM hy heq (by omega) (Inv:=aLW S1 bv l2 b3 b4 bp u w fs[i] rs[i]) (fun j S q=>⟨q.r3,q.r4,(hu.up q.le).nv,(hw.up q.le).nv⟩) hw.same (fun z hz j S a b K q hk=>aDt (n:=n+3) (two:=two) hM hz f64 r64 fl kp a b q hk) q0 fun S4 q4=>?_;obtain⟨u4,ru4,m4⟩:=q4.u;have aQB:(BR fs[i] rs[i]).length=fs[i].length:=by unfold BR;rw [uM];omega
 rw [lQ (by omega)]at m4;refine XI q4.lo (by simp) ?_;rw [Fo];have hex:∃ob,(∀vs m,ob≠ .fW vs 22 m)/\aK S4 l2 (.loop [3,10] [.ptr bp 0,.ptr bv 0] 36 (DV PP aR [.r,.r,.l,.r,.d,.d,.d,.r,.l,.r,.d]) (DW PP aR [.r,.r,.l,.r,.d,.d,.d,.r,.l,.r,.d]) (yK PP aR [.r,.r,.l,.r,.d,.d,.d,.r,.l,.r,.d]) .exhausted none)=aK S4 l2 ob:=⟨_,fun vs m e=>(by cases e),rfl⟩;obtain⟨ob,_,hex⟩:=hex;rw [hex];have DY:bO S1 (aK S4 l2 ob):=FD q4.le q4.n2;have ru5:aK S4 l2 ob bv=some (.row [u4] 51):=by rw [aB q4.d1];exact ru4
 have m5:MN S1 (aK S4 l2 ob) u4 (BR fs[i] rs[i]):=m4.set q4.lo (fun vs m e=>by cases e) (fun vs e=>by cases e);generalize aK S4 l2 ob=S5 at DY ru5 m5;rw [cQ (DY _ _ ko) rfl,cQ ru5 rfl];refine(km.up DY).app (k1.trans DY) (by rw [mP];omega) (.made (m5.base k1)) fun u6 S6 NW p6 m6 o6=>?_;rw [<-aDu h1 h2]at m6;have q:∀{j:Nat} {o:Ob},S5 j=some o->(∀vs m,o≠ .fW vs 51 m)->S6 j=some o:=fun e xC=>p6 _ _ e xC;have o6':=q (DY _ _ ko) (fun vs m e=>by cases e);have l6:=q (DY _ _ kl) (fun vs m e=>by cases e);rw [DT o6' (by simp) o6];have l7:aK S6 bo (.row ([v].set 0 u6) 33) l=some (loO bp bo .busy):=by rw [aB (aO h.d1)];exact l6
 refine XH l7 (hK _ ⟨FD (FD NW h.n1) h.n2,h.n1,h.n2,?_,⟨u6,by rw [aB h.d1];exact aC,?_⟩,aC,?_,?_,h.d1,h.d2,h.d3,h.d4,h.d5,h.d6,h.d7⟩)
 ·rw [aB (aO h.d7),aB (aO h.d6)];exact q (DY _ _ kp) (fun vs m e=>by cases e)
 ·exact(m6.set o6' (fun vs m e=>by cases e) (fun vs m e=>by cases e) (fun vs e=>by cases e)).set l7 (fun vs m e=>by cases e) (fun vs m e=>by cases e) (fun vs e=>by cases e)
 ·rw [aB (aO h.d4),aB (aO h.d2)];exact q (DY _ _ k3) (fun vs m e=>by cases e)
 ·rw [aB (aO h.d5),aB (aO h.d3)];exact q (DY _ _ k4) (fun vs m e=>by cases e)
theorem aI1 (hM:1000000<M) (hx:Deep PP bI gM M (n+15) x){SA O:Hp}{vf vr:V}{fs rs:List (List Nat)} (hf:∀q∈fs,LP q) (hr:∀q∈rs,LP q) (RQ:∀q∈fs,q.length<100000) (XC:fs.length<100000) (hlen:rs.length=fs.length) (heq:∀i (h1:i<fs.length) (h2:i<rs.length),rs[i].length=fs[i].length)
 (mf:RL O SA vf fs) (mr:RL O SA vr rs) (hK:∀u S',bO SA S'->ML SA S' u (iO fs rs)->bD u S' K):x.call aR [.agg (pv two),vf,vr] SA K:=by
 refine hx.call rfl fun y hy=>?_;rw [Lj];unfold TW;refine cA jV fun bp Qd=>?_;have dF:bO SA (aK SA bp (.row (pv two) 29)):= .aI Qd;have rp:aK SA bp (.row (pv two) 29) bp=some (.row (pv two) 29):=aC;generalize aK SA bp (.row (pv two) 29)=S1 at dF rp;refine cB rfl fun bo hbo=>?_;have fG:bO S1 (aK S1 bo (.row [.nil] 33)):= .aI hbo;have ro:aK S1 bo (.row [.nil] 33) bo=some (.row [.nil] 33):=aC;generalize aK S1 bo (.row [.nil] 33)=S2 at fG ro;refine aIY hy mf.one mr.one fun b1 b2 S3 n1 n2 d12 pR r1 r2=>?_;refine QL fun l hl=>?_;have hlo:aK S3 l (.loop [3,7] [.ptr bp 0,.ptr bo 0] 36 (DV PP aR [.r,.r,.l,.r,.d]) (DW PP aR [.r,.r,.l,.r,.d]) (yK PP aR [.r,.r,.l,.r,.d]) .ready none)=aK S3 l (loO bp bo .ready):=rfl;rw [hlo];have ro3:=pR _ _ ro;have Lk:=pR _ _ (fG _ _ rp);have EV:=(dF.trans fG).trans pR
 have q0:aLX SA bp bo b1 b2 l two vf vr fs rs 0 (aK S3 l (loO bp bo .ready)):=
  ⟨EV.trans (.aI hl),dF.none hbo,EV.none hl,by rw [aB (aO (fY hl Lk))];exact Lk,⟨.nil,by rw [aB (aO (fY hl ro3))];exact ro3,.nil⟩,aC,by rw [aB (aO (fY hl r1))];exact r1,by rw [aB (aO (fY hl r2))];exact r2,
   aO (fY hl ro3),aO (fY n1 ro),aO (fY n2 ro),fY hl r1,fY hl r2,fY hbo rp,fY hl Lk⟩
 refine aI0 (n:=n+11) hM hy hlen (by omega) (Inv:=aLX SA bp bo b1 b2 l two vf vr fs rs) (Oa:=O) (fun j S q=>⟨q.r1,q.r2,mf.up q.le,mr.up q.le⟩) (fun z hz j S a b u w K q hu hw hk=>aDv (n:=n+3) hM hz hf hr RQ XC a b (heq j a b) q hu hw hk) q0 fun S4 q4=>?_;obtain⟨u4,ru4,m4⟩:=q4.u;have aQB:(iO fs rs).length=fs.length:=by unfold iO;rw [uM];omega
 rw [lQ (by omega)]at m4;refine XI q4.lo (by simp) ?_;rw [Fo];obtain⟨ob,hex⟩:∃ob,aK S4 l (.loop [3,7] [.ptr bp 0,.ptr bo 0] 36 (DV PP aR [.r,.r,.l,.r,.d]) (DW PP aR [.r,.r,.l,.r,.d]) (yK PP aR [.r,.r,.l,.r,.d]) .exhausted none)=aK S4 l ob:=⟨_,rfl⟩;rw [hex];have DY:bO SA (aK S4 l ob):=FD q4.le q4.n2;have ru5:aK S4 l ob bo=some (.row [u4] 33):=by rw [aB q4.d1];exact ru4
 have m5:ML SA (aK S4 l ob) u4 (iO fs rs):=m4.set q4.lo (fun vs m e=>by cases e) (fun vs m e=>by cases e) (fun vs e=>by cases e);rw [cQ ru5 rfl];exact hK u4 _ DY m5
theorem aOC (hM:1000000<M) (hx:Deep PP bI gM M (n+15) x){SA O:Hp}{vf vr:V}{fs rs:List (List Nat)} (hf:∀q∈fs,LP q) (hr:∀q∈rs,LP q) (RQ:∀q∈fs,q.length<100000) (XC:fs.length<100000) (hlen:rs.length=fs.length) (heq:∀i (h1:i<fs.length) (h2:i<rs.length),rs[i].length=fs[i].length)
 (mf:ML O SA vf fs) (mr:ML O SA vr rs) (hK:∀u S',bO SA S'->ML SA S' u (iO fs rs)->K u S'):x.call aR [.agg (pv two),vf,vr] SA K:=
 aI1 hM hx hf hr RQ XC hlen heq (.ml mf) (.ml mr) fun u S' h m=>aL (hK u S' h m)
theorem aLY (hM:1000000<M) (hx:Deep PP bI gM M (n+15) x){SA O:Hp}{vf vr:V}{fs rs:List (List Nat)} (hf:∀q∈fs,LP q) (hr:∀q∈rs,LP q) (RQ:∀q∈fs,q.length<100000) (XC:fs.length<100000) (hlen:rs.length=fs.length) (heq:∀i (h1:i<fs.length) (h2:i<rs.length),rs[i].length=fs[i].length)
 (mf:RL O SA vf fs) (mr:RL O SA vr rs) (hK:∀t,K (.list t ((iO fs rs).map fun l=> .list (jK l) l.length) (iO fs rs).length) SA):x.call aR [.agg (pv two),vf,vr] SA K:=
 aI1 hM hx hf hr RQ XC hlen heq mf mr fun u S' h m=>gJ h m.Cm hK
end
end Go.Am
set_option maxRecDepth 4000
namespace Go.Am
open Go.Mq
theorem MN.but{S1 S S':Hp}{u:V}{l:List Nat}{t:Nat} (h:MN S1 S u l) (hs:∀j o,j≠t->S j=some o->S' j=some o){p:Ob} (ht:S t=some p) (h1:∀vs m,p≠ .fW vs 22 m) (h2:∀vs,p≠ .row vs 22):MN S1 S' u l:=by
 cases h with
 | nil=>exact .nil
 | acc h0 h=>exact .acc h0 (hs _ _ (fun c=>by rw [c,ht]at h;injection h with h;exact h1 _ _ h) h)
 | own h0 h=>exact .own h0 (hs _ _ (fun c=>by rw [c,ht]at h;injection h with h;exact h2 _ h) h)
def pS (S0 S:Hp) (t:Nat):Hp:=fun i=>if i=t then S t else S0 i
theorem XJ{S0 S:Hp}{t:Nat}:pS S0 S t t=S t:=aJ rfl
theorem AF{S0 S:Hp}{t i:Nat} (h:i≠t):pS S0 S t i=S0 i:=aG h
theorem Iv{S0 S:Hp}{t:Nat} (h:bO (del S0 t) S):bO (pS S0 S t) S:=fun i o e=>by
 by_cases c:i=t
 ·rw [c,XJ]at e;rw [c];exact e
 ·rw [AF c]at e;exact h i o (by unfold del;rw [aG c];exact e)
theorem SN{S:Hp}{i t:Nat} (h:i≠t):del S t i=S i:=aG h
section
variable{M n t d:Nat}{x:VE}{K:KV}{s:BitVec 64}{ah:List Nat}
theorem Wa{S:Hp}{two:Bool} (hx:Deep PP bI gM M (n+1) x) (hK:K (ni 2) S):x.call DZ [.agg (pv two)] S K:=by
 refine hx.call rfl fun y hy=>?_;rw [Qg];unfold XK;refine cA jV fun b hb=>?_;rw [aU,cQ (o:=7) aC rfl,aU,cQ (o:=8) aC rfl,bE (by decide),Cn (by decide)];exact bL (.aI hb) hK
def aI2 (S0 S:Hp) (t:Nat) (s:BitVec 64) (ah:List Nat) (d:Nat):Prop:=∃w,S t=some (.row [vb s,w,ni d] 140)/\Ah (del S0 t) w ah
theorem aQC (hM:2<M) (hx:Deep PP bI gM M (n+2) x){S0 S:Hp} (h:aI2 S0 S t s ah d) (hle:bO (del S0 t) S) (hd:d<1000000) (hK:∀S' a s' TX,Cp S S' t->bO (del S0 t) S'->aI2 S0 S' t s' TX (d+1)->(∀k,drawn (k+1) ah s=a::drawn k TX s')->a<11->K (nu a) S'):x.call dM [.ptr t 0,nu 11] S K:=by
 obtain⟨w,h1,h2⟩:=h
 have leT:∀{S':Hp},Cp S S' t->bO (del S0 t) S':=fun {S'} b i o e=>by
  have hi:i≠t:=fun c=>by rw [c,LQ]at e;cases e
  rw [b i hi];exact hle i o e
 cases ah with
 | nil=>
  refine aOE hM hx ⟨w,h1,h2.up hle⟩ hd fun S' b tp=>hK S' _ _ _ b (leT b) ?_ (fun k=>rfl) (QI 1 [] s _ (.head _));obtain⟨w',q1,q2⟩:=tp;generalize hz:([]:List Nat)=z at q2;cases q2 with
  | nil=>exact⟨_,q1,.nil⟩
  | emp=>exact⟨_,q1,.emp⟩
  | aDr=>exact⟨_,q1,.aDr⟩
  | acc h h0=>subst hz;simp at h0
  | ID h h0 hv=>subst hz;simp at h0
 | cons a ah=>
  obtain⟨⟨p,hp,RD⟩,w',XC,hw'⟩:=h2.head;have hw0:Ah (del S0 t) w' ah:=hw' (.refl _);refine hx.call rfl fun y hy=>?_;rw [QH];unfold GC;refine aFg aNm ?_;have h1':aK S t (.row [vb s,w,ni (d+1)] 140) t=some (.row [vb s,w,ni (d+1)] 140):=aC;have dF:bO (del S0 t) (aK S t (.row [vb s,w,ni (d+1)] 140)):=FD hle LQ;have hw1:Ah (aK S t (.row [vb s,w,ni (d+1)] 140)) w (a::ah):=h2.up dF;obtain⟨⟨p1,hp1,aSq⟩,w1,aTi,aTj⟩:=hw1.head;rw [aW,dA,aU,cQ h1 rfl,bE (by omega),dA,aU,DT h1 (by simp) rfl];show oW PP (.ptr t 0) (fun v7=>aP 1 v7 fun v8=>aT v8 (aK S t (.row [vb s,w,ni (d+1)] 140)) _);rw [dA,aU,cQ h1' rfl,hw1.len,LR,bF (by simp),bQ,dA,aU,cQ h1' rfl,hp1,aSq,dA,aU,cQ h1' rfl]
  have aOG:∀{k:V->Prop},k w'->LU 22 1 w (some (ni 1)) none none (aK S t (.row [vb s,w,ni (d+1)] 140)) k:=fun {k} hk=>by
   have hh:=XC (k:=k) hk;cases h2 with
   | acc h h0=>
    have hh':=dF _ _ h;unfold LU at hh ⊢;simp only [h]at hh;simp only [hh'];exact hh
   | ID h h0 hv=>
    have hh':=dF _ _ h;unfold LU at hh ⊢;simp only [h]at hh;simp only [hh'];exact hh
  refine aOG ?_;rw [dA,aU,DT h1' (by simp) hw0.one];refine Zn hy ?_;have bb:Cp S (aK (aK S t (.row [vb s,w,ni (d+1)] 140)) t (.row ([vb s,w,ni (d+1)].set 1 w') 140)) t:=fun i hi=>by rw [dU,aB hi]
  refine aL (hK _ _ s ah bb (leT bb) ⟨w',by rw [dU];exact aC,hw0⟩ (fun k=>rfl) (iY _ (by decide)))
theorem MN.pS{S0 S:Hp}{v:V}{l:List Nat} (h:MN (del S0 t) S v l){p:Ob} (ht:S t=some p) (h1:∀vs m,p≠ .fW vs 22 m) (h2:∀vs,p≠ .row vs 22):MN (pS S0 S t) S v l:=by
 have go:∀{i:Nat} {o:Ob},del S0 t i=none->S i=some o->(∀vs m,p≠ .fW vs 22 m)->o≠p->Go.Am.pS S0 S t i=none:=fun {i o} h0 h _ oJ=>by
  have hi:i≠t:=fun c=>by rw [c,ht]at h;injection h with h;exact oJ h.symm
  rw [AF hi];rw [SN hi]at h0;exact h0
 cases h with
 | nil=>exact .nil
 | acc h0 h=>exact .acc (go h0 h h1 (fun e=>h1 _ _ e.symm)) h
 | own h0 h=>exact .own (go h0 h h1 (fun e=>h2 _ e.symm)) h
end
end Go.Am
set_option maxRecDepth 4000
namespace Go.Am
section
variable{S0 S S':Hp}{K:KV}{v w u:V}{l:List Nat}{ls:List (List Nat)}{t d:Nat}{s:BitVec 64}{ah:List Nat}
theorem ML.but (h:ML S0 S v ls) (hs:∀j o,j≠t->S j=some o->S' j=some o){vs:List V}{q:Nat} (ht:S t=some (.row vs q)) (hq:q≠22):ML S0 S' v ls:=by
 cases h with
 | nil=>exact .nil
 | acc h0 h hl hv=>
  refine .acc h0 (hs _ _ (fun c=>by rw [c,ht]at h;cases h) h) hl fun j l e=>?_;obtain⟨w,a,b⟩:=hv j l e;exact⟨w,a,b.but hs (fun vs m c=>by rw [ht]at c;cases c) (fun vs c=>by rw [ht]at c;injection c with c;injection c with c1 c2;exact hq c2)⟩
theorem ML.aQt (h:ML S0 S v ls) (hs:bO S0 S) (hl:ls.length<=1000000) (hw:NL S0 S w l)
 (hk:∀u S',bO S0 S'->(∀j o,S j=some o->(∀m,v≠ .acc j m)->S' j=some o)->ML S0 S' u (ls++[l])->(∀j m,u= .acc j m->S j=none\/∃m',v= .acc j m')->K u S'):aS 51 1 cU [(0,1,w)] S fun v2 S=>jT 51 1 24 v v2 S K:=by
 have hc:∀{p:List V->Prop},vZ w p=p [w]:=fun {p}=>by
  have:=hw.one;cases w<;>first | rfl | cases this
 have hz:LO cU=some [.nil]:=rfl;unfold aS rL;rw [hz];show iG [(0,1,w)] [.nil] _;unfold iG;rw [hc];refine⟨rfl,by simp,?_⟩;unfold iG;intro j hj;have hj0:S0 j=none:=hs.none hj;have xB:bO S (aK S j (.row [w] 51)):= .aI hj;show jT 51 1 24 v (.own j 0 1 1) (aK S j (.row (aY 0 [w] [.nil]) 51)) K;have e:aY 0 [w] [V.nil]=[w]:=rfl;rw [e];refine LN (m:=1) aC rfl ?_;refine⟨by simp [hw.one],?_⟩;have hwj:=hw.up xB;cases h with
 | nil=>
  refine⟨by decide,fun i hi=>?_⟩;have tZ:bO (aK S j (.row [w] 51)) (aK (aK S j (.row [w] 51)) i (.fW [w] 51 1)):= .aI hi;refine hk _ _ ((hs.trans xB).trans tZ) (fun q o e _=>tZ _ _ (xB _ _ e)) (.acc (ls:=[l]) ((hs.trans xB).none hi) aC rfl fun q l' e=>?_) fun q m e=>by injection e with e1 e2;subst e1;exact .inl (aIJ hi).2
  match q,e with
  | 0,e=>injection e with e;subst e;exact⟨w,rfl,hwj.up tZ⟩
  | q+1,e=>cases e
 | @acc i vs _ h0 h DK hv=>
  have oJ:j≠i:=fun e=>by rw [e,h]at hj;cases hj
  have h':aK S j (.row [w] 51) i=some (.fW vs 51 ls.length):=by rw [aB (aO oJ)];exact h
  simp only [h'];refine⟨trivial,trivial,by omega,by omega,?_⟩;have el:ls.length+(0+1)=(ls++[l]).length:=by simp
  rw [el];have tZ:∀q o,q≠i->S q=some o->aK (aK S j (.row [w] 51)) i (.fW (vs++[w]) 51 (ls++[l]).length) q=some o:=fun q o hq e=>by rw [aB hq];exact xB _ _ e
  have hn1:∀vs m,S i≠some (.fW vs 22 m):=fun vs m c=>by rw [h]at c;cases c
  have hn2:∀vs,S i≠some (.row vs 22):=fun vs c=>by rw [h]at c;cases c
  refine hk _ _ (fun q o e=>tZ q o (fun c=>by rw [c,h0]at e;cases e) (hs _ _ e)) (fun q o e xC=>tZ q o (fun c=>xC ls.length (by subst c;rfl)) e) (.acc h0 aC (by simp [DK]) fun q l' e=>?_) fun q m e=>by injection e with e1 e2;subst e1;exact .inr ⟨_,rfl⟩
  rcases BF q ls.length with hq | hq
  ·rw [gI hq]at e
   obtain⟨u,a,b⟩:=hv q l' e;exact⟨u,by rw [gI (by omega)];exact a,b.but tZ hn1 hn2⟩
  ·have hq':q=ls.length:=by
    have:=(List.getElem?_eq_some_iff.1 e).1;simp at this;omega
   subst hq';simp at e;subst e;exact⟨w,by rw [kI (by omega),DK];simp,hw.but tZ hn1 hn2⟩
theorem ML.lT (h:ML S0 S v ls) (hw:∀m,u≠ .acc t m) (hs:∀j o,S j=some o->(∀m,w≠ .acc j m)->S' j=some o) (hd:∀j m m',v= .acc j m->w≠ .acc j m') (ho:∀j vs m,w= .acc j m->S j≠some (.fW vs 22 m)/\S j≠some (.row vs 22)) (hww:∀j m,w= .acc j m->∃vs n,S j=some (.fW vs 51 n)):ML S0 S' v ls:=by
 cases h with
 | nil=>exact .nil
 | acc h0 h hl hv=>
  refine .acc h0 (hs _ _ h (fun m=>hd _ _ m rfl)) hl fun j l e=>?_;obtain⟨w',a,b⟩:=hv j l e;refine⟨w',a,?_⟩;cases b with
  | val=>exact .val
  | made b=>
   refine .made ?_;cases b with
   | nil=>exact .nil
   | acc g0 g=>exact .acc g0 (hs _ _ g fun m c=>by obtain⟨vs,n,q⟩:=hww _ _ c;rw [q]at g;injection g with g;injection g with _ g _;cases g)
   | own g0 g=>exact .own g0 (hs _ _ g fun m c=>by obtain⟨vs,n,q⟩:=hww _ _ c;rw [q]at g;cases g)
theorem ML.ob (h:ML S0 S v ls):∀j m,v= .acc j m->S0 j=none/\∃vs n,S j=some (.fW vs 51 n):=by
 intro j m e;cases h with
 | nil=>cases e
 | acc h0 h hl hv=>injection e with e1 e2;subst e1;exact⟨h0,_,_,h⟩
theorem aLR (hw:fR w=true):aS 51 1 cU [(0,1,w)] S fun _ _=>True:=by
 have hc:∀{p:List V->Prop},vZ w p=p [w]:=fun {p}=>by cases w<;>first | rfl | cases hw
 have hz:LO cU=some [.nil]:=rfl;unfold aS rL;rw [hz];show iG [(0,1,w)] [.nil] _;unfold iG;rw [hc];refine⟨rfl,by simp,?_⟩;unfold iG;exact fun _ _=>trivial
end
def fsR (T:Nat):List Nat->List Nat->List (List Nat)
 | [],_=>[]
 | x::l,D=>(x%11::D.take T)::fsR T l (D.drop (T+1+T))
def rsR (T:Nat):Nat->List Nat->List (List Nat)
 | 0,_=>[]
 | k+1,D=>(D.getD T 0%11::(D.drop (T+1)).take T)::rsR T k (D.drop (T+1+T))
theorem aSp{T a:Nat}{A B C:List Nat} (hA:A.length=T) (hB:B.length=T):(A++a::(B++C)).take T=A/\(A++a::(B++C)).getD T 0=a/\((A++a::(B++C)).drop (T+1)).take T=B/\(A++a::(B++C)).drop (T+1+T)=C:=by
 subst hA;have h1:(A++a::(B++C)).drop (A.length+1)=B++C:=by rw [<-Bn,List.drop_left];rfl
 refine⟨List.take_left,by simp,by rw [h1,<-hB,List.take_left],by rw [<-Bn,h1,<-hB,List.drop_left]⟩
section
variable{M n t:Nat}{x:VE}{K:KV}{two:Bool}
end
set_option maxRecDepth 4000
def pvs:List (Nat×Nat)->List V
 | []=>[]
 | p::l=>nu p.1::nu p.2::pvs l
def pds:List (Nat×Nat)->List Dt
 | []=>[]
 | p::l=>nd p.1::nd p.2::pds l
theorem Na (l:List (Nat×Nat)):(pvs l).length=l.length*2:=by induction l with | nil=>rfl | cons a l ih=>show(pvs l).length+2=_;rw [ih,oU];omega
theorem aE6 (l:List (Nat×Nat)):(pds l).length=l.length*2:=by induction l with | nil=>rfl | cons a l ih=>show(pds l).length+2=_;rw [ih,oU];omega
theorem aLS (l m:List (Nat×Nat)):pvs (l++m)=pvs l++pvs m:=by induction l with | nil=>rfl | cons a l ih=>show _::_::pvs (l++m)=_;rw [ih];rfl
theorem aQu{S0 S:Hp} (l:List (Nat×Nat)):∀(j:Nat) (v:V) (d:Dt),(pvs l)[j]? =some v->(pds l)[j]? =some d->Fi S0 S v d:=by
 induction l with
 | nil=>intro j v d a b;cases a
 | cons p l ih=>
  intro j v d a b
  match j with
  | 0=>injection a with a;injection b with b;subst a b;exact .int
  | 1=>injection a with a;injection b with b;subst a b;exact .int
  | j+2=>exact ih j v d a b
inductive PN (S0 S:Hp):V->List (Nat×Nat)->Prop
 | nil:PN S0 S .nil []
 | acc {i:Nat} {l:List (Nat×Nat)} (h0:S0 i=none) (h:S i=some (.fW (pvs l) 145 l.length)):PN S0 S (.acc i l.length) l
section
variable{S0 S1 S S':Hp}{K:KV}{v w:V}{l:List (Nat×Nat)}
theorem PN.one (h:PN S0 S v l):fR v=true:=by cases h<;>rfl
theorem PN.same (h:PN S0 S v l):DS v=true:=by cases h<;>rfl
theorem PN.up (h:PN S0 S v l) (hle:bO S S'):PN S0 S' v l:=by cases h with | nil=>exact .nil | acc h0 h=>exact .acc h0 (hle _ _ h)
theorem PN.base (h:PN S1 S v l) (hle:bO S0 S1):PN S0 S v l:=by cases h with | nil=>exact .nil | acc h0 h=>exact .acc (hle.none h0) h
theorem PN.but (h:PN S0 S v l){o:Nat} (hs:∀j p,j≠o->S j=some p->S' j=some p){vs:List V}{q:Nat} (ho:S o=some (.row vs q)):PN S0 S' v l:=by
 cases h with
 | nil=>exact .nil
 | acc h0 h=>exact .acc h0 (hs _ _ (fun c=>by rw [c,ho]at h;cases h) h)
theorem PN.Cm (h:PN S0 S v l):Fi S0 S v (.list (pds l) l.length):=by
 cases h with
 | nil=>exact .nil
 | acc h0 h=>exact .acc h h0 (by rw [Na,aE6]) (aQu l)
theorem PN.app (h:PN S0 S v l) (hs:bO S0 S) (hl:l.length<=1000000){a b:Nat}
 (hk:∀u S',bO S0 S'->(∀j o,S j=some o->(∀vs m,o≠ .fW vs 145 m)->S' j=some o)->PN S0 S' u (l++[(a,b)])->K u S'):aS 145 1 GA [(0,2,.agg [nu a,nu b])] S fun v24 S=>jT 145 2 16 v v24 S K:=by
 refine HP (z:=[nu 0,nu 0]) rfl rfl rfl rfl fun j hj=>?_;have hj0:S0 j=none:=hs.none hj;have xB:bO S (aK S j (.row [nu a,nu b] 145)):= .aI hj;refine LN (m:=1) aC rfl ?_;refine⟨rfl,?_⟩;cases h with
 | nil=>
  refine⟨by decide,fun i hi=>?_⟩;have tZ:bO (aK S j (.row [nu a,nu b] 145)) (aK (aK S j (.row [nu a,nu b] 145)) i (.fW [nu a,nu b] 145 1)):= .aI hi;exact hk _ _ ((hs.trans xB).trans tZ) (fun q o e _=>tZ _ _ (xB _ _ e)) (.acc (l:=[(a,b)]) ((hs.trans xB).none hi) aC)
 | @acc i _ h0 h=>
  have oJ:j≠i:=fun e=>by rw [e,h]at hj;cases hj
  have h':aK S j (.row [nu a,nu b] 145) i=some (.fW (pvs l) 145 l.length):=by rw [aB (aO oJ)];exact h
  simp only [h'];refine⟨trivial,trivial,Na l,by omega,?_⟩;have el:l.length+(0+1)=(l++[(a,b)]).length:=by simp
  rw [el];have tZ:∀q o,q≠i->S q=some o->aK (aK S j (.row [nu a,nu b] 145)) i (.fW (pvs l++[nu a,nu b]) 145 (l++[(a,b)]).length) q=some o:=fun q o hq e=>by rw [aB hq];exact xB _ _ e
  exact hk _ _ (fun q o e=>tZ q o (fun c=>by rw [c,h0]at e;cases e) (hs _ _ e)) (fun q o e xC=>tZ q o (fun c=>by subst c;rw [h]at e;injection e with e;exact xC _ _ e.symm) e) (.acc h0 (by rw [aLS];exact aC))
theorem aIK{a b:Nat}:aS 145 1 GA [(0,2,.agg [nu a,nu b])] S fun _ _=>True:=HP (z:=[nu 0,nu 0]) rfl rfl rfl rfl fun _ _=>trivial
theorem aIL{a b:Nat}{k:V->Prop}:cV GA [(0,1,nu a),(1,1,nu b)] k=k (.agg [nu a,nu b]):=propext ⟨fun h=>h.2.2.2.2,fun h=>⟨rfl,Nat.le_of_lt (Wx rfl),rfl,bR _,h⟩⟩
end
theorem ML.base{S0 S1 S:Hp}{w:V}{l:List (List Nat)} (h:ML S1 S w l) (hle:bO S0 S1):ML S0 S w l:=by
 cases h with
 | nil=>exact .nil
 | acc h0 q hl hv=>
  refine .acc (hle.none h0) q hl fun j l e=>?_;obtain⟨w,a,b⟩:=hv j l e;refine⟨w,a,?_⟩;cases b with
  | val=>exact .val
  | made b=>exact .made (b.base hle)
def shL (fs rs:List (List Nat)) (X:Nat):List (Nat×Nat):=List.zipWith (fun f r=>(ev 11 f X,ev 11 r X)) fs rs
theorem aIM{fs rs:List (List Nat)}{X i:Nat} (h1:i<fs.length) (h2:i<rs.length):(shL fs rs X).take (i+1)=(shL fs rs X).take i++[(ev 11 fs[i] X,ev 11 rs[i] X)]:=by
 have hl:i<(List.zipWith (fun f r=>(ev 11 f X,ev 11 r X)) fs rs).length:=by rw [uM];omega
 unfold shL;rw [KM,aQ hl,Nm];rfl
section
variable{M n:Nat}{x:VE}{K:KV}{two:Bool}
theorem aIN (hM:1000000<M) (hx:Deep PP bI gM M (n+2) x){A SLz O:Hp}{vf vr:V}{fs rs:List (List Nat)} (mf:ML A SLz vf fs) (mr:ML A SLz vr rs) (hf:∀q∈fs,LP q) (hr:∀q∈rs,LP q) (RQ:∀q∈fs,q.length<1000) (hrl:∀q∈rs,q.length<1000) (hlen:rs.length=fs.length) (XC:fs.length<1000)
 {bp o N i m0:Nat} {ws:List V} (hN:N<1000) (hi:i<N) (hws:ws.length=N) (Qd:SLz bp=some (.row (pv two) 29)) (ho:SLz o=none) (hL:bO SLz O)
 (hK:∀S w,bO (del O o) S->S o=some (.row (ws.set i w) 82)->PN (del O o) S w (shL fs rs (i+1))->gF x m0 (.ptr bp 0) vf vr (.own o 0 N N) (ni N) (ni (i+1)) S K):
 ∀(r k m:Nat) (S:Hp) (w:V),k+r=fs.length->r<m->bO (del O o) S->S o=some (.row (ws.set i w) 82)->PN (del O o) S w ((shL fs rs (i+1)).take k)->
  jD x m m0 (.ptr bp 0) vf vr (.own o 0 N N) (ni i) (ni N) (ni i) (ni fs.length) (ni k) S K:=by
 have hL':bO SLz (del O o):=fun j p e=>by
  have hj:j≠o:=fun c=>by rw [c,ho]at e;cases e
  rw [SN hj];exact hL j p e
 intro r;induction r with
 | zero=>
  intro k m S w hk hm hle hso hpn;obtain⟨m,rfl⟩:=bG (show m≠0 by omega);rw [sK];unfold lU;refine aE ?_;rw [aN,iN (by omega),aW,bE (by omega)];have hl:(shL fs rs (i+1)).length<=k:=by unfold shL;rw [uM];omega
  rw [lQ hl]at hpn;exact hK S w hle hso hpn
 | succ r ih=>
  intro k m S w hk hm hle hso hpn;obtain⟨m,rfl⟩:=bG (show m≠0 by omega);rw [sK];unfold lU;refine aE ?_;have Yb:k<fs.length:=by omega
  have vL:k<rs.length:=by omega
  have hLS:=hL'.trans hle;have mf':=mf.up hLS;have mr':=mr.up hLS;obtain⟨p1,u1,hp1,hl1,q1⟩:=mf'.at (aQ Yb);obtain⟨p2,u2,Kj,DK,q2⟩:=mr'.at (aQ vL);have hl1:=fun K=>hl1 S (.refl S) K;have DK:=fun K=>DK S (.refl S) K;have hb:=hLS _ _ Qd;have e1:(pv two)[1]? =some (nu 11):=rfl
  have hio:∀{k:V->Prop},cF 1 (.own o 0 N N) (ni i) k=k (.ptr o i):=fun {k}=>by
   show(i<N/\k (.ptr o (0+i*1)))=_;rw [jL,eG];exact propext ⟨fun h=>h.2,fun h=>⟨hi,h⟩⟩
  have hlw:∀{K:KV},aT (.ptr o i) S K=K w S:=fun {K}=>cQ hso (by rw [VG (by omega)]);rw [aN,wX Yb,bQ,hio,hlw,hp1,hl1,bE (by omega),Iq (by omega),aU,cQ hb e1,Kj,DK,bE (by omega),Iq (by omega),aU,cQ hb e1];refine Zi hM hx q1.nv (by have:=RQ _ (cK Yb);omega) (hf _ (cK Yb)) (show i+1<18446744073709551616 by omega) qQ ?_;rw [cQ hb e1,cS,DK,cR q2.same,hlw,cR hpn.same];refine Zi hM hx q2.nv (by have:=hrl _ (cK vL);omega) (hr _ (cK vL)) (show i+1<18446744073709551616 by omega) qQ ?_;rw [hlw,cR hpn.same,aIL,hlw,cR hpn.same];refine⟨aIK,?_⟩;refine hpn.app hle (by rw [mP];omega) fun u S2 fG k2 pn2=>?_;rw [hio,DT (k2 _ _ hso (fun vs m c=>by cases c)) (by rw [Bk];omega) pn2.one,List.set_set,bE (by omega)];refine ih (k+1) m _ u (by omega) (by omega) (FD fG LQ) aC ?_;rw [aIM Yb vL];exact pn2.but (o:=o) (fun j p hj e=>by rw [aB hj];exact e) (k2 _ _ hso (fun vs m c=>by cases c))
structure aQv (SLz:Hp) (o N:Nat) (fs rs:List (List Nat)) (i:Nat) (S:Hp) (ws:List V):Prop where
 le:bO SLz S
 row:S o=some (.row ws 82)
 len:ws.length=N
 done:∀j,j<i->∃w,ws[j]? =some w/\PN SLz S w (shL fs rs (j+1))
 todo:∀j,i<=j->j<N->ws[j]? =some .nil
theorem aGJ (hM:1000000<M) (hx:Deep PP bI gM M (n+15) x){A SLz:Hp}{vf vr:V}{fs rs:List (List Nat)} (mf:ML A SLz vf fs) (mr:ML A SLz vr rs) (hf:∀q∈fs,LP q) (hr:∀q∈rs,LP q) (RQ:∀q∈fs,q.length<1000) (hrl:∀q∈rs,q.length<1000) (hlen:rs.length=fs.length) (XC:fs.length<1000) (heq:∀i (h1:i<fs.length) (h2:i<rs.length),rs[i].length=fs[i].length)
 {bp o N:Nat} (hN:N<1000) (Qd:SLz bp=some (.row (pv two) 29)) (ho:SLz o=none)
 (hK:∀S ws u,aQv SLz o N fs rs N S ws->ML SLz S u (iO fs rs)->bD (.tuple [.own o 0 N N,u,ni 0]) S K):
 ∀(r i m:Nat) (S:Hp) (ws:List V),i+r=N->r<m->aQv SLz o N fs rs i S ws->gF x m (.ptr bp 0) vf vr (.own o 0 N N) (ni N) (ni i) S K:=by
 intro r;induction r with
 | zero=>
  intro i m S ws hi hm h;obtain⟨m,rfl⟩:=bG (show m≠0 by omega);rw [CG];unfold tB;refine aE ?_;rw [aN,iN (by omega),aW,tC (h.le _ _ Qd),dL (by rw [BP];omega),xG,lQ (by rw [BP];omega)];refine aOC (n:=n) hM hx hf hr (fun q hq=>by have:=RQ q hq;omega) (by omega) hlen heq (mf.up h.le) (mr.up h.le) fun u S2 fG m2=>?_;have e:i=N:=by omega
  subst e;have m2':=m2.base h.le;exact hK S2 ws u ⟨h.le.trans fG,fG _ _ h.row,h.len,fun j hj=>by obtain⟨w,a,b⟩:=h.done j hj;exact⟨w,a,b.up fG⟩,h.todo⟩ m2'
 | succ r ih=>
  intro i m S ws hi hm h;obtain⟨m,rfl⟩:=bG (show m≠0 by omega);rw [CG];unfold tB;refine aE ?_;have hlt:i<N:=by omega
  rw [aN,wX hlt,bQ,(mf.up h.le).len,hx.most];have Tf:=h.todo i (bR _) hlt
  have aK9:ws.set i .nil=ws:=by
   apply xE;intro j;rcases Nat.decEq i j with c | c
   ·rw [IE c]
   ·subst c;rw [VG (by rw [h.len];exact hlt),Tf]
  refine aIN (n:=n+13) hM hx mf mr hf hr RQ hrl hlen XC hN hlt h.len Qd ho h.le (fun S2 w fG so2 pn2=>?_) fs.length 0 M S .nil (by omega) (by omega) Zj (by rw [aK9];exact h.row) (by rw [List.take_zero];exact .nil)
  have hL':bO SLz (del S o):=fun j p e=>by
   have hj:j≠o:=fun c=>by rw [c,ho]at e;cases e
   rw [SN hj];exact h.le j p e
  refine ih (i+1) m S2 (ws.set i w) (by omega) (by omega) ⟨hL'.trans fG,so2,by rw [Bk];exact h.len,fun j hj=>?_,fun j h1 h2=>by rw [IE (by omega)];exact h.todo j (by omega) h2⟩;by_cases c:j=i
  ·subst c
   exact⟨w,by rw [VG (by rw [h.len];exact hlt)],pn2.base hL'⟩
  ·obtain⟨w',a,b⟩:=h.done j (by omega)
   exact⟨w',by rw [IE (aO c)];exact a,b.but (o:=o) (fun j p hj e=>fG j p (by rw [SN hj];exact e)) h.row⟩
theorem aE7 (T:Nat):∀(l D:List Nat),(fsR T l D).length=l.length:=by
 intro l;induction l with
 | nil=>intro D;rfl
 | cons a l ih=>intro D;show(fsR T l _).length+1=_;rw [ih];rfl
theorem aE8 (T:Nat):∀(k:Nat) (D:List Nat),(rsR T k D).length=k:=by
 intro k;induction k with
 | zero=>intro D;rfl
 | succ k ih=>intro D;show(rsR T k _).length+1=_;rw [ih]
theorem aE9{T:Nat}:∀(l D:List Nat),(T+1+T)*l.length<=D.length->(∀c∈D,c<11)->∀q∈fsR T l D,q.length=T+1/\∀c∈q,c<11:=by
 intro l;induction l with
 | nil=>intro D _ _ q hq;cases hq
 | cons a l ih=>
  intro D hD hc q hq;rw [oU,Bt]at hD;rcases List.mem_cons.1 hq with rfl | hq
  ·refine⟨by simp;omega,fun c h=>?_⟩
   rcases List.mem_cons.1 h with rfl | h
   ·exact iY _ (by decide)
   ·exact hc c (Hm h)
  ·exact ih _ (by rw [IG];omega) (fun c h=>hc c (Hn h)) q hq
theorem aFa{T:Nat}:∀(k:Nat) (D:List Nat),(T+1+T)*k<=D.length->(∀c∈D,c<11)->∀q∈rsR T k D,q.length=T+1/\∀c∈q,c<11:=by
 intro k;induction k with
 | zero=>intro D _ _ q hq;cases hq
 | succ k ih=>
  intro D hD hc q hq;rw [Bt]at hD;rcases List.mem_cons.1 hq with rfl | hq
  ·refine⟨by simp;omega,fun c h=>?_⟩
   rcases List.mem_cons.1 h with rfl | h
   ·exact iY _ (by decide)
   ·exact hc c (Hn (Hm h))
  ·exact ih _ (by rw [IG];omega) (fun c h=>hc c (Hn h)) q hq
def shD (fs rs:List (List Nat)) (N:Nat):List Dt:=(List.range N).map fun i=> .list (pds (shL fs rs (i+1))) (shL fs rs (i+1)).length
def dS (l:List (List Nat)):List Dt:=l.map fun l=> .list (jK l) l.length
end
set_option maxRecDepth 4000
inductive GL (el:TypeId) (S0 S:Hp):V->List Dt->Prop
 | nil:GL el S0 S .nil []
 | acc {i:Nat} {vs:List V} {ds:List Dt} (h0:S0 i=none) (h:S i=some (.fW vs el ds.length)) (hl:vs.length=ds.length) (hv:∀(j:Nat) (d:Dt),ds[j]? =some d->∃t,vs[j]? =some (T t d)):GL el S0 S (.acc i ds.length) ds
theorem aNp (t:Tag) (d:Dt):fR (T t d)=true:=by cases d<;>rfl
theorem aFi{t:Tag}{d:Dt}{p:List V->Prop}:vZ (T t d) p=p [T t d]:=by cases d<;>rfl
theorem aNq{S0 S:Hp} (t:Tag) (d:Dt):Fi S0 S (T t d) d:=by cases d<;>constructor
section
variable{el:TypeId}{S0 S S':Hp}{v:V}{ds:List Dt}
theorem GL.len (h:GL el S0 S v ds){K:V->Prop}:bH v K=K (ni ds.length):=by cases h<;>rfl
theorem GL.one (h:GL el S0 S v ds):fR v=true:=by cases h<;>rfl
theorem GL.same (h:GL el S0 S v ds):DS v=true:=by cases h<;>rfl
theorem GL.up (h:GL el S0 S v ds) (hle:bO S S'):GL el S0 S' v ds:=by
 cases h with
 | nil=>exact .nil
 | acc h0 h hl hv=>exact .acc h0 (hle _ _ h) hl hv
theorem GL.base{S1:Hp} (h:GL el S1 S v ds) (hle:bO S0 S1):GL el S0 S v ds:=by
 cases h with
 | nil=>exact .nil
 | acc h0 h hl hv=>exact .acc (hle.none h0) h hl hv
theorem GL.at (h:GL el S0 S v ds){i:Nat}{d:Dt} (hi:ds[i]? =some d):∃p t,(∀(j:IntKind) (K:V->Prop),cF 1 v (.int j (.ofNat i)) K=K p)/\(∀S',bO S S'->∀K:KV,aT p S' K=K (T t d) S'):=by
 have hlt:i<ds.length:=(List.getElem?_eq_some_iff.1 hi).1;cases h with
 | nil=>cases hi
 | @acc b vs _ h0 h hl hv=>
  obtain⟨t,a⟩:=hv i d hi;refine⟨.vY b ds.length (i*1),t,fun j K=>LM hlt,fun S' hle K=>?_⟩;rw [jL];unfold aT;simp only [hle _ _ h,cI a,true_and]
theorem GL.Cm (h:GL el S0 S v ds):Fi S0 S v (.list ds ds.length):=by
 cases h with
 | nil=>exact .nil
 | acc h0 h hl hv=>
  refine .acc h h0 hl fun j v d x1 x2=>?_;obtain⟨t,q⟩:=hv j d x2;rw [x1]at q;injection q with q;subst q;exact aNq t d
theorem GL.set (h:GL el S0 S v ds){i:Nat}{o p:Ob} (hi:S i=some p) (h1:∀vs m,p≠ .fW vs el m):GL el S0 (aK S i o) v ds:=by
 cases h with
 | nil=>exact .nil
 | acc h0 h hl hv=>exact .acc h0 (by rw [aB (fun c=>by rw [c,hi]at h;injection h with h;exact h1 _ _ h)];exact h) hl hv
theorem GL.but (h:GL el S0 S v ds) (hs:∀j vs m,S j=some (.fW vs el m)->S' j=some (.fW vs el m)):GL el S0 S' v ds:=by
 cases h with
 | nil=>exact .nil
 | acc h0 h hl hv=>exact .acc h0 (hs _ _ _ h) hl hv
theorem GL.lT{w:V}{es:List Dt}{e2:TypeId} (h:GL e2 S0 S w es) (hp:∀j o,S j=some o->(∀m,v≠ .acc j m)->S' j=some o) (ha:∀j m m',w= .acc j m->v≠ .acc j m'):GL e2 S0 S' w es:=by
 cases h with
 | nil=>exact .nil
 | acc h0 h hl hv=>exact .acc h0 (hp _ _ h fun m=>ha _ _ m rfl) hl hv
theorem GL.there (h:GL el S0 S v ds){j m:Nat} (e:v= .acc j m):∃vs n,S j=some (.fW vs el n):=by
 cases h with
 | nil=>cases e
 | acc h0 h hl hv=>injection e with e1 e2;subst e1;exact⟨_,_,h⟩
theorem GL.aQE{b:Nat} (h:GL el S0 S v ds) (hs:bO S0 S) (hl:(ds.length+1)*b<=140737488355328/\ds.length+1<=140737488355328){z:Value}{zv:V} (hz:LO [z]=some [zv]){t:Tag}{d:Dt}{K:KV}
 (hk:∀u S',bO S0 S'->(∀j o,S j=some o->(∀m,v≠ .acc j m)->S' j=some o)->(∀j m,u= .acc j m->(∃m',v= .acc j m')\/S j=none)->GL el S0 S' u (ds++[d])->K u S'):aS el 1 [z] [(0,1,T t d)] S fun v2 S=>jT el 1 b v v2 S K:=by
 unfold aS rL;rw [hz];show iG [(0,1,T t d)] [zv] _;unfold iG;rw [aFi];refine⟨rfl,by simp,?_⟩;unfold iG;intro j hj;have xB:bO S (aK S j (.row [T t d] el)):= .aI hj;show jT el 1 b v (.own j 0 1 1) (aK S j (.row (aY 0 [T t d] [zv]) el)) K;have e:aY 0 [T t d] [zv]=[T t d]:=rfl;rw [e];refine LN (m:=1) aC rfl ?_;refine⟨by simp [aNp],?_⟩;cases h with
 | nil=>
  refine⟨by have:=hl;rw [List.length_nil]at this;exact this,fun i hi=>?_⟩;have tZ:bO (aK S j (.row [T t d] el)) (aK (aK S j (.row [T t d] el)) i (.fW [T t d] el 1)):= .aI hi;refine hk _ _ ((hs.trans xB).trans tZ) (fun q o e _=>tZ _ _ (xB _ _ e)) (fun q m e=> .inr (by injection e with e;subst e;exact xB.none hi)) (.acc (ds:=[d]) ((hs.trans xB).none hi) aC rfl fun q l' e=>?_)
  match q,e with
  | 0,e=>injection e with e;subst e;exact⟨t,rfl⟩
  | q+1,e=>cases e
 | @acc i vs _ h0 h DK hv=>
  have oJ:j≠i:=fun e=>by rw [e,h]at hj;cases hj
  have h':aK S j (.row [T t d] el) i=some (.fW vs el ds.length):=by rw [aB (aO oJ)];exact h
  simp only [h'];refine⟨trivial,trivial,by omega,hl,?_⟩;have el':ds.length+(0+1)=(ds++[d]).length:=by simp
  rw [el'];have tZ:∀q o,q≠i->S q=some o->aK (aK S j (.row [T t d] el)) i (.fW (vs++[T t d]) el (ds++[d]).length) q=some o:=fun q o hq e=>by rw [aB hq];exact xB _ _ e
  refine hk _ _ (fun q o e=>tZ q o (fun c=>by rw [c,h0]at e;cases e) (hs _ _ e)) (fun q o e xC=>tZ q o (fun c=>xC ds.length (by rw [c])) e) (fun q m e=> .inl (by injection e with e;subst e;exact⟨_,rfl⟩)) (.acc h0 aC (by simp [DK]) fun q l' e=>?_);rcases BF q ds.length with hq | hq
  ·rw [gI hq]at e
   obtain⟨u,a⟩:=hv q l' e;exact⟨u,by rw [gI (by omega)];exact a⟩
  ·have hq':q=ds.length:=by
    have:=(List.getElem?_eq_some_iff.1 e).1;simp at this;omega
   subst hq';simp at e;subst e;exact⟨t,by rw [kI (by omega),DK];simp⟩
theorem GL.app (h:GL el S0 S v ds) (hs:bO S0 S) (hl:ds.length<=1000000){z:Value}{zv:V} (hz:LO [z]=some [zv]){b:Nat} (hb:b<=100){t:Tag}{d:Dt}{K:KV}
 (hk:∀u S',bO S0 S'->(∀j o,S j=some o->(∀m,v≠ .acc j m)->S' j=some o)->(∀j m,u= .acc j m->(∃m',v= .acc j m')\/S j=none)->GL el S0 S' u (ds++[d])->K u S'):aS el 1 [z] [(0,1,T t d)] S fun v2 S=>jT el 1 b v v2 S K:=by
 refine h.aQE hs ⟨?_,by omega⟩ hz hk;have:(ds.length+1)*b<=1000001*100:=Nat.mul_le_mul (by omega) hb;omega
end
set_option maxRecDepth 4000
theorem vc1{v:V}{p:List V->Prop} (h:fR v=true):vZ v p=p [v]:=by cases v<;>first | rfl | cases h
inductive SL (el:TypeId) (S0 S:Hp):V->List Dt->Nat->Prop
 | nil:SL el S0 S .nil [] 0
 | acc {i n:Nat} {vs:List V} {ds:List Dt} (h0:S0 i=none) (h:S i=some (.fW vs el n)) (hl:vs.length=ds.length) (hv:∀(j:Nat) (d:Dt),ds[j]? =some d->∃t,vs[j]? =some (T t d)):SL el S0 S (.acc i n) ds n
section
variable{el:TypeId}{S0 S S':Hp}{v:V}{ds:List Dt}{n:Nat}
theorem SL.one (h:SL el S0 S v ds n):fR v=true:=by cases h<;>rfl
theorem SL.same (h:SL el S0 S v ds n):DS v=true:=by cases h<;>rfl
theorem SL.up (h:SL el S0 S v ds n) (hle:bO S S'):SL el S0 S' v ds n:=by
 cases h with
 | nil=>exact .nil
 | acc h0 h hl hv=>exact .acc h0 (hle _ _ h) hl hv
theorem SL.base{S1:Hp} (h:SL el S1 S v ds n) (hle:bO S0 S1):SL el S0 S v ds n:=by
 cases h with
 | nil=>exact .nil
 | acc h0 h hl hv=>exact .acc (hle.none h0) h hl hv
theorem SL.Cm (h:SL el S0 S v ds n):Fi S0 S v (.list ds n):=by
 cases h with
 | nil=>exact .nil
 | acc h0 h hl hv=>
  refine .acc h h0 hl fun j v d x1 x2=>?_;obtain⟨t,q⟩:=hv j d x2;rw [x1]at q;injection q with q;subst q;exact aNq t d
theorem SL.set (h:SL el S0 S v ds n){i:Nat}{o p:Ob} (hi:S i=some p) (h1:∀vs m,p≠ .fW vs el m):SL el S0 (aK S i o) v ds n:=by
 cases h with
 | nil=>exact .nil
 | acc h0 h hl hv=>exact .acc h0 (by rw [aB (fun c=>by rw [c,hi]at h;injection h with h;exact h1 _ _ h)];exact h) hl hv
theorem SL.but (h:SL el S0 S v ds n) (hs:∀j vs m,S j=some (.fW vs el m)->S' j=some (.fW vs el m)):SL el S0 S' v ds n:=by
 cases h with
 | nil=>exact .nil
 | acc h0 h hl hv=>exact .acc h0 (hs _ _ _ h) hl hv
theorem SL.ne (h:SL el S0 S v ds n){b:Nat}{o:Ob} (hb:S b=some o) (ho:∀vs e m,o≠ .fW vs e m):∀m,v≠ .acc b m:=fun m e=>by
 cases h with
 | nil=>cases e
 | acc h0 h hl hv=>injection e with e;subst e;rw [h]at hb;injection hb with hb;exact ho _ _ _ hb.symm
def Lp (us:List V) (new:List Dt):Prop:=us.length=new.length/\∀(j:Nat) (d:Dt),new[j]? =some d->∃t,us[j]? =some (T t d)
theorem Lp.one{us:List V}{new:List Dt} (h:Lp us new):us.all fR=true:=by
 rw [KO];intro u hu;obtain⟨j,hj,rfl⟩:=Bj hu;have Xp:j<new.length:=by rw [<-h.1];exact hj
 obtain⟨t,q⟩:=h.2 j _ (aQ Xp);rw [aQ hj]at q;injection q with q;rw [q];exact aNp t _
theorem Lp.nil:Lp [] []:=⟨rfl,fun j d e=>by cases e⟩
theorem Lp.cons{us:List V}{new:List Dt} (t:Tag) (d:Dt) (h:Lp us new):Lp (T t d::us) (d::new):=⟨by simp [h.1],fun j e q=>by match j with | 0=>injection q with q;subst q;exact⟨t,rfl⟩ | j+1=>exact h.2 j e q⟩
theorem SL.app (h:SL el S0 S v ds n) (hs:bO S0 S) (hl:n<=1000000){k:Nat} (hk0:ds.length=n*k){zs:List Value}{zv us:List V}{new:List Dt} (hz:LO zs=some zv) (Mp:zv.length=k) (hu:Lp us new) (hul:new.length=k){b:Nat} (hb:b<=100){K:KV}
 (hk:∀u S',bO S0 S'->(∀j o,S j=some o->(∀m,v≠ .acc j m)->S' j=some o)->(∀j m,u= .acc j m->(∃m',v= .acc j m')\/S j=none)->SL el S0 S' u (ds++new) (n+1)->K u S'):aS el 1 zs [(0,k,.agg us)] S fun v2 S=>jT el k b v v2 S K:=by
 have aS1:us.length=k:=by rw [hu.1,hul]
 refine HP hz Mp aS1 hu.one fun j hj=>?_;have xB:bO S (aK S j (.row us el)):= .aI hj;refine LN (m:=1) aC (by rw [Nat.one_mul];omega) ?_;refine⟨hu.one,?_⟩;cases h with
 | nil=>
  refine⟨by rw [eG,Nat.one_mul];omega,fun i hi=>?_⟩;have tZ:bO (aK S j (.row us el)) (aK (aK S j (.row us el)) i (.fW us el 1)):= .aI hi;refine hk _ _ ((hs.trans xB).trans tZ) (fun q o e _=>tZ _ _ (xB _ _ e)) (fun q m e=> .inr (by injection e with e;subst e;exact xB.none hi)) (.acc ((hs.trans xB).none hi) aC (by rw [Bm];exact hu.1) fun q l' e=>?_);rw [Bm]at e;exact hu.2 q l' e
 | @acc i _ vs _ h0 h DK hv=>
  have oJ:j≠i:=fun e=>by rw [e,h]at hj;cases hj
  have h':aK S j (.row us el) i=some (.fW vs el n):=by rw [aB (aO oJ)];exact h
  simp only [h']
  have hm:(n+(0+1))*b<=140737488355328/\n+(0+1)<=140737488355328:=by
   have:(n+(0+1))*b<=1000001*100:=Nat.mul_le_mul (by omega) hb;omega
  refine⟨trivial,trivial,by omega,hm,?_⟩;have tZ:∀q o,q≠i->S q=some o->aK (aK S j (.row us el)) i (.fW (vs++us) el (n+(0+1))) q=some o:=fun q o hq e=>by rw [aB hq];exact xB _ _ e
  refine hk _ _ (fun q o e=>tZ q o (fun c=>by rw [c,h0]at e;cases e) (hs _ _ e)) (fun q o e xC=>tZ q o (fun c=>xC n (by rw [c])) e) (fun q m e=> .inl (by injection e with e;subst e;exact⟨_,rfl⟩)) (.acc h0 aC (by simp [DK,hu.1]) fun q l' e=>?_);rcases BF q ds.length with hq | hq
  ·rw [gI hq]at e
   obtain⟨u,a⟩:=hv q l' e;exact⟨u,by rw [gI (by omega)];exact a⟩
  ·rw [kI hq]at e
   obtain⟨t,a⟩:=hu.2 _ _ e;exact⟨t,by rw [kI (by omega),DK];exact a⟩
end
end Go.Am
set_option maxRecDepth 4000
namespace Go.Am
open Go.Proofs.NQ
theorem aOH{l:List (Nat×Nat)}:∀{i:Nat} {a b:Nat},l[i]? =some (a,b)->(pds l)[i*2]? =some (nd a)/\(pds l)[i*2+1]? =some (nd b):=by
 induction l with
 | nil=>intro i a b h;cases h
 | cons p l ih=>
  intro i a b h
  match i with
  | 0=>injection h with h;subst h;exact⟨rfl,rfl⟩
  | i+1=>
   have:=ih (i:=i) (a:=a) (b:=b) h;rw [show(i+1)*2=i*2+2 by omega];exact this
theorem aOI{α:Type}{l:List α}{o:Nat}{a b:α} (h1:l[o]? =some a) (h2:l[o+1]? =some b):o+2<=l.length/\(l.drop o).take 2=[a,b]:=by
 have hl:=(List.getElem?_eq_some_iff.1 h2).1;refine⟨by omega,?_⟩;rw [lP (show o<l.length by omega),Wy,lP hl,Wy,List.take_zero];have e1:=aQ (show o<l.length by omega);have e2:=aQ hl;rw [h1]at e1;rw [h2]at e2;injection e1 with e1;injection e2 with e2;rw [<-e1,<-e2]
section
variable{M n:Nat}{x:VE}{S:Hp}{K:KV}{two:Bool}
theorem Deep.aQD (hx:Deep PP bI gM M (n+1) x){f:FuncId} (hf:gM f=none){args:List V} (h:∀y,Deep PP bI gM M n y->jI PP bI f y args S K):x.C f args S K:=by
 obtain⟨h1,h2,y,h3,h4,_⟩:=hx;rw [h4 f hf];exact h y h3
theorem lC{p:Nat} (rp:S p=some (.row (pv two) 29)){K:KV}:bN 12 (.ptr p 0) S K=K (.agg (pv two)) S:=by
 rw [tC rp,dL (by rw [BP];omega),xG,lQ (by rw [BP];omega)]
end
end Go.Am
set_option maxRecDepth 100000
namespace Go.Am
def Hg (x:VE) (a0:V) (S:Hp) (K:KV):Prop:=
 iD 42 a0 S fun v0 S=>
 cW GH 42 S fun v1 S=>
 aP 3 v0 fun v2=>
 aT v2 S fun v3 S=>
 aP 5 v0 fun v4=>
 aT v4 S fun v5 S=>
 x.call fF [v3] S fun v6 S=>
 aT v4 S fun v7 _=>
 aZ v7 v5 (x.call dW [v5] S fun v8 S=>aP 3 v0 fun v9=>mL 1 v9 v6 S fun S=>aP 5 v0 fun v10=>mL 1 v10 v8 S fun S=>aP 4 v0 fun v11=>aT v11 S fun v12 S=>x.call kB [v12,(.func cE [] [])] S fun sO S=>aP 4 v0 fun sS=>mL 1 sS sO S fun S=>aP 6 v0 fun AM=>aT AM S fun wU S=>x.call pA [wU,(.func tU [] [])] S fun rQ S=>aP 6 v0 fun yE=>mL 1 yE rQ S fun S=>bN 7 v0 S fun wZ S=>mL 7 v1 wZ S fun S=>bN 7 v1 S fun v20 _=>bD v20 S K)
theorem aAF (x:VE) (a0:V) (S:Hp) (K:KV):jI PP bI TG x [a0] S K=Hg x a0 S K:=by kernel_rfl
def YH (x:VE) (a0:V) (S:Hp) (K:KV):Prop:=
 iD 68 a0 S fun v0 S=>
 cW uZ 68 S fun v1 S=>
 aP 1 v0 fun v2=>
 aT v2 S fun v3 S=>
 x.call kB [v3,(.func cE [] [])] S fun v4 S=>
 aP 1 v0 fun v5=>
 mL 1 v5 v4 S fun S=>
 bN 2 v0 S fun v6 S=>
 mL 2 v1 v6 S fun S=>
 bN 2 v1 S fun v7 _=>
 bD v7 S K
theorem Sf (x:VE) (a0:V) (S:Hp) (K:KV):jI PP bI tU x [a0] S K=YH x a0 S K:=by kernel_rfl
def fL (x:VE) (m:Nat) (t1 t5 t8 t9 t10:V) (S:Hp) (K:KV):Prop:=dG PP bI kB x [.r,.r,.l,.r,.d] m [] [t1,t5,t8,t9,t10] S K
def AN (x:VE) (a0 a1:V) (S:Hp) (K:KV):Prop:=
 bH a0 fun v0=>
 fL x x.most a1 .nil a0 v0 (.int .i64 (.ofNat 0)) S K
theorem PK (x:VE) (a0 a1:V) (S:Hp) (K:KV):jI PP bI kB x [a0,a1] S K=AN x a0 a1 S K:=by kernel_rfl
def mC (x:VE) (m0:Nat) (t1 t5 t8 t9 t10:V) (S:Hp) (K:KV):Prop:=
 cH S fun S=>
 aH PP .lss 3 t10 t9 fun v0=>
 fS v0 (cF 1 t8 t10 fun v1=>aT v1 S fun v2 S=>lX x t1 [v2] S fun v3 S=>aS 51 1 cU [(0,1,v3)] S fun v4 S=>jT 51 1 24 t5 v4 S fun v5 S=>aH PP .add 3 t10 (.int .i64 (.ofNat 1)) fun v6=>fL x m0 t1 v5 t8 t9 v6 S K) (bD t5 S K)
theorem sQ (x:VE) (m0:Nat) (t1 t5 t8 t9 t10:V) (S:Hp) (K:KV):fL x (m0+1) t1 t5 t8 t9 t10 S K=mC x m0 t1 t5 t8 t9 t10 S K:=by kernel_rfl
def gO (x:VE) (m:Nat) (t1 t5 t8 t9 t10:V) (S:Hp) (K:KV):Prop:=dG PP bI pA x [.r,.r,.l,.r,.d] m [] [t1,t5,t8,t9,t10] S K
def ET (x:VE) (a0 a1:V) (S:Hp) (K:KV):Prop:=
 bH a0 fun v0=>
 gO x x.most a1 .nil a0 v0 (.int .i64 (.ofNat 0)) S K
theorem TJ (x:VE) (a0 a1:V) (S:Hp) (K:KV):jI PP bI pA x [a0,a1] S K=ET x a0 a1 S K:=by kernel_rfl
def nR (x:VE) (m0:Nat) (t1 t5 t8 t9 t10:V) (S:Hp) (K:KV):Prop:=
 cH S fun S=>
 aH PP .lss 3 t10 t9 fun v0=>
 fS v0 (cF 2 t8 t10 fun v1=>bN 2 v1 S fun v2 S=>cW uZ 68 S fun v3 S=>mL 2 v3 v2 S fun S=>bN 2 v3 S fun v4 S=>lX x t1 [v4] S fun v5 S=>aS 68 1 uZ [(0,2,v5)] S fun v6 S=>jT 68 2 32 t5 v6 S fun v7 S=>aH PP .add 3 t10 (.int .i64 (.ofNat 1)) fun v8=>gO x m0 t1 v7 t8 t9 v8 S K) (bD t5 S K)
theorem uL (x:VE) (m0:Nat) (t1 t5 t8 t9 t10:V) (S:Hp) (K:KV):gO x (m0+1) t1 t5 t8 t9 t10 S K=nR x m0 t1 t5 t8 t9 t10 S K:=by kernel_rfl
def OH (x:VE) (a0 a1:V) (S:Hp) (K:KV):Prop:=
 iD 29 a0 S fun v0 S=>
 bN 12 v0 S fun v1 S=>
 bN 12 v0 S fun v2 S=>
 aP 6 v0 fun v3=>
 aT v3 S fun v4 S=>
 aH PP .add 3 v4 (.int .i64 (.ofNat 1)) fun v5=>
 x.call BV [v2] S fun v6 S=>
 aT v3 S fun v7 _=>
 aZ v7 v4 (bN 12 v0 S fun v8 _=>aZ v8 v1 (x.call MM [v1,a1,v6,v5] S fun v9 S=>aT v3 S fun v10 _=>aZ v10 v4 (bD v9 S K)))
theorem Gv (x:VE) (a0 a1:V) (S:Hp) (K:KV):jI PP bI wS x [a0,a1] S K=OH x a0 a1 S K:=by kernel_rfl
def XY (x:VE) (a0 a1 a2 a3:V) (S:Hp) (K:KV):Prop:=
 iD 29 a0 S fun v0 S=>
 iD 3 a3 S fun v1 S=>
 bH a1 fun v2=>
 aH PP .eql 3 v2 a2 fun v3=>
 gK x true v3 a1 S fun v4 S=>gK x true v3 (.func GM [] [v1,v0]) S fun v5 S=>gL x true v3 (x.call cZ [v4,v5] S) S fun v7 S=>gP x true v3 (SO .not v7) S fun v9 S=>gQ x v3 v9 (.bool false) fun v10=>bD v10 S K
theorem Rt (x:VE) (a0 a1 a2 a3:V) (S:Hp) (K:KV):jI PP bI MM x [a0,a1,a2,a3] S K=XY x a0 a1 a2 a3 S K:=by kernel_rfl
def QU (x:VE) (a0 a1 a2:V) (S:Hp) (K:KV):Prop:=
 bH a0 fun v0=>
 aT a1 S fun v1 S=>
 aH PP .neq 3 v0 v1 fun v2=>
 gK x false v2 a0 S fun v3 S=>gK x false v2 (.func BU [] [a2]) S fun v4 S=>gL x false v2 (x.call iE [v3,v4] S) S fun v6 S=>gQ x v2 (.bool true) v6 fun v7=>bD v7 S K
theorem Jh (x:VE) (a0 a1 a2:V) (S:Hp) (K:KV):jI PP bI GM x [a0,a1,a2] S K=QU x a0 a1 a2 S K:=by kernel_rfl
def MJ (x:VE) (a0 a1:V) (S:Hp) (K:KV):Prop:=
 bN 12 a1 S fun v0 S=>
 x.call Dd [v0,a0] S fun v1 S=>
 SO .not v1 fun v2=>
 bD v2 S K
theorem De (x:VE) (a0 a1:V) (S:Hp) (K:KV):jI PP bI BU x [a0,a1] S K=MJ x a0 a1 S K:=by kernel_rfl
def MK (x:VE) (a0:V) (S:Hp) (K:KV):Prop:=
 iD 29 a0 S fun v0 S=>
 aP 7 v0 fun v1=>
 aT v1 S fun v2 S=>
 aP 8 v0 fun v3=>
 aT v3 S fun v4 S=>
 aH PP .add 3 v4 (.int .i64 (.ofNat 1)) fun v5=>
 aH PP .mul 3 v2 v5 fun v6=>
 bD v6 S K
theorem Df (x:VE) (a0:V) (S:Hp) (K:KV):jI PP bI BV x [a0] S K=MK x a0 S K:=by kernel_rfl
def lH (x:VE) (m:Nat) (t2 t3 t7 t10 t11 t12:V) (S:Hp) (K:KV):Prop:=dG PP bI pJ x [.r,.r,.l,.r,.d] m [] [t2,t3,t7,t10,t11,t12] S K
def QV (x:VE) (a0 a1 a2:V) (S:Hp) (K:KV):Prop:=
 iD 29 a0 S fun v0 S=>
 bH a1 fun v1=>
 lH x x.most a2 v0 .nil a1 v1 (.int .i64 (.ofNat 0)) S K
theorem Ji (x:VE) (a0 a1 a2:V) (S:Hp) (K:KV):jI PP bI pJ x [a0,a1,a2] S K=QV x a0 a1 a2 S K:=by kernel_rfl
def tR (x:VE) (m0:Nat) (t2 t3 t7 t10 t11 t12:V) (S:Hp) (K:KV):Prop:=
 cH S fun S=>
 aH PP .lss 3 t12 t11 fun v0=>
 fS v0 (cF 1 t10 t12 fun v1=>aT v1 S fun v2 S=>bN 12 t3 S fun v3 S=>x.call TF [v3,v2,t2] S fun v4 S=>aS 22 1 iC [(0,1,v4)] S fun v5 S=>jT 22 1 8 t7 v5 S fun v6 S=>aH PP .add 3 t12 (.int .i64 (.ofNat 1)) fun v7=>lH x m0 t2 t3 v6 t10 t11 v7 S K) (bD t7 S K)
theorem CM (x:VE) (m0:Nat) (t2 t3 t7 t10 t11 t12:V) (S:Hp) (K:KV):lH x (m0+1) t2 t3 t7 t10 t11 t12 S K=tR x m0 t2 t3 t7 t10 t11 t12 S K:=by kernel_rfl
def jW (x:VE) (m:Nat) (t2 t3 t7 t10 t11 t12:V) (S:Hp) (K:KV):Prop:=dG PP bI vG x [.r,.r,.l,.r,.d] m [] [t2,t3,t7,t10,t11,t12] S K
def MO (x:VE) (a0 a1 a2:V) (S:Hp) (K:KV):Prop:=
 iD 29 a0 S fun v0 S=>
 bH a1 fun v1=>
 jW x x.most a2 v0 .nil a1 v1 (.int .i64 (.ofNat 0)) S K
theorem Dg (x:VE) (a0 a1 a2:V) (S:Hp) (K:KV):jI PP bI vG x [a0,a1,a2] S K=MO x a0 a1 a2 S K:=by kernel_rfl
def qU (x:VE) (m0:Nat) (t2 t3 t7 t10 t11 t12:V) (S:Hp) (K:KV):Prop:=
 cH S fun S=>
 aH PP .lss 3 t12 t11 fun v0=>
 fS v0 (cF 1 t10 t12 fun v1=>aT v1 S fun v2 S=>bN 12 t3 S fun v3 S=>x.call pJ [v3,v2,t2] S fun v4 S=>aS 51 1 cU [(0,1,v4)] S fun v5 S=>jT 51 1 24 t7 v5 S fun v6 S=>aH PP .add 3 t12 (.int .i64 (.ofNat 1)) fun v7=>jW x m0 t2 t3 v6 t10 t11 v7 S K) (bD t7 S K)
theorem yW (x:VE) (m0:Nat) (t2 t3 t7 t10 t11 t12:V) (S:Hp) (K:KV):jW x (m0+1) t2 t3 t7 t10 t11 t12 S K=qU x m0 t2 t3 t7 t10 t11 t12 S K:=by kernel_rfl
def wR (x:VE) (m:Nat) (t2 t3 t7 t8 t16 t17 VC:V) (S:Hp) (K:KV):Prop:=dG PP bI TF x [.r,.r,.r,.l,.r,.d] m [] [t2,t3,t7,t8,t16,t17,VC] S K
def Rr (x:VE) (a0 a1 a2:V) (S:Hp) (K:KV):Prop:=
 iD 29 a0 S fun v0 S=>
 bN 12 v0 S fun v1 S=>
 x.call nD [v1,.nil] S fun v2 S=>
 aP 1 v0 fun v3=>
 aT v3 S fun v4 S=>
 x.call nX [(.int .u64 (.ofNat 1)),(.int .u64 (.ofNat 1)),v4] S fun v5 S=>
 bH a1 fun v6=>
 wR x x.most a2 v0 v2 v5 a1 v6 (.int .i64 (.ofNat 0)) S K
theorem aEa (x:VE) (a0 a1 a2:V) (S:Hp) (K:KV):jI PP bI TF x [a0,a1,a2] S K=Rr x a0 a1 a2 S K:=by kernel_rfl
def BT (x:VE) (m0:Nat) (t2 t3 t7 t8 t16 t17 VC:V) (S:Hp) (K:KV):Prop:=
 cH S fun S=>
 aH PP .lss 3 VC t17 fun v0=>
 fS v0 (cF 1 t16 VC fun v1=>aT v1 S fun v2 S=>bN 12 t3 S fun v3 S=>bN 12 t3 S fun v4 S=>x.call sC [v4,v2,t8] S fun v5 S=>bN 12 t3 S fun v6 _=>aZ v6 v3 (bN 12 t3 S fun v7 _=>aZ v7 v3 ((aS 22 2 iC [(0,1,t7),(1,1,v5)] S fun v8 S=>True)/\(aS 22 2 iC [(0,1,t7),(1,1,v5)] S fun v9 S=>x.call nD [v3,v9] S fun v10 S=>aP 1 t3 fun v11=>aT v11 S fun v12 S=>x.call nX [t8,t2,v12] S fun sO S=>aH PP .add 3 VC (.int .i64 (.ofNat 1)) fun sS=>wR x m0 t2 t3 v10 sO t16 t17 sS S K)))) (bD t7 S K)
theorem MI (x:VE) (m0:Nat) (t2 t3 t7 t8 t16 t17 VC:V) (S:Hp) (K:KV):wR x (m0+1) t2 t3 t7 t8 t16 t17 VC S K=BT x m0 t2 t3 t7 t8 t16 t17 VC S K:=by kernel_rfl
def Rs (x:VE) (a0 a1:V) (S:Hp) (K:KV):Prop:=
 iD 29 a0 S fun v0 S=>
 aH PP .geq 22 a1 (.int .u64 (.ofNat 1)) fun v1=>
 gK x true v1 a1 S fun v2 S=>gP x true v1 (aP 0 v0) S fun v4 S=>gL x true v1 (aT v4 S) S fun v6 S=>gP x true v1 (aH PP .lss 22 v2 v6) S fun v8 S=>gQ x v1 v8 (.bool false) fun v9=>gL x true v9 (bN 12 v0 S) S fun v11 S=>gK x true v9 a1 S fun v12 S=>gP x true v9 (aP 1 v0) S fun sS S=>gL x true v9 (aT sS S) S fun wU S=>gL x true v9 (x.call sC [v11,v12,wU] S) S fun yE S=>gP x true v9 (aH PP .eql 22 yE (.int .u64 (.ofNat 1))) S fun v20 S=>gQ x v9 v20 (.bool false) fun v21=>bD v21 S K
theorem aEb (x:VE) (a0 a1:V) (S:Hp) (K:KV):jI PP bI Dd x [a0,a1] S K=Rs x a0 a1 S K:=by kernel_rfl
end Go.Am
set_option maxRecDepth 4000
namespace Go.Am
open Go.Proofs.NQ
def atF (i:Nat):List Nat->Nat->Nat->Nat
 | [],x,_=>x
 | y::l,x,e=>atF i l (LW [x,pw y e]) (e*i%11)
def atG (l:List Nat) (i:Nat):Nat:=atF i l (LW []) (1*1%11)
theorem QO (l:List Nat):LW l<23:=by
 have:∀(l:List Nat) (a:Nat),a<23->l.foldl (fun acc y=>acc*y%23) a<23:=by
  intro l;induction l with
  | nil=>intro a h;exact h
  | cons y l ih=>intro a h;exact ih _ (iY _ (by decide))
 exact this l _ (by decide)
theorem aRh{t:TypeId}{a b:Nat}{k:V->Prop}:aH PP .lss t (nu a) (nu b) k=k (.bool (decide (a<b))):=by rw [rC];congr 2;simp
theorem lZ{op:KV->Prop}{S:Hp}{k:KV}:PE true (.bool false) op S k=k Gh S:=rfl
section
variable{M n:Nat}{x:VE}{S:Hp}{K:KV}{two:Bool}
theorem aRi (hM:1000000<M) (hx:Deep PP bI gM M (n+3) x){v:V}{l:List Nat}{b:Nat}{S0:Hp}{i0:Nat} (hi0:EY i0) (hle:bO S0 S) (h:NV S v l) (UX:LP l) (hl:l.length<1000000) (hb:S b=some (.row (pv two) 29)){R:Nat} (hK:K (nu R) S0):
 ∀(r i m:Nat) (acc e:Nat) (S1:Hp),bO S S1->i+r=l.length->r<m->acc<23->e<11->atF i0 (l.drop i) acc e=R->wR x m (nu i0) (.ptr b 0) (nu acc) (nu e) v (ni l.length) (ni i) S1 K:=by
 intro r;induction r with
 | zero=>
  intro i m acc e S1 hs hi hm h6 h7 he;obtain⟨m,rfl⟩:=bG (show m≠0 by omega);rw [MI];unfold BT;refine tI S hs ?_;rw [aN,iN (by omega),aW];rw [oS (by omega)]at he;have he:acc=R:=he;rw [he];exact bL hle hK
 | succ r ih=>
  intro i m acc e S1 hs hi hm h6 h7 he;obtain⟨m,rfl⟩:=bG (show m≠0 by omega);rw [MI];unfold BT;refine tI S hs ?_;have hlt:i<l.length:=by omega
  obtain⟨p,hp,RD⟩:=h.at (i:=i) (aQ hlt);have all:∀{K:KV},bN 12 (.ptr b 0) S K=K (.agg (pv two)) S:=lC hb;have same:∀{p:Prop},aZ (.agg (pv two)) (.agg (pv two)) p=p:=fun {p}=>cR rfl;rw [aN,wX hlt,bQ,hp,RD S (.refl S)];simp only [all];refine Fm (two:=two) hx (UX _ (cK hlt)) (show e<18446744073709551616 by omega) ?_;simp only [all,same];have p1:=aFh l[i] e;refine⟨Iu fun j hj=>trivial,Iu fun j hj=>?_⟩;have le:bO S (aK S j (.row (nY [acc,pw l[i] e]) 22)):= .aI hj;refine XD (two:=two) hM (n:=n+1) hx (.own (l:=[acc,pw l[i] e]) aC (fun i z h=>by rw [eG];exact IP h) (by rw [nZ];simp)) (fun z hz=>?_) (by simp) ?_
  ·rcases List.mem_cons.1 hz with rfl | hz
   ·show z<18446744073709551616;omega
   ·rcases List.mem_cons.1 hz with rfl | hz
    ·show pw l[i] e<18446744073709551616;omega
    ·cases hz
  ·rw [aU,cQ (le _ _ hb) rfl]
   refine QG hx (show e<18446744073709551616 by omega) hi0 qQ ?_;rw [bE (by omega)];refine ih (i+1) m _ _ _ le (by omega) (by omega) (QO _) (iY _ (by decide)) ?_;rw [lP hlt]at he;exact he
theorem aSG (hM:1000000<M) (hx:Deep PP bI gM M (n+4) x){v:V}{l:List Nat}{i0:Nat} (hi0:EY i0) (h:NV S v l) (UX:LP l) (hl:l.length<1000000) (hK:K (nu (atG l i0)) S):x.call TF [.agg (pv two),v,nu i0] S K:=by
 refine hx.call rfl fun y hy=>?_;rw [aEa];unfold Rr;refine cA jV fun b hb=>?_;have dF:bO S (aK S b (.row (pv two) 29)):= .aI hb;have rb:aK S b (.row (pv two) 29) b=some (.row (pv two) 29):=aC;generalize aK S b (.row (pv two) 29)=S1 at dF rb;rw [lC rb];refine XD (two:=two) hM hy .nil (fun z hz=>by cases hz) (by simp) ?_;rw [aU,cQ rb rfl];refine QG hy (by decide) (by decide) qQ ?_;rw [(h.up dF).len,hy.most];exact aRi (two:=two) hM hy hi0 dF (h.up dF) UX hl rb hK l.length 0 M _ _ S1 (.refl S1) (by omega) (by omega) (QO _) (by decide) rfl
def Kw (x:Nat):Bool:=decide (1<=x)&&(decide (x<23)&&decide (pw x 11=1))
theorem aSH (hM:1000000<M) (hx:Deep PP bI gM M (n+3) x){z:Nat} (hz:EY z) (hK:K (.bool (Kw z)) S):x.call Dd [.agg (pv two),nu z] S K:=by
 refine hx.call rfl fun y hy=>?_;rw [aEb];unfold Rs gP gL gK gQ;refine cA jV fun b hb=>?_;have dF:bO S (aK S b (.row (pv two) 29)):= .aI hb;have rb:aK S b (.row (pv two) 29) b=some (.row (pv two) 29):=aC;generalize aK S b (.row (pv two) 29)=S1 at dF rb;rw [aIT];by_cases h1:1<=z
 ·rw [bF h1]
  simp only [aF,aM,aU,cQ (o:=0) rb rfl,aRh];by_cases h2:z<23
  ·rw [bF h2]
   simp only [dJ,aM,lC rb,aU,cQ (o:=1) rb rfl];refine Fm (two:=two) hy hz (by decide) ?_;rw [aNi];refine bL dF ?_;have:Kw z=decide (pw z 11=1):=by unfold Kw;rw [bF h1,bF h2];rfl
   rw [<-this];exact hK
  ·rw [bJ h2]
   simp only [dJ,eI,lZ,QP];refine bL dF ?_;have:Kw z=false:=by unfold Kw;rw [bF h1,bJ h2];rfl
   rw [this]at hK;exact hK
 ·rw [bJ h1]
  simp only [aF,lZ,QP,eI];refine bL dF ?_;have:Kw z=false:=by unfold Kw;rw [bJ h1];rfl
  rw [this]at hK;exact hK
end
set_option maxRecDepth 4000
section
variable{M n:Nat}{x:VE}{S S0:Hp}{K:KV}{two:Bool}
theorem aMF{v:V}{l:List Nat} (h:NV S v l) (hl:l.length<1000000){f:V}{p:Nat->Bool}
 (hf:∀a∈l,∀K:KV,K (.bool (p a)) S->lX x f [nu a] S K) (hT:l.any p=true->∀j:Nat,K (ni j) S) (hF:l.any p=false->K (.int .i64 (.negSucc 0)) S):
 ∀(r i m:Nat),i+r=l.length->r<m->(l.drop i).any p=l.any p->dV x m v f (ni l.length) (ni i) S K:=by
 intro r;induction r with
 | zero=>
  intro i m hi hm he;obtain⟨m,rfl⟩:=bG (show m≠0 by omega);rw [kW];unfold fU;refine aE ?_;rw [aN,iN (by omega),aW];rw [oS (by omega)]at he;exact aL (hF he.symm)
 | succ r ih=>
  intro i m hi hm he;obtain⟨m,rfl⟩:=bG (show m≠0 by omega);rw [kW];unfold fU;refine aE ?_;have hlt:i<l.length:=by omega
  obtain⟨q,hq,RD⟩:=h.at (i:=i) (aQ hlt);rw [aN,wX hlt,bQ,hq,RD S (.refl S)];refine hf l[i] (cK hlt) _ ?_;rw [lP hlt,List.any_cons]at he;cases hp:p l[i]with
  | true=>
   rw [hp,Bool.true_or]at he;rw [bQ];exact aL (hT he.symm i)
  | false=>
   rw [hp,Bo]at he;rw [aW,bE (by omega)];exact ih (i+1) m (by omega) (by omega) he
theorem aMG (hM:1000000<M) (hx:Deep PP bI gM M (n+2) x){v:V}{l:List Nat} (h:NV S v l) (hl:l.length<1000000){c:FuncId}{cs:List V}{p:Nat->Bool}
 (hf:∀y,Deep PP bI gM M n y->∀a∈l,∀K:KV,K (.bool (p a)) S->y.call c (nu a::cs) S K) (hK:K (.bool (l.any p)) S):x.call iE [v,.func c [] cs] S K:=by
 refine hx.call rfl fun y hy=>?_;rw [wF];unfold mN;refine hy.call rfl fun u hu=>?_;rw [yO];unfold oA;rw [h.len,hu.most];refine aMF (x:=u) (f:= .func c [] cs) h hl (p:=p) (fun a ha K hk=>hf u hu a ha K hk) (fun e j=>?_) (fun e=>?_) l.length 0 M (by omega) (by omega) rfl
 ·rw [e]at hK
  rw [zE];exact aL (by rw [bF (BG j)];exact hK)
 ·rw [e]at hK
  rw [CH];exact aL hK
theorem aKz{v:V}{l:List (List Nat)} (h:RL S0 S v l) (hl:l.length<1000000){f:V}{p:List Nat->Bool}
 (hf:∀a∈l,∀w,NL S0 S w a->∀K:KV,K (.bool (p a)) S->lX x f [w] S K) (hT:l.any p=true->∀j:Nat,K (ni j) S) (hF:l.any p=false->K (.int .i64 (.negSucc 0)) S):
 ∀(r i m:Nat),i+r=l.length->r<m->(l.drop i).any p=l.any p->cT x m v f (ni l.length) (ni i) S K:=by
 intro r;induction r with
 | zero=>
  intro i m hi hm he;obtain⟨m,rfl⟩:=bG (show m≠0 by omega);rw [gZ];unfold dQ;refine aE ?_;rw [aN,iN (by omega),aW];rw [oS (by omega)]at he;exact aL (hF he.symm)
 | succ r ih=>
  intro i m hi hm he;obtain⟨m,rfl⟩:=bG (show m≠0 by omega);rw [gZ];unfold dQ;refine aE ?_;have hlt:i<l.length:=by omega
  obtain⟨q,w,hq,RD,hw⟩:=h.at (i:=i) (aQ hlt);rw [aN,wX hlt,bQ,hq,RD S (.refl S)];refine hf l[i] (cK hlt) w hw _ ?_;rw [lP hlt,List.any_cons]at he;cases hp:p l[i]with
  | true=>
   rw [hp,Bool.true_or]at he;rw [bQ];exact aL (hT he.symm i)
  | false=>
   rw [hp,Bo]at he;rw [aW,bE (by omega)];exact ih (i+1) m (by omega) (by omega) he
theorem aCs (hM:1000000<M) (hx:Deep PP bI gM M (n+2) x){v:V}{l:List (List Nat)} (h:RL S0 S v l) (hl:l.length<1000000){c:FuncId}{cs:List V}{p:List Nat->Bool}
 (hf:∀y,Deep PP bI gM M n y->∀a∈l,∀w,NL S0 S w a->∀K:KV,K (.bool (p a)) S->y.call c (w::cs) S K) (hK:K (.bool (l.any p)) S):x.call cZ [v,.func c [] cs] S K:=by
 refine hx.call rfl fun y hy=>?_;rw [pY];unfold iP;refine hy.call rfl fun u hu=>?_;rw [rR];unfold jQ;rw [h.len,hu.most];refine aKz (x:=u) (f:= .func c [] cs) h hl (p:=p) (fun a ha w hw K hk=>hf u hu a ha w hw K hk) (fun e j=>?_) (fun e=>?_) l.length 0 M (by omega) (by omega) rfl
 ·rw [e]at hK
  rw [zE];exact aL (by rw [bF (BG j)];exact hK)
 ·rw [e]at hK
  rw [CH];exact aL hK
def xW (l:List (List Nat)):Bool:=decide (l.length=2)&& !(l.any fun c=> !decide (c.length=2) || c.any fun x=> !Kw x)
theorem aFI{t:TypeId}{a b:Nat}{k:V->Prop}:aH PP .neq t (ni a) (ni b) k=k (.bool (!decide (a=b))):=lV
theorem EI{op:KV->Prop}{S:Hp}{k:KV}:PE false (.bool true) op S k=k Gh S:=rfl
theorem aMH (hM:1000000<M) (hx:Deep PP bI gM M (n+4) x){b a:Nat} (ha:EY a) (rb:S b=some (.row (pv two) 29)) (hK:K (.bool (!Kw a)) S):x.call BU [nu a,.ptr b 0] S K:=by
 refine hx.call rfl fun y hy=>?_;rw [De];unfold MJ;rw [lC rb];refine aSH (two:=two) hM hy ha ?_;exact aL hK
theorem aPk (hM:1000000<M) (hx:Deep PP bI gM M (n+7) x){w:V}{l:List Nat}{b c:Nat} (hw:NL S0 S w l) (UX:LP l) (rb:S b=some (.row (pv two) 29)) (rc:S c=some (.row [ni 2] 3)) (hK:K (.bool (!decide (l.length=2) || l.any fun x=> !Kw x)) S):x.call GM [w,.ptr c 0,.ptr b 0] S K:=by
 refine hx.call rfl fun y hy=>?_;rw [Jh];unfold QU gL gK gQ;rw [hw.nv.len,cQ rc rfl,aFI];by_cases e:l.length=2
 ·rw [bF e]at hK ⊢
  simp only [aF,dD,aM];refine aMG (n:=n+4) hM hy hw.nv (by omega) (p:=fun x=> !Kw x) (fun u hu a ha K hk=>aMH (two:=two) hM hu (UX a ha) rb hk) ?_;exact aL hK
 ·rw [bJ e]at hK ⊢
  simp only [aF,uN,EI];exact aL hK
theorem aPl (hx:Deep PP bI gM M (n+1) x) (hK:K (ni 2) S):x.call BV [.agg (pv two)] S K:=by
 refine hx.call rfl fun y hy=>?_;rw [Df];unfold MK;refine cA jV fun b hb=>?_;rw [aU,cQ (o:=7) aC rfl,aU,cQ (o:=8) aC rfl,bE (by decide),Cn (by decide)];exact bL (.aI hb) hK
theorem aRj (hM:1000000<M) (hx:Deep PP bI gM M (n+10) x){v:V}{l:List (List Nat)} (h:RL S0 S v l) (UX:∀c∈l,LP c) (hK:K (.bool (xW l)) S):x.call MM [.agg (pv two),v,ni 2,ni 2] S K:=by
 refine hx.call rfl fun y hy=>?_;rw [Rt];unfold XY gP gL gK gQ;refine cA jV fun b hb=>?_;have dF:bO S (aK S b (.row (pv two) 29)):= .aI hb;have rb:aK S b (.row (pv two) 29) b=some (.row (pv two) 29):=aC;generalize aK S b (.row (pv two) 29)=S1 at dF rb;refine ZM rfl fun c hc=>?_;have fG:bO S1 (aK S1 c (.row [ni 2] 3)):= .aI hc;have rc:aK S1 c (.row [ni 2] 3) c=some (.row [ni 2] 3):=aC;generalize aK S1 c (.row [ni 2] 3)=S2 at fG rc;have rb:=fG _ _ rb;have le:=dF.trans fG;rw [(h.up le).len,uV];by_cases e:l.length=2
 ·have e2:xW l= !(l.any fun c=> !decide (c.length=2) || c.any fun x=> !Kw x):=by unfold xW;rw [bF e];rfl
  rw [bF e];simp only [aF,aM];refine aCs (n:=n+7) hM hy (h.up le) (by omega) (p:=fun c=> !decide (c.length=2) || c.any fun x=> !Kw x) (fun u hu a ha w hw K hk=>aPk (two:=two) hM hu hw (UX a ha) rb rc hk) ?_;rw [e2]at hK;exact bL le hK
 ·have e2:xW l=false:=by unfold xW;rw [bJ e];rfl
  rw [bJ e];simp only [aF,lZ];rw [e2]at hK;exact bL le hK
theorem aCt (hM:1000000<M) (hx:Deep PP bI gM M (n+11) x){v:V}{l:List (List Nat)} (h:RL S0 S v l) (UX:∀c∈l,LP c) (hK:K (.bool (xW l)) S):x.call wS [.agg (pv two),v] S K:=by
 refine hx.call rfl fun y hy=>?_;rw [Gv];unfold OH;refine cA jV fun b hb=>?_;have dF:bO S (aK S b (.row (pv two) 29)):= .aI hb;have rb:aK S b (.row (pv two) 29) b=some (.row (pv two) 29):=aC;generalize aK S b (.row (pv two) 29)=S1 at dF rb;have all:∀{K:KV},bN 12 (.ptr b 0) S1 K=K (.agg (pv two)) S1:=lC rb;have same:∀{p:Prop},aZ (.agg (pv two)) (.agg (pv two)) p=p:=fun {p}=>cR rfl;have l6:∀{K:KV},aT (.ptr b 6) S1 K=K (ni 1) S1:=cQ rb rfl;simp only [all,aU,l6];rw [show aH PP .add 3 (ni 1) (.int .i64 (.ofNat 1))=fun k=>k (ni 2)from by funext k;exact bE (by decide)];refine aPl (two:=two) hy ?_;simp only [all,same,l6,cS];refine aRj (two:=two) hM hy (h.up dF) UX ?_;simp only [l6,cS];exact bL dF hK
end
end Go.Am
set_option maxRecDepth 100000
namespace Go.Am
def mU (x:VE) (m:Nat) (t7 t8 t9 t26 t27:V) (S:Hp) (K:KV):Prop:=dG PP bI MG x [.r,.r,.r,.r,.l,.r,.d] m [] [t7,t8,t9,t26,t27] S K
def Rq (x:VE) (a0 a1 a2:V) (S:Hp) (K:KV):Prop:=
 iD 29 a0 S fun v0 S=>
 aP 6 v0 fun v1=>
 aT v1 S fun v2 S=>
 aH PP .add 3 v2 (.int .i64 (.ofNat 1)) fun v3=>
 aH PP .mul 3 v3 v3 fun v4=>
 aH PP .sub 3 v4 (.int .i64 (.ofNat 1)) fun v5=>
 aP 1 v0 fun v6=>
 aT v6 S fun v7 S=>
 x.call vW [a1,v5,v7,a2] S fun v8 S=>
 vMk 51 24 cU v3 v3 S fun v9 S=>
 bH v9 fun v10=>
 mU x x.most v3 v8 v9 v10 (.int .i64 (.ofNat 0)) S K
theorem aD9 (x:VE) (a0 a1 a2:V) (S:Hp) (K:KV):jI PP bI MG x [a0,a1,a2] S K=Rq x a0 a1 a2 S K:=by kernel_rfl
def zV (x:VE) (m0:Nat) (t7 t8 t9 t26 t27:V) (S:Hp) (K:KV):Prop:=
 cH S fun S=>
 aH PP .lss 3 t27 t26 fun v0=>
 fS v0 (aH PP .mul 3 t27 t7 fun v1=>aH PP .add 3 t27 (.int .i64 (.ofNat 1)) fun v2=>aH PP .mul 3 v2 t7 fun v3=>aH PP .add 3 t27 (.int .i64 (.ofNat 1)) fun v4=>aH PP .mul 3 v4 t7 fun v5=>LU 22 1 t8 (some v1) (some v3) (some v5) S fun v6=>cF 1 t9 t27 fun v7=>mL 1 v7 v6 S fun S=>aH PP .add 3 t27 (.int .i64 (.ofNat 1)) fun v8=>mU x m0 t7 t8 t9 t26 v8 S K) (bD t9 S K)
theorem JJ (x:VE) (m0:Nat) (t7 t8 t9 t26 t27:V) (S:Hp) (K:KV):mU x (m0+1) t7 t8 t9 t26 t27 S K=zV x m0 t7 t8 t9 t26 t27 S K:=by kernel_rfl
def pT (x:VE) (m:Nat) (t0 t1 t5 t11 t12:V) (S:Hp) (K:KV):Prop:=dG PP bI rO x [.r,.r,.l,.r,.d] m [] [t0,t1,t5,t11,t12] S K
def Fv (x:VE) (a0 a1:V) (S:Hp) (K:KV):Prop:=
 bH a0 fun v0=>
 vMk 145 16 GA v0 v0 S fun v1 S=>
 bH v1 fun v2=>
 pT x x.most a0 a1 v1 v2 (.int .i64 (.ofNat 0)) S K
theorem Zr (x:VE) (a0 a1:V) (S:Hp) (K:KV):jI PP bI rO x [a0,a1] S K=Fv x a0 a1 S K:=by kernel_rfl
def zH (x:VE) (m0:Nat) (t0 t1 t5 t11 t12:V) (S:Hp) (K:KV):Prop:=
 cH S fun S=>
 aH PP .lss 3 t12 t11 fun v0=>
 fS v0 (cF 1 t0 t12 fun v1=>aT v1 S fun v2 S=>cF 1 t1 t12 fun v3=>aT v3 S fun v4 S=>cV GA [(0,1,v2),(1,1,v4)] fun v5=>cF 2 t5 t12 fun v6=>mL 2 v6 v5 S fun S=>aH PP .add 3 t12 (.int .i64 (.ofNat 1)) fun v7=>pT x m0 t0 t1 t5 t11 v7 S K) (bD t5 S K)
theorem IZ (x:VE) (m0:Nat) (t0 t1 t5 t11 t12:V) (S:Hp) (K:KV):pT x (m0+1) t0 t1 t5 t11 t12 S K=zH x m0 t0 t1 t5 t11 t12 S K:=by kernel_rfl
def NX (x:VE) (a0 a1 a2:V) (S:Hp) (K:KV):Prop:=
 iD 29 a0 S fun v0 S=>
 cW cU 76 S fun v1 S=>
 x.call kV [a1,a2] S fun v2 S=>
 PG x v2 [3,7] [v0,v1] 23 (DV PP bP [.r,.r,.l,.r,.d]) (DW PP bP [.r,.r,.l,.r,.d]) (yK PP bP [.r,.r,.l,.r,.d]) S fun pe S=>
 UA pe (aT v1 S fun v4 S=>bD v4 S K) (bD .nil S K) (fun v3=>Au v3 0 (aT v1 S fun v5 S=>bD v5 S K) (False))
theorem Fp (x:VE) (a0 a1 a2:V) (S:Hp) (K:KV):jI PP bI bP x [a0,a1,a2] S K=NX x a0 a1 a2 S K:=by kernel_rfl
def AJ (x:VE) (l:Nat) (t3 t7 a0 a1:V) (S:Hp) (K:KV):Prop:=
 At l S fun S=>
 aT t7 S fun v0 S=>
 bN 12 t3 S fun v1 S=>
 x.call aR [v1,a0,a1] S fun v2 S=>
 aT t7 S fun v3 _=>
 aZ v3 v0 (aT t7 S fun v4 _=>aZ v4 v0 ((aS 33 1 cU [(0,1,v2)] S fun v5 S=>True)/\(aS 33 1 cU [(0,1,v2)] S fun v6 S=>jT 33 1 24 v0 v6 S fun v7 S=>mL 1 t7 v7 S fun S=>JI l .ready none true S K)))
theorem QN (x:VE) (l:Nat) (t3 t7 a0 a1:V) (S:Hp) (K:KV):XT PP bI x 23 (DV PP bP [.r,.r,.l,.r,.d]) (DW PP bP [.r,.r,.l,.r,.d]) (yK PP bP [.r,.r,.l,.r,.d]) l [t3,t7] [a0,a1] S K=AJ x l t3 t7 a0 a1 S K:=by kernel_rfl
theorem QM:[3,7]=Ag bI 23 (yK PP bP [.r,.r,.l,.r,.d]):=by kernel_rfl
def qL (x:VE) (a0 a1:V) (S:Hp) (K:KV):Prop:=
 iD 76 a0 S fun v0 S=>
 iD 76 a1 S fun v1 S=>
 bD (.func dY [] [v0,v1]) S K
theorem CP (x:VE) (a0 a1:V) (S:Hp) (K:KV):jI PP bI kV x [a0,a1] S K=qL x a0 a1 S K:=by kernel_rfl
def eX (x:VE) (m:Nat) (t0 t1 t2 t9 t10:V) (S:Hp) (K:KV):Prop:=dG PP bI dY x [.r,.d] m [] [t0,t1,t2,t9,t10] S K
def pE (x:VE) (a0 a1 a2:V) (S:Hp) (K:KV):Prop:=
 aT a1 S fun v0 S=>
 bH v0 fun v1=>
 aT a2 S fun v2 S=>
 bH v2 fun v3=>
 Cq true v1 v3 fun v4=>
 eX x x.most a0 a1 a2 v4 (.int .i64 (.ofNat 0)) S K
theorem AI (x:VE) (a0 a1 a2:V) (S:Hp) (K:KV):jI PP bI dY x [a0,a1,a2] S K=pE x a0 a1 a2 S K:=by kernel_rfl
def iJ (x:VE) (m0:Nat) (t0 t1 t2 t9 t10:V) (S:Hp) (K:KV):Prop:=
 cH S fun S=>
 aH PP .lss 3 t10 t9 fun v0=>
 fS v0 (aT t1 S fun v1 S=>aT t2 S fun v2 S=>x.call jE [v1,t10] S fun v3 S=>aT t2 S fun v4 _=>aZ v4 v2 (x.call jE [v2,t10] S fun v5 S=>lX x t0 [v3,v5] S fun v6 S=>SO .not v6 fun v7=>fS v7 (bD (.tuple []) S K) (aH PP .add 3 t10 (.int .i64 (.ofNat 1)) fun v8=>eX x m0 t0 t1 t2 t9 v8 S K))) (bD (.tuple []) S K)
theorem mW (x:VE) (m0:Nat) (t0 t1 t2 t9 t10:V) (S:Hp) (K:KV):eX x (m0+1) t0 t1 t2 t9 t10 S K=iJ x m0 t0 t1 t2 t9 t10 S K:=by kernel_rfl
def tH (x:VE) (a0 a1:V) (S:Hp) (K:KV):Prop:=
 bH a0 fun v0=>
 aH PP .geq 3 a1 v0 fun v1=>
 fS v1 (bD .nil S K) (cF 1 a0 a1 fun v2=>aT v2 S fun v3 S=>bD v3 S K)
theorem GE (x:VE) (a0 a1:V) (S:Hp) (K:KV):jI PP bI jE x [a0,a1] S K=tH x a0 a1 S K:=by kernel_rfl
def Km (x:VE) (a0 a1 a2:V) (S:Hp) (K:KV):Prop:=
 iD 22 a1 S fun v0 S=>
 iD 22 a2 S fun v1 S=>
 x.call EA [a0] S fun v2 S=>
 vMk 22 8 iC v2 v2 S fun v3 S=>
 cW cU 51 S fun v4 S=>
 mL 1 v4 v3 S fun S=>
 x.call IS [a0] S fun v5 S=>
 PG x v5 [4,5,7] [v0,v1,v4] 25 (DV PP cL [.r,.r,.l,.r,.d]) (DW PP cL [.r,.r,.l,.r,.d]) (yK PP cL [.r,.r,.l,.r,.d]) S fun pe S=>
 UA pe (aT v4 S fun v7 S=>bD v7 S K) (bD .nil S K) (fun v6=>Au v6 0 (aT v4 S fun v8 S=>bD v8 S K) (False))
theorem aBS (x:VE) (a0 a1 a2:V) (S:Hp) (K:KV):jI PP bI cL x [a0,a1,a2] S K=Km x a0 a1 a2 S K:=by kernel_rfl
def LY (x:VE) (l:Nat) (t4 t5 t7 a0 a1:V) (S:Hp) (K:KV):Prop:=
 At l S fun S=>
 aT t7 S fun v0 S=>
 aT t4 S fun v1 S=>
 aT t5 S fun v2 S=>
 x.call xR [a1,v1,v2] S fun v3 S=>
 aT t7 S fun v4 _=>
 aZ v4 v0 (cF 1 v0 a0 fun v5=>mL 1 v5 v3 S fun S=>JI l .ready none true S K)
theorem Fu (x:VE) (l:Nat) (t4 t5 t7 a0 a1:V) (S:Hp) (K:KV):XT PP bI x 25 (DV PP cL [.r,.r,.l,.r,.d]) (DW PP cL [.r,.r,.l,.r,.d]) (yK PP cL [.r,.r,.l,.r,.d]) l [t4,t5,t7] [a0,a1] S K=LY x l t4 t5 t7 a0 a1 S K:=by kernel_rfl
theorem Ft:[4,5,7]=Ag bI 25 (yK PP cL [.r,.r,.l,.r,.d]):=by kernel_rfl
def rN (x:VE) (m:Nat) (t1 t2 t7 t13 t14 t15:V) (S:Hp) (K:KV):Prop:=dG PP bI nM x [.r,.r,.l,.r,.d] m [] [t1,t2,t7,t13,t14,t15] S K
def Ko (x:VE) (a0 a1 a2:V) (S:Hp) (K:KV):Prop:=
 bH a0 fun v0=>
 vMk 22 8 iC v0 v0 S fun v1 S=>
 bH a0 fun v2=>
 rN x x.most a1 a2 v1 a0 v2 (.int .i64 (.ofNat 0)) S K
theorem aBT (x:VE) (a0 a1 a2:V) (S:Hp) (K:KV):jI PP bI nM x [a0,a1,a2] S K=Ko x a0 a1 a2 S K:=by kernel_rfl
def BS (x:VE) (m0:Nat) (t1 t2 t7 t13 t14 t15:V) (S:Hp) (K:KV):Prop:=
 cH S fun S=>
 aH PP .lss 3 t15 t14 fun v0=>
 fS v0 (cF 1 t13 t15 fun v1=>aT v1 S fun v2 S=>x.call xR [v2,t1,t2] S fun v3 S=>cF 1 t7 t15 fun v4=>mL 1 v4 v3 S fun S=>aH PP .add 3 t15 (.int .i64 (.ofNat 1)) fun v5=>rN x m0 t1 t2 t7 t13 t14 v5 S K) (bD t7 S K)
theorem LZ (x:VE) (m0:Nat) (t1 t2 t7 t13 t14 t15:V) (S:Hp) (K:KV):rN x (m0+1) t1 t2 t7 t13 t14 t15 S K=BS x m0 t1 t2 t7 t13 t14 t15 S K:=by kernel_rfl
def uW (x:VE) (m:Nat) (t3 t6 t7 t8:V) (S:Hp) (K:KV):Prop:=dG PP bI EA x [.r,.r,.l,.r,.d] m [] [t3,t6,t7,t8] S K
def Fq (x:VE) (a0:V) (S:Hp) (K:KV):Prop:=
 bH a0 fun v0=>
 uW x x.most (.int .i64 (.ofNat 0)) a0 v0 (.int .i64 (.ofNat 0)) S K
theorem Zq (x:VE) (a0:V) (S:Hp) (K:KV):jI PP bI EA x [a0] S K=Fq x a0 S K:=by kernel_rfl
def zG (x:VE) (m0:Nat) (t3 t6 t7 t8:V) (S:Hp) (K:KV):Prop:=
 cH S fun S=>
 aH PP .lss 3 t8 t7 fun v0=>
 fS v0 (cF 1 t6 t8 fun v1=>aT v1 S fun v2 S=>bH v2 fun v3=>Cq true t3 v3 fun v4=>aH PP .add 3 t8 (.int .i64 (.ofNat 1)) fun v5=>uW x m0 v4 t6 t7 v5 S K) (bD t3 S K)
theorem IX (x:VE) (m0:Nat) (t3 t6 t7 t8:V) (S:Hp) (K:KV):uW x (m0+1) t3 t6 t7 t8 S K=zG x m0 t3 t6 t7 t8 S K:=by kernel_rfl
def TZ (x:VE) (a0:V) (S:Hp) (K:KV):Prop:=
 iD 33 a0 S fun v0 S=>
 aT v0 S fun v1 S=>
 x.call Az [v1] S fun v2 S=>
 cW [.nilFunc] 272 S fun v3 S=>
 mL 1 v3 v2 S fun S=>
 bD (.func lD [] [v0,v3]) S K
theorem Lm (x:VE) (a0:V) (S:Hp) (K:KV):jI PP bI IS x [a0] S K=TZ x a0 S K:=by kernel_rfl
def nL (x:VE) (m:Nat) (t0 t1 t2 t8 t9:V) (S:Hp) (K:KV):Prop:=dG PP bI lD x [.r,.d] m [] [t0,t1,t2,t8,t9] S K
def jF (x:VE) (m:Nat) (m0:Nat) (t0 t1 t2 t4 t5 t8 t9 t13 t14:V) (S:Hp) (K:KV):Prop:=dG PP bI lD x [.r,.d,.d,.r,.r,.l,.d,.r,.r,.l,.r,.d] m [m0] [t0,t1,t2,t4,t5,t8,t9,t13,t14] S K
def NY (x:VE) (a0 a1 a2:V) (S:Hp) (K:KV):Prop:=
 aT a1 S fun v0 S=>
 x.call EA [v0] S fun v1 S=>
 nL x x.most a0 a1 a2 v1 (.int .i64 (.ofNat 0)) S K
theorem Fs (x:VE) (a0 a1 a2:V) (S:Hp) (K:KV):jI PP bI lD x [a0,a1,a2] S K=NY x a0 a1 a2 S K:=by kernel_rfl
def wA (x:VE) (m0:Nat) (t0 t1 t2 t8 t9:V) (S:Hp) (K:KV):Prop:=
 cH S fun S=>
 aH PP .lss 3 t9 t8 fun v0=>
 fS v0 (aT t1 S fun v1 S=>bH v1 fun v2=>jF x x.most m0 t0 t1 t2 t9 .nil t8 t9 v2 (.int .i64 (.ofNat 0)) S K) (bD (.tuple []) S K)
theorem FE (x:VE) (m0:Nat) (t0 t1 t2 t8 t9:V) (S:Hp) (K:KV):nL x (m0+1) t0 t1 t2 t8 t9 S K=wA x m0 t0 t1 t2 t8 t9 S K:=by kernel_rfl
def lY (x:VE) (m1:Nat) (m0:Nat) (t0 t1 t2 t4 t5 t8 t9 t13 t14:V) (S:Hp) (K:KV):Prop:=
 cH S fun S=>
 aH PP .lss 3 t14 t13 fun v0=>
 fS v0 (aT t2 S fun v1 S=>lX x v1 [t14,t4] S fun v2 S=>aS 22 1 iC [(0,1,v2)] S fun v3 S=>jT 22 1 8 t5 v3 S fun v4 S=>aH PP .add 3 t14 (.int .i64 (.ofNat 1)) fun v5=>jF x m1 m0 t0 t1 t2 t4 v4 t8 t9 t13 v5 S K) (lX x t0 [t4,t5] S fun v6 S=>SO .not v6 fun v7=>fS v7 (bD (.tuple []) S K) (aH PP .add 3 t9 (.int .i64 (.ofNat 1)) fun v8=>nL x m0 t0 t1 t2 t8 v8 S K))
theorem sL (x:VE) (m1:Nat) (m0:Nat) (t0 t1 t2 t4 t5 t8 t9 t13 t14:V) (S:Hp) (K:KV):jF x (m1+1) m0 t0 t1 t2 t4 t5 t8 t9 t13 t14 S K=lY x m1 m0 t0 t1 t2 t4 t5 t8 t9 t13 t14 S K:=by kernel_rfl
def Al (x:VE) (a0:V) (S:Hp) (K:KV):Prop:=
 iD 33 a0 S fun v0 S=>
 bD (.func kG [] [v0]) S K
theorem Ua (x:VE) (a0:V) (S:Hp) (K:KV):jI PP bI Az x [a0] S K=Al x a0 S K:=by kernel_rfl
def TY (x:VE) (a0 a1 a2:V) (S:Hp) (K:KV):Prop:=
 aT a2 S fun v0 S=>
 cF 1 v0 a0 fun v1=>
 aT v1 S fun v2 S=>
 bH v2 fun v3=>
 aH PP .geq 3 a1 v3 fun v4=>
 fS v4 (bD (.int .u64 (.ofNat 0)) S K) (aT a2 S fun v5 S=>cF 1 v5 a0 fun v6=>aT v6 S fun v7 S=>cF 1 v7 a1 fun v8=>aT v8 S fun v9 S=>bD v9 S K)
theorem Ll (x:VE) (a0 a1 a2:V) (S:Hp) (K:KV):jI PP bI kG x [a0,a1,a2] S K=TY x a0 a1 a2 S K:=by kernel_rfl
end Go.Am
set_option maxRecDepth 4000
namespace Go.Am
open Go.Proofs.NQ
def AG (n:Nat) (l:List Nat):List (List Nat):=(List.range n).map fun i=>(l.drop (i*n)).take n
theorem Iw (n:Nat) (l:List Nat):(AG n l).length=n:=by unfold AG;simp
theorem aI3 (l:List Nat) (k:Nat):(jK l).drop k=jK (l.drop k):=by unfold jK;rw [List.map_drop]
theorem aI4 (l:List Nat) (k:Nat):(jK l).take k=jK (l.take k):=by unfold jK;rw [List.map_take]
section
variable{M n:Nat}{x:VE}{S:Hp}{K:KV}{two:Bool}{t d:Nat}{s:BitVec 64}{ah:List Nat}
def tQ (two:Bool):Nat:=(tT two+1)*(tT two+1)-1
end
end Go.Am
set_option maxRecDepth 4000
namespace Go.Am
def mD (l:List (List (List Nat))):List Dt:=l.map fun m=> .list (dS m) m.length
theorem SQ (l:List (List (List Nat))):(mD l).length=l.length:=lR _
theorem aBQ{l:List (List (List Nat))}{i:Nat}{m:List (List Nat)} (h:l[i]? =some m):(mD l)[i]? =some (.list (dS m) m.length):=by unfold mD;rw [dO,h];rfl
theorem Zp (l m:List (List (List Nat))):mD (l++m)=mD l++mD m:=RI
def tG (fs bs:List (List (List Nat))):List (List (List Nat)):=List.zipWith iO fs bs
theorem aGM{f r:List (List (List Nat))}{i:Nat} (h1:i<f.length) (h2:i<r.length):(tG f r).take (i+1)=(tG f r).take i++[iO f[i] r[i]]:=by
 have hl:i<(List.zipWith iO f r).length:=by rw [uM];omega
 show(List.zipWith iO f r).take (i+1)=(List.zipWith iO f r).take i++[iO f[i] r[i]];rw [KM,aQ hl,Nm];rfl
section
variable{M n:Nat}{x:VE}{S S0:Hp}{K:KV}{two:Bool}
theorem aNr (hx:Deep PP bI gM M (n+1) x){v:V}{ls:List (List (List Nat))} (h:GL 33 S0 S v (mD ls)){i:Nat} (hi:i<ls.length) (hK:∀t,K (.list t (dS ls[i]) ls[i].length) S):x.call jE [v,ni i] S K:=by
 refine hx.call rfl fun y hy=>?_;rw [GE];unfold tH;obtain⟨p,t,hp,RD⟩:=h.at (aBQ (aQ hi));rw [h.len,SQ,zE,bJ (by omega),aW,hp,RD S (.refl S)];exact aL (hK t)
theorem aI5 (hx:Deep PP bI gM M (n+1) x){v w:V} (h1:fR v=true) (h2:fR w=true) (hK:∀b1 b2 S',S b1=none->S b2=none->b1≠b2->bO S S'->S' b1=some (.row [v] 76)->S' b2=some (.row [w] 76)->K (.func dY [] [.ptr b1 0,.ptr b2 0]) S'):x.call kV [v,w] S K:=by
 refine hx.call rfl fun y hy=>?_;rw [CP];unfold qL;refine ZM h1 fun b1 Dl=>ZM h2 fun b2 NH=>aL ?_;have dF:bO S (aK S b1 (.row [v] 76)):= .aI Dl;have oJ:b1≠b2:=fun e=>by rw [<-e,aC]at NH;cases NH
 exact hK b1 b2 _ Dl (dF.none NH) oJ (dF.trans (.aI NH)) (by rw [aB oJ];exact aC) aC
theorem aI6 (hM:1000000<M) (hx:Deep PP bI gM M (n+3) x){l b1 b2:Nat}{va vb:V}{a b:List (List (List Nat))} (hlen:b.length=a.length) (hl:a.length<1000000){Inv:Nat->Hp->Prop}{Oa:Hp} (hI:∀i S,Inv i S->S b1=some (.row [va] 76)/\S b2=some (.row [vb] 76)/\GL 33 Oa S va (mD a)/\GL 33 Oa S vb (mD b))
 (step:∀(y:VE),Deep PP bI gM M (n+2) y->∀(i:Nat) (S:Hp) (h1:i<a.length) (h2:i<b.length) (t1 t2:Tag) (K:KV),Inv i S->(∀S',Inv (i+1) S'->K (.bool true) S')->y.R l [.list t1 (dS a[i]) a[i].length,.list t2 (dS b[i]) b[i].length] S K) (h0:Inv 0 S) (hK:∀S,Inv a.length S->K (.tuple []) S):x.call dY [.yield l,.ptr b1 0,.ptr b2 0] S K:=by
 refine hx.call rfl fun y hy=>?_;rw [AI];unfold pE;obtain⟨q1,q2,q3,q4⟩:=hI 0 S h0;rw [cQ q1 rfl,q3.len,cQ q2 rfl,q4.len,SQ,SQ,hlen,aDs,hy.most]
 have:∀(r i m:Nat) (S:Hp),i+r=a.length->r<m->Inv i S->eX y m (.yield l) (.ptr b1 0) (.ptr b2 0) (ni a.length) (ni i) S K:=by
  intro r;induction r with
  | zero=>
   intro i m S hi hm h;obtain⟨m,rfl⟩:=bG (show m≠0 by omega);rw [mW];unfold iJ;refine aE ?_;rw [aN,iN (by omega),aW];have e:i=a.length:=by omega
   subst e;exact aL (hK S h)
  | succ r ih=>
   intro i m S hi hm h;obtain⟨m,rfl⟩:=bG (show m≠0 by omega);rw [mW];unfold iJ;refine aE ?_;obtain⟨q1,q2,q3,q4⟩:=hI i S h;rw [aN,wX (by omega),bQ,cQ q1 rfl,cQ q2 rfl];refine aNr hy q3 (show i<a.length by omega) fun t1=>?_;rw [cQ q2 rfl,cR q4.same];refine aNr hy q4 (show i<b.length by omega) fun t2=>?_;refine step y hy i S (by omega) (by omega) t1 t2 _ h fun S' h'=>?_;rw [lW,dD,aW,bE (by omega)];exact ih (i+1) m S' (by omega) (by omega) h'
 exact this a.length 0 M S (by omega) (by omega) h0
def loM (a b:Nat) (st:LoopState):Ob:= .loop [3,7] [.ptr a 0,.ptr b 0] 23 (DV PP bP [.r,.r,.l,.r,.d]) (DW PP bP [.r,.r,.l,.r,.d]) (yK PP bP [.r,.r,.l,.r,.d]) st none
structure aLZ (SA:Hp) (bp bo b1 b2 l:Nat) (two:Bool) (vf vr:V) (fs rs:List (List (List Nat))) (i:Nat) (S:Hp):Prop where
 le:bO SA S
 n1:SA bo=none
 n2:SA l=none
 rp:S bp=some (.row (pv two) 29)
 u:∃u,S bo=some (.row [u] 76)/\GL 33 SA S u (mD ((tG fs rs).take i))
 lo:S l=some (loM bp bo .ready)
 r1:S b1=some (.row [vf] 76)
 r2:S b2=some (.row [vr] 76)
 d1:bo≠l
 d2:bo≠b1
 d3:bo≠b2
 d4:l≠b1
 d5:l≠b2
 d6:bo≠bp
 d7:l≠bp
def Sq (f r:List (List Nat)):Prop:=(∀q∈f,LP q)/\(∀q∈r,LP q)/\(∀q∈f,q.length<100000)/\f.length<100000/\r.length=f.length/\∀i (h1:i<f.length) (h2:i<r.length),r[i].length=f[i].length
theorem aBR (hM:1000000<M) (hx:Deep PP bI gM M (n+16) x){SA:Hp}{bp bo b1 b2 l:Nat}{vf vr:V}{fs rs:List (List (List Nat))} (XC:fs.length<100000){i:Nat}{S:Hp} (h1:i<fs.length) (h2:i<rs.length) (hsq:Sq fs[i] rs[i]){t1 t2:Tag}{K:KV}
 (h:aLZ SA bp bo b1 b2 l two vf vr fs rs i S) (hK:∀S',aLZ SA bp bo b1 b2 l two vf vr fs rs (i+1) S'->K (.bool true) S'):x.R l [.list t1 (dS fs[i]) fs[i].length,.list t2 (dS rs[i]) rs[i].length] S K:=by
 obtain⟨s1,s2,s3,s4,s5,s6⟩:=hsq;refine hx.round fun y hy=>?_;refine QK (st:= .ready) (pe:=none) h.lo QM ?_;rw [QN];unfold AJ;refine XG h.lo ?_;obtain⟨v,hv,mv⟩:=h.u;have hbz:aK S l (.loop [3,7] [.ptr bp 0,.ptr bo 0] 23 (DV PP bP [.r,.r,.l,.r,.d]) (DW PP bP [.r,.r,.l,.r,.d]) (yK PP bP [.r,.r,.l,.r,.d]) .busy none)=aK S l (loM bp bo .busy):=rfl;rw [hbz];have k1:bO SA (aK S l (loM bp bo .busy)):=FD h.le h.n2;have kl:aK S l (loM bp bo .busy) l=some (loM bp bo .busy):=aC;have ko:aK S l (loM bp bo .busy) bo=some (.row [v] 76):=by rw [aB h.d1];exact hv
 have kp:aK S l (loM bp bo .busy) bp=some (.row (pv two) 29):=by rw [aB (aO h.d7)];exact h.rp
 have k3:aK S l (loM bp bo .busy) b1=some (.row [vf] 76):=by rw [aB (aO h.d4)];exact h.r1
 have k4:aK S l (loM bp bo .busy) b2=some (.row [vr] 76):=by rw [aB (aO h.d5)];exact h.r2
 have km:GL 33 SA (aK S l (loM bp bo .busy)) v (mD ((tG fs rs).take i)):=mv.set h.lo (fun vs m e=>by cases e);generalize aK S l (loM bp bo .busy)=S1 at k1 kl ko kp k3 k4 km
 have lp:bN 12 (.ptr bp 0) S1=fun K=>K (.agg (pv two)) S1:=by
  funext K
  rw [tC kp,dL (by rw [BP];omega),xG,lQ (by rw [BP];omega)]
 rw [cQ ko rfl,lp];refine aLY (n:=n) (O:=S1) hM hy s1 s2 s3 s4 s5 s6 .val .val fun t3=>?_;have sv:∀{q:Prop},aZ v v q=q:=fun {q}=>cR km.same;rw [cQ ko rfl,sv,cQ ko rfl,sv];have hT:∀{K:KV},(∀j,S1 j=none->K (.own j 0 1 1) (aK S1 j (.row [.list t3 (dS (iO fs[i] rs[i])) (iO fs[i] rs[i]).length] 33)))->aS 33 1 cU [(0,1,.list t3 (dS (iO fs[i] rs[i])) (iO fs[i] rs[i]).length)] S1 K:=fun {K} hk=>⟨rfl,by simp,hk⟩;refine⟨hT fun _ _=>trivial,?_⟩;refine km.app (t:=t3) (d:= .list (dS (iO fs[i] rs[i])) (iO fs[i] rs[i]).length) (z:= .slice none 0 0) (zv:= .nil) k1 (by rw [SQ,mP];omega) rfl (by decide) fun u6 S6 NW p6 w6 m6=>?_;have e6:mD ((tG fs rs).take i)++[.list (dS (iO fs[i] rs[i])) (iO fs[i] rs[i]).length]=mD ((tG fs rs).take (i+1)):=by rw [aGM h1 h2,Zp];rfl
 rw [e6]at m6
 have q:∀{j:Nat} {o:Ob},S1 j=some o->(∀vs m,o≠ .fW vs 33 m)->S6 j=some o:=fun {j o} e xC=>p6 _ _ e fun m c=>by
  obtain⟨vs,n,e2⟩:=km.there c;rw [e]at e2;injection e2 with e2;exact xC _ _ e2
 have o6':=q ko (fun vs m e=>by cases e);have l6:=q kl (fun vs m e=>by cases e);rw [DT o6' (by simp) m6.one];have l7:aK S6 bo (.row ([v].set 0 u6) 76) l=some (loM bp bo .busy):=by rw [aB (aO h.d1)];exact l6
 refine XH l7 (hK _ ⟨FD (FD NW h.n1) h.n2,h.n1,h.n2,?_,⟨u6,by rw [aB h.d1];exact aC,?_⟩,aC,?_,?_,h.d1,h.d2,h.d3,h.d4,h.d5,h.d6,h.d7⟩)
 ·rw [aB (aO h.d7),aB (aO h.d6)];exact q kp (fun vs m e=>by cases e)
 ·exact(m6.set o6' (fun vs m e=>by cases e)).set l7 (fun vs m e=>by cases e)
 ·rw [aB (aO h.d4),aB (aO h.d2)];exact q k3 (fun vs m e=>by cases e)
 ·rw [aB (aO h.d5),aB (aO h.d3)];exact q k4 (fun vs m e=>by cases e)
theorem aI7 (hM:1000000<M) (hx:Deep PP bI gM M (n+20) x){SA O:Hp}{vf vr:V}{fs rs:List (List (List Nat))} (XC:fs.length<100000) (hlen:rs.length=fs.length) (hsq:∀i (h1:i<fs.length) (h2:i<rs.length),Sq fs[i] rs[i])
 (mf:GL 33 O SA vf (mD fs)) (mr:GL 33 O SA vr (mD rs)) (hK:∀t,K (.list t (mD (tG fs rs)) (tG fs rs).length) SA):x.call bP [.agg (pv two),vf,vr] SA K:=by
 refine hx.call rfl fun y hy=>?_;rw [Fp];unfold NX;refine cA jV fun bp Qd=>?_;have dF:bO SA (aK SA bp (.row (pv two) 29)):= .aI Qd;have rp:aK SA bp (.row (pv two) 29) bp=some (.row (pv two) 29):=aC;generalize aK SA bp (.row (pv two) 29)=S1 at dF rp;refine cB rfl fun bo hbo=>?_;have fG:bO S1 (aK S1 bo (.row [.nil] 76)):= .aI hbo;have ro:aK S1 bo (.row [.nil] 76) bo=some (.row [.nil] 76):=aC;generalize aK S1 bo (.row [.nil] 76)=S2 at fG ro;refine aI5 hy mf.one mr.one fun b1 b2 S3 n1 n2 d12 pR r1 r2=>?_;refine QL fun l hl=>?_;have hlo:aK S3 l (.loop [3,7] [.ptr bp 0,.ptr bo 0] 23 (DV PP bP [.r,.r,.l,.r,.d]) (DW PP bP [.r,.r,.l,.r,.d]) (yK PP bP [.r,.r,.l,.r,.d]) .ready none)=aK S3 l (loM bp bo .ready):=rfl;rw [hlo];have ro3:=pR _ _ ro;have Lk:=pR _ _ (fG _ _ rp);have EV:=(dF.trans fG).trans pR
 have q0:aLZ SA bp bo b1 b2 l two vf vr fs rs 0 (aK S3 l (loM bp bo .ready)):=
  ⟨EV.trans (.aI hl),dF.none hbo,EV.none hl,by rw [aB (aO (fY hl Lk))];exact Lk,⟨.nil,by rw [aB (aO (fY hl ro3))];exact ro3,.nil⟩,aC,by rw [aB (aO (fY hl r1))];exact r1,by rw [aB (aO (fY hl r2))];exact r2,
   aO (fY hl ro3),aO (fY n1 ro),aO (fY n2 ro),fY hl r1,fY hl r2,fY hbo rp,fY hl Lk⟩
 refine aI6 (n:=n+16) hM hy hlen (by omega) (Inv:=aLZ SA bp bo b1 b2 l two vf vr fs rs) (Oa:=O) (fun j S q=>⟨q.r1,q.r2,mf.up q.le,mr.up q.le⟩) (fun z hz j S a b t1 t2 K q hk=>aBR (n:=n+2) hM hz XC a b (hsq j a b) q hk) q0 fun S4 q4=>?_;obtain⟨u4,ru4,m4⟩:=q4.u;have aQB:(tG fs rs).length=fs.length:=by unfold tG;rw [uM];omega
 rw [lQ (by omega)]at m4;refine XI q4.lo (by simp) ?_;rw [Fo];obtain⟨ob,hex⟩:∃ob,aK S4 l (.loop [3,7] [.ptr bp 0,.ptr bo 0] 23 (DV PP bP [.r,.r,.l,.r,.d]) (DW PP bP [.r,.r,.l,.r,.d]) (yK PP bP [.r,.r,.l,.r,.d]) .exhausted none)=aK S4 l ob:=⟨_,rfl⟩;rw [hex];have DY:bO SA (aK S4 l ob):=FD q4.le q4.n2;have ru5:aK S4 l ob bo=some (.row [u4] 76):=by rw [aB q4.d1];exact ru4
 have m5:GL 33 SA (aK S4 l ob) u4 (mD (tG fs rs)):=m4.set q4.lo (fun vs m e=>by cases e);rw [cQ ru5 rfl];have fz:=m5.Cm;rw [SQ]at fz;exact gJ DY fz hK
end
end Go.Am
set_option maxRecDepth 4000
namespace Go.Am
open Go.Proofs.NQ
def Qh (m:List (List Nat)):Nat:=m.foldl (fun n l=>max n l.length) 0
theorem aL0{k:Nat}:∀(m:List (List Nat)) (n:Nat),(∀q∈m,q.length=k)->n<=k->0<m.length->m.foldl (fun n l=>max n l.length) n=k:=by
 intro m;induction m with
 | nil=>intro n _ _ h;cases h
 | cons a m ih=>
  intro n h hn _;have ha:a.length=k:=h a List.mem_cons_self;rw [Nr,ha,Nat.max_eq_right hn];cases m with
  | nil=>rfl
  | cons b m=>exact ih k (fun q hq=>h q (List.mem_cons_of_mem _ hq)) (bR _) (by simp)
theorem aQF{a b:Nat}{K:V->Prop}:Cq true (ni a) (ni b) K=K (ni (max a b)):=by
 show K (.int .i64 (max (Int.ofNat a) (Int.ofNat b)))=_
 congr 2
 simp only [VI];omega
theorem aOJ{m:List (List Nat)}{i:Nat}{l:List Nat} (h:m[i]? =some l):(dS m)[i]? =some (.list (jK l) l.length):=by unfold dS;rw [dO,h];rfl
section
variable{M n:Nat}{x:VE}{S S0:Hp}{K:KV}{two:Bool}
theorem aFj{O:Tag}{m:List (List Nat)}{i:Nat} (h:i<m.length){K:KV}:aT (.pI O (dS m) i) S K=K (.list (.sub O i) (jK m[i]) m[i].length) S:=by
 rw [sJ,cI (aOJ (aQ h))];rfl
theorem aDw{O:Tag}{cs:List Dt}{c i:Nat} (h:i<c){k:V->Prop}:cF 1 (.list O cs c) (ni i) k=k (.pI O cs i):=by rw [fH h,jL]
theorem aI8 (hM:1000000<M) (hx:Deep PP bI gM M (n+1) x){O:Tag}{m:List (List Nat)} (hl:m.length<100000) (hK:K (ni (Qh m)) S):x.call EA [.list O (dS m) m.length] S K:=by
 refine hx.call rfl fun y hy=>?_;rw [Zq];unfold Fq;rw [cD,hy.most]
 have go:∀(k i q a:Nat),i+k=m.length->k<q->(m.drop i).foldl (fun n l=>max n l.length) a=Qh m->uW y q (ni a) (.list O (dS m) m.length) (ni m.length) (ni i) S K:=by
  intro k;induction k with
  | zero=>
   intro i q a hi hq he;obtain⟨q,rfl⟩:=bG (show q≠0 by omega);rw [IX];unfold zG;refine aE ?_;rw [aN,bJ (by omega),aW];rw [Ww (by omega)]at he;have he:a=Qh m:=he;rw [he];exact aL hK
  | succ k ih=>
   intro i q a hi hq he;obtain⟨q,rfl⟩:=bG (show q≠0 by omega);rw [IX];unfold zG;refine aE ?_;have IW:i<m.length:=by omega
   rw [aN,bF IW,bQ,aDw IW,aFj IW,cD,aQF,bE (by omega)];refine ih (i+1) q _ (by omega) (by omega) ?_;rw [lP IW]at he;exact he
 exact go m.length 0 M 0 (by omega) (by omega) rfl
def ST (m:List (List Nat)) (j:Nat):List Nat:=m.map fun l=>l.getD j 0
theorem aI9 (hx:Deep PP bI gM M (n+1) x){O:Tag}{m:List (List Nat)}{br:Nat} (hb:S br=some (.row [.list O (dS m) m.length] 33)){i j:Nat} (hi:i<m.length) (hj:j<m[i].length) (hK:K (nu m[i][j]) S):x.call kG [ni i,ni j,.ptr br 0] S K:=by
 refine hx.call rfl fun y hy=>?_;rw [Ll];unfold TY;rw [cQ hb rfl,aDw hi,aFj hi,cD,zE,bJ (by omega),aW,cQ hb rfl,aDw hi,aFj hi,aDw hj,sJ,cI (Zg (aQ hj))];exact aL hK
theorem aOK (hx:Deep PP bI gM M (n+2) x){O:Tag}{m:List (List Nat)} (hK:∀S' b0 b3 br,bO S S'->S b0=none->S b3=none->S br=none->S' b0=some (.row [.list O (dS m) m.length] 33)->S' b3=some (.row [.func kG [] [.ptr br 0]] 272)->S' br=some (.row [.list O (dS m) m.length] 33)->K (.func lD [] [.ptr b0 0,.ptr b3 0]) S'):x.call IS [.list O (dS m) m.length] S K:=by
 refine hx.call rfl fun y hy=>?_;rw [Lm];unfold TZ;refine ZM rfl fun b0 hb0=>?_;have dF:bO S (aK S b0 (.row [.list O (dS m) m.length] 33)):= .aI hb0;have r0:aK S b0 (.row [.list O (dS m) m.length] 33) b0=some (.row [.list O (dS m) m.length] 33):=aC;generalize aK S b0 (.row [.list O (dS m) m.length] 33)=S1 at dF r0;rw [cQ r0 rfl];refine hy.call rfl fun z hz=>?_;rw [Ua];unfold Al;refine ZM rfl fun br hbr=>aL ?_;have fG:bO S1 (aK S1 br (.row [.list O (dS m) m.length] 33)):= .aI hbr;have rr:aK S1 br (.row [.list O (dS m) m.length] 33) br=some (.row [.list O (dS m) m.length] 33):=aC;generalize aK S1 br (.row [.list O (dS m) m.length] 33)=S2 at fG rr;refine cB (l:=[.Ix]) rfl fun b3 hb3=>?_;refine NT (i:=b3) aC rfl (by decide) ?_;rw [dU];have pR:bO S2 (aK S2 b3 (.row [.func kG [] [.ptr br 0]] 272)):= .aI hb3;exact aL (hK _ b0 b3 br ((dF.trans fG).trans pR) hb0 ((dF.trans fG).none hb3) (dF.none hbr) (pR _ _ (fG _ _ r0)) aC (pR _ _ rr))
theorem aL1 (hM:1000000<M) (hx:Deep PP bI gM M (n+3) x){O:Tag}{m:List (List Nat)}{l b0 b3 br k:Nat} (hl:m.length<100000) (hk:Qh m=k) (hkk:k<100000) (hw:∀i (h:i<m.length),k<=m[i].length){Inv:Nat->Hp->Prop} (hup:∀i S S',Inv i S->bO S S'->Inv i S')
 (hI:∀i S,Inv i S->S b0=some (.row [.list O (dS m) m.length] 33)/\S b3=some (.row [.func kG [] [.ptr br 0]] 272)/\S br=some (.row [.list O (dS m) m.length] 33))
 (step:∀(y:VE),Deep PP bI gM M (n+2) y->∀(j:Nat) (S0 S:Hp) (hj:j<k) (c:V) (K:KV),Inv j S->MN S0 S c (ST m j)->(∀S',Inv (j+1) S'->K (.bool true) S')->y.R l [ni j,c] S K) (h0:Inv 0 S) (hK:∀S,Inv k S->K (.tuple []) S):x.call lD [.yield l,.ptr b0 0,.ptr b3 0] S K:=by
 refine hx.call rfl fun y hy=>?_;rw [Fs];unfold NY;obtain⟨q1,q2,q3⟩:=hI 0 S h0;rw [cQ q1 rfl];refine aI8 (n:=n+1) hM hy hl ?_;rw [hk,hy.most]
 have inner:∀(r i q m0 j:Nat) (S0 S:Hp) (c:V),j<k->i+r=m.length->r<q->Inv j S0->bO S0 S->MN S0 S c ((ST m j).take i)->(∀S' c,Inv j S'->MN S0 S' c (ST m j)->lX y (.yield l) [ni j,c] S' fun v6 S=>SO .not v6 fun v7=>fS v7 (bD (.tuple []) S K) (aH PP .add 3 (ni j) (.int .i64 (.ofNat 1)) fun v8=>nL y m0 (.yield l) (.ptr b0 0) (.ptr b3 0) (ni k) v8 S K))->
  jF y q m0 (.yield l) (.ptr b0 0) (.ptr b3 0) (ni j) c (ni k) (ni j) (ni m.length) (ni i) S K:=by
  intro r;induction r with
  | zero=>
   intro i q m0 j S0 S c hj hi hq h hle mc aJa;obtain⟨q,rfl⟩:=bG (show q≠0 by omega);rw [sL];unfold lY;refine aE ?_;rw [aN,iN (by omega),aW];rw [lQ (by unfold ST;rw [lR];omega)]at mc;exact aJa S c (hup _ _ _ h hle) mc
  | succ r ih=>
   intro i q m0 j S0 S c hj hi hq h hle mc aJa;obtain⟨q,rfl⟩:=bG (show q≠0 by omega);rw [sL];unfold lY;refine aE ?_;have IW:i<m.length:=by omega
   obtain⟨p1,p2,p3⟩:=hI j S (hup _ _ _ h hle);have Tc:j<m[i].length:=CX hj (hw i IW);rw [aN,wX IW,bQ,cQ p2 rfl];show y.call kG [ni i,ni j,.ptr br 0] S _;refine aI9 hy p3 IW Tc ?_;refine mc.app hle (by rw [mP];omega) fun w S' le' k' mw=>?_;rw [bE (by omega)]
   have e:(ST m j).take i++[m[i][j]]=(ST m j).take (i+1):=by
    rw [KM]
    congr 1
    unfold ST;rw [dO,aQ IW];simp [List.getD,aQ Tc]
   rw [e]at mw;exact ih (i+1) q m0 j S0 S' w hj (by omega) (by omega) h le' mw aJa
 have outer:∀(r j q:Nat) (S:Hp),j+r=k->r<q->Inv j S->nL y q (.yield l) (.ptr b0 0) (.ptr b3 0) (ni k) (ni j) S K:=by
  intro r;induction r with
  | zero=>
   intro j q S hj hq h;obtain⟨q,rfl⟩:=bG (show q≠0 by omega);rw [FE];unfold wA;refine aE ?_;rw [aN,iN (by omega),aW];have e:j=k:=by omega
   subst e;exact aL (hK S h)
  | succ r ih=>
   intro j q S hj hq h;obtain⟨q,rfl⟩:=bG (show q≠0 by omega);rw [FE];unfold wA;refine aE ?_;have hjk:j<k:=by omega
   obtain⟨p1,p2,p3⟩:=hI j S h;rw [aN,wX hjk,bQ,cQ p1 rfl,cD,hy.most];refine inner m.length 0 M q j S S .nil hjk (by omega) (by omega) h (.refl _) .nil fun S' c h' mc=>?_;show y.R l [ni j,c] S' _;refine step y hy j S S' hjk c _ h' mc fun S'' h''=>?_;rw [lW,dD,aW,bE (by omega)];exact ih (j+1) q S'' (by omega) (by omega) h''
 exact outer k 0 M S (by omega) (by omega) h0
end
set_option maxRecDepth 4000
def Ub (m:List (List Nat)) (X:Nat):List Nat:=(List.range (Qh m)).map fun j=>ev 11 (ST m j) X
def Iy (m:List (List Nat)) (Y:Nat):List Nat:=m.map fun l=>ev 11 l Y
section
variable{M n:Nat}{x:VE}{S S0:Hp}{K:KV}{two:Bool}
def loR (a b c:Nat) (st:LoopState):Ob:= .loop [4,5,7] [.ptr a 0,.ptr b 0,.ptr c 0] 25 (DV PP cL [.r,.r,.l,.r,.d]) (DW PP cL [.r,.r,.l,.r,.d]) (yK PP cL [.r,.r,.l,.r,.d]) st none
structure aDx (SA:Hp) (bx bq bo l r k b0 b3 br:Nat) (O:Tag) (m:List (List Nat)) (X i:Nat) (S:Hp):Prop where
 le:bO SA S
 nr:SA r=none
 nl:SA l=none
 rx:S bx=some (.row [nu X] 22)
 rq:S bq=some (.row [nu 11] 22)
 ro:S bo=some (.row [.own r 0 k k] 51)
 rr:∃us,us.length=k/\(∀j,j<i->us[j]? =some (ev 11 (ST m j) X))/\S r=some (.row (nY us) 22)
 lo:S l=some (loR bx bq bo .ready)
 r0:S b0=some (.row [.list O (dS m) m.length] 33)
 r3:S b3=some (.row [.func kG [] [.ptr br 0]] 272)
 r4:S br=some (.row [.list O (dS m) m.length] 33)
 d:r≠l/\r≠bx/\r≠bq/\r≠bo/\r≠b0/\r≠b3/\r≠br/\l≠bx/\l≠bq/\l≠bo/\l≠b0/\l≠b3/\l≠br
theorem aDx.up{SA:Hp}{bx bq bo l r k b0 b3 br:Nat}{O:Tag}{m:List (List Nat)}{X i:Nat}{S S':Hp} (h:aDx SA bx bq bo l r k b0 b3 br O m X i S) (hle:bO S S'):aDx SA bx bq bo l r k b0 b3 br O m X i S':=by
 obtain⟨us,u1,u2,u3⟩:=h.rr;exact⟨h.le.trans hle,h.nr,h.nl,hle _ _ h.rx,hle _ _ h.rq,hle _ _ h.ro,⟨us,u1,u2,hle _ _ u3⟩,hle _ _ h.lo,hle _ _ h.r0,hle _ _ h.r3,hle _ _ h.r4,h.d⟩
theorem aJb (hM:1000000<M) (hx:Deep PP bI gM M (n+3) x){SA:Hp}{bx bq bo l r k b0 b3 br:Nat}{O:Tag}{m:List (List Nat)}{X j:Nat} (hX:EY X) (hm:∀q∈m,LP q) (UW:m.length<100000) (hj:j<k){Sc S:Hp}{c:V}{K:KV} (h:aDx SA bx bq bo l r k b0 b3 br O m X j S) (mc:MN Sc S c (ST m j))
 (hK:∀S',aDx SA bx bq bo l r k b0 b3 br O m X (j+1) S'->K (.bool true) S'):x.R l [ni j,c] S K:=by
 obtain⟨d1,d2,d3,d4,d5,d6,d7,d8,d9,d10,d11,d12,d13⟩:=h.d;refine hx.round fun y hy=>?_;refine QK (st:= .ready) (pe:=none) h.lo Ft ?_;rw [Fu];unfold LY;refine XG h.lo ?_;obtain⟨us,u1,u2,u3⟩:=h.rr;have hbz:aK S l (.loop [4,5,7] [.ptr bx 0,.ptr bq 0,.ptr bo 0] 25 (DV PP cL [.r,.r,.l,.r,.d]) (DW PP cL [.r,.r,.l,.r,.d]) (yK PP cL [.r,.r,.l,.r,.d]) .busy none)=aK S l (loR bx bq bo .busy):=rfl;rw [hbz];have k1:bO SA (aK S l (loR bx bq bo .busy)):=FD h.le h.nl;have kl:aK S l (loR bx bq bo .busy) l=some (loR bx bq bo .busy):=aC;have kx:aK S l (loR bx bq bo .busy) bx=some (.row [nu X] 22):=by rw [aB (aO d8)];exact h.rx
 have kq:aK S l (loR bx bq bo .busy) bq=some (.row [nu 11] 22):=by rw [aB (aO d9)];exact h.rq
 have ko:aK S l (loR bx bq bo .busy) bo=some (.row [.own r 0 k k] 51):=by rw [aB (aO d10)];exact h.ro
 have kr:aK S l (loR bx bq bo .busy) r=some (.row (nY us) 22):=by rw [aB d1];exact u3
 have k0:aK S l (loR bx bq bo .busy) b0=some (.row [.list O (dS m) m.length] 33):=by rw [aB (aO d11)];exact h.r0
 have k3:aK S l (loR bx bq bo .busy) b3=some (.row [.func kG [] [.ptr br 0]] 272):=by rw [aB (aO d12)];exact h.r3
 have k4:aK S l (loR bx bq bo .busy) br=some (.row [.list O (dS m) m.length] 33):=by rw [aB (aO d13)];exact h.r4
 have km:MN Sc (aK S l (loR bx bq bo .busy)) c (ST m j):=mc.set h.lo (fun vs m e=>by cases e) (fun vs e=>by cases e);generalize aK S l (loR bx bq bo .busy)=S1 at k1 kl kx kq ko kr k0 k3 k4 km;rw [cQ ko rfl,cQ kx rfl,cQ kq rfl]
 have c64:LP (ST m j):=fun z hz=>by
  unfold ST at hz;obtain⟨l,hl,rfl⟩:=List.mem_map.1 hz;by_cases hjl:j<l.length
  ·rw [BD,aQ hjl];exact hm l hl _ (cK _)
  ·rw [BD,FK (by omega)];show 0<18446744073709551616;decide
 refine Zi (n:=n) hM hy km.nv (by unfold ST;rw [lR];omega) c64 hX qQ ?_;rw [cQ ko rfl,cR (by rfl)];refine⟨hj,?_⟩;rw [eG,jL];refine NT kr rfl (by rw [nZ];omega) ?_;have es:aY j [nu (ev 11 (ST m j) X)] (nY us)=nY (us.set j (ev 11 (ST m j) X)):=by rw [GB (by rw [nZ];omega),aFf]
 rw [es];have l7:aK S1 r (.row (nY (us.set j (ev 11 (ST m j) X))) 22) l=some (loR bx bq bo .busy):=by rw [aB (aO d1)];exact kl
 have oth:∀{i:Nat} {ob:Ob} {o2:Ob},i≠r->i≠l->S1 i=some ob->aK (aK S1 r (.row (nY (us.set j (ev 11 (ST m j) X))) 22)) l o2 i=some ob:=fun {i ob o2} h1 h2 e=>by rw [aB h2,aB h1];exact e
 refine XH l7 (hK _ ⟨FD (FD k1 h.nr) h.nl,h.nr,h.nl,oth (aO d2) (aO d8) kx,oth (aO d3) (aO d9) kq,oth (aO d4) (aO d10) ko,⟨us.set j (ev 11 (ST m j) X),by rw [Bk];exact u1,fun i hi=>?_,by rw [aB d1];exact aC⟩,aC,oth (aO d5) (aO d11) k0,oth (aO d6) (aO d12) k3,oth (aO d7) (aO d13) k4,h.d⟩);by_cases Tc:i=j
 ·subst Tc;rw [VG (by omega)]
 ·rw [IE (aO Tc)];exact u2 i (by omega)
theorem aOL (hM:1000000<M) (hx:Deep PP bI gM M (n+8) x){O:Tag}{m:List (List Nat)}{X k:Nat} (hX:EY X) (hm:∀q∈m,LP q) (UW:m.length<100000) (hk:Qh m=k) (hk0:0<k) (hkk:k<1000) (hw:∀i (h:i<m.length),k<=m[i].length)
 (hK:∀t,K (.list t (jK (Ub m X)) k) S):x.call cL [.list O (dS m) m.length,nu X,nu 11] S K:=by
 refine hx.call rfl fun y hy=>?_;rw [aBS];unfold Km;refine ZM rfl fun bx hbx=>?_;have dF:bO S (aK S bx (.row [nu X] 22)):= .aI hbx;have rx:aK S bx (.row [nu X] 22) bx=some (.row [nu X] 22):=aC;generalize aK S bx (.row [nu X] 22)=S1 at dF rx;refine ZM rfl fun bq hbq=>?_;have fG:bO S1 (aK S1 bq (.row [nu 11] 22)):= .aI hbq;have rq:aK S1 bq (.row [nu 11] 22) bq=some (.row [nu 11] 22):=aC;generalize aK S1 bq (.row [nu 11] 22)=S2 at fG rq;refine aI8 (n:=n+6) hM hy UW ?_;rw [hk];refine⟨bR _,by omega,by omega,fun r hr=>?_⟩
 have hz:(List.replicate k [nu 0]).flatten=nY (List.replicate k 0):=by
  unfold nY;rw [List.map_replicate];clear hk hk0 hkk hw hK;induction k with
  | zero=>rfl
  | succ k ih=>rw [IF,OS,ih,IF];rfl
 have pR:bO S2 (aK S2 r (.row (nY (List.replicate k 0)) 22)):= .aI hr;have rr:aK S2 r (.row (nY (List.replicate k 0)) 22) r=some (.row (nY (List.replicate k 0)) 22):=aC;show cW cU 51 (aK S2 r (.row (List.replicate k [nu 0]).flatten 22)) _;rw [hz];generalize aK S2 r (.row (nY (List.replicate k 0)) 22)=S3 at pR rr;refine cB (l:=[.nil]) rfl fun bo hbo=>?_;refine NT (i:=bo) aC rfl (by decide) ?_;rw [dU];have IY:bO S3 (aK S3 bo (.row (aY 0 [.own r 0 k k] [.nil]) 51)):= .aI hbo;have ro:aK S3 bo (.row (aY 0 [.own r 0 k k] [.nil]) 51) bo=some (.row [.own r 0 k k] 51):=aC;generalize aK S3 bo (.row (aY 0 [.own r 0 k k] [.nil]) 51)=S4 at IY ro;refine aOK (n:=n+5) hy fun S5 b0 b3 br DY n0 n3 n4 r0 r3 r4=>?_;refine QL fun l hl=>?_;have hlo:aK S5 l (.loop [4,5,7] [.ptr bx 0,.ptr bq 0,.ptr bo 0] 25 (DV PP cL [.r,.r,.l,.r,.d]) (DW PP cL [.r,.r,.l,.r,.d]) (yK PP cL [.r,.r,.l,.r,.d]) .ready none)=aK S5 l (loR bx bq bo .ready):=rfl;rw [hlo];have x4:=IY _ _ (pR _ _ (fG _ _ rx));have q4:=IY _ _ (pR _ _ rq);have Nb:=IY _ _ rr;have x5:=DY _ _ x4;have q5:=DY _ _ q4;have o5:=DY _ _ ro;have rr5:=DY _ _ Nb;have aQG:=dF.trans fG;have EV:=(aQG.trans pR).trans (IY.trans DY);have up:∀{i:Nat} {ob:Ob},S5 i=some ob->aK S5 l (loR bx bq bo .ready) i=some ob:=fun {i ob} e=>by rw [aB (aO (fY hl e))];exact e
 have aSr:aDx S bx bq bo l r k b0 b3 br O m X 0 (aK S5 l (loR bx bq bo .ready)):=
  ⟨EV.trans (.aI hl),aQG.none hr,EV.none hl,up x5,up q5,up o5,⟨List.replicate k 0,by rw [OQ],fun j hj=>by omega,up rr5⟩,aC,up r0,up r3,up r4,
   aO (fY hl rr5),(fY hr (fG _ _ rx)),(fY hr rq),aO (fY hbo rr),aO (fY n0 Nb),aO (fY n3 Nb),aO (fY n4 Nb),fY hl x5,fY hl q5,fY hl o5,fY hl r0,fY hl r3,fY hl r4⟩
 show y.call lD [.yield l,.ptr b0 0,.ptr b3 0] _ _;refine aL1 (n:=n+4) hM hy UW hk (by omega) hw (Inv:=aDx S bx bq bo l r k b0 b3 br O m X) (fun i S S' h hle=>h.up hle) (fun i S h=>⟨h.r0,h.r3,h.r4⟩) (fun z hz j S0 S' hj c K h mc wO=>aJb (n:=n+3) hM hz hX hm UW hj h mc wO) aSr fun S6 h6=>?_;obtain⟨us,u1,u2,u3⟩:=h6.rr;obtain⟨d1,d2,d3,d4,d5,d6,d7,d8,d9,d10,d11,d12,d13⟩:=h6.d;refine XI h6.lo (by simp) ?_;rw [Fo];obtain⟨ob,hex⟩:∃ob,aK S6 l (.loop [4,5,7] [.ptr bx 0,.ptr bq 0,.ptr bo 0] 25 (DV PP cL [.r,.r,.l,.r,.d]) (DW PP cL [.r,.r,.l,.r,.d]) (yK PP cL [.r,.r,.l,.r,.d]) .exhausted none)=aK S6 l ob:=⟨_,rfl⟩;rw [hex];have le7:bO S (aK S6 l ob):=FD h6.le h6.nl;have ro7:aK S6 l ob bo=some (.row [.own r 0 k k] 51):=by rw [aB (aO d10)];exact h6.ro
 have rr7:aK S6 l ob r=some (.row (nY us) 22):=by rw [aB d1];exact u3
 have eus:us=Ub m X:=by
  refine xE fun j=>?_;unfold Ub;rw [dO,hk];by_cases hj:j<k
  ·rw [u2 j hj,Bi hj];rfl
  ·rw [FK (by omega),FK (by simp;omega)];rfl
 rw [cQ ro7 rfl];refine gJ le7 (cs:=jK (Ub m X)) (n:=k) (.own rr7 h6.nr (bR _) (by rw [GY,<-eus,nZ,u1];omega) fun j v d x1 x2=>?_) hK;rw [eus,eG]at x1;unfold nY at x1;unfold jK at x2;rw [dO]at x1 x2;cases e:(Ub m X)[j]? with
 | none=>rw [e]at x1;cases x1
 | some c=>rw [e]at x1 x2;injection x1 with x1;injection x2 with x2;subst x1 x2;exact .int
end
set_option maxRecDepth 4000
theorem aQH{k:Nat}:(List.replicate k [nu 0]).flatten=nY (List.replicate k 0):=by
 unfold nY;rw [List.map_replicate];induction k with
 | zero=>rfl
 | succ k ih=>rw [IF,OS,ih,IF];rfl
section
variable{M n:Nat}{x:VE}{S S0:Hp}{K:KV}{two:Bool}
theorem aJc{S':Hp}{r:Nat}{l:List Nat} (le:bO S' S) (hn:S' r=none) (hr:S r=some (.row (nY l) 22)) (hK:∀t,K (.list t (jK l) l.length) S'):bD (.own r 0 l.length l.length) S K:=by
 refine gJ le (cs:=jK l) (n:=l.length) (.own hr hn (bR _) (by rw [GY,nZ];omega) fun j v d x1 x2=>?_) hK;rw [eG]at x1;unfold nY at x1;unfold jK at x2;rw [dO]at x1 x2;cases e:l[j]? with
 | none=>rw [e]at x1;cases x1
 | some c=>rw [e]at x1 x2;injection x1 with x1;injection x2 with x2;subst x1 x2;exact .int
theorem aJd (hM:1000000<M) (hx:Deep PP bI gM M (n+4) x){O:Tag}{m:List (List Nat)}{Y:Nat} (hY:EY Y) (hm:∀q∈m,LP q) (UW:m.length<1000) (hmq:∀q∈m,q.length<100000)
 (hK:∀t,K (.list t (jK (Iy m Y)) m.length) S):x.call nM [.list O (dS m) m.length,nu Y,nu 11] S K:=by
 refine hx.call rfl fun y hy=>?_;rw [aBT];unfold Ko;rw [cD,hy.most];refine⟨bR _,by omega,by omega,fun r hr=>?_⟩;show rN y M (nu Y) (nu 11) (.own r 0 m.length m.length) (.list O (dS m) m.length) (ni m.length) (ni 0) (aK S r (.row (List.replicate m.length [nu 0]).flatten 22)) K;rw [aQH];have Hi:(Iy m Y).length=m.length:=by unfold Iy;rw [lR]
 have go:∀(k i q:Nat) (S1:Hp) (us:List Nat),i+k=m.length->k<q->bO S S1->S1 r=some (.row (nY us) 22)->us.length=m.length->us.take i=(Iy m Y).take i->rN y q (nu Y) (nu 11) (.own r 0 m.length m.length) (.list O (dS m) m.length) (ni m.length) (ni i) S1 K:=by
  intro k;induction k with
  | zero=>
   intro i q S1 us hi hq le rr hus he;obtain⟨q,rfl⟩:=bG (show q≠0 by omega);rw [LZ];unfold BS;refine aE ?_;rw [aN,iN (by omega),aW];rw [lQ (by omega),lQ (by omega)]at he;subst he;have:=aJc (K:=K) le hr rr (fun t=>by rw [Hi];exact hK t);rw [Hi]at this;exact this
  | succ k ih=>
   intro i q S1 us hi hq le rr hus he;obtain⟨q,rfl⟩:=bG (show q≠0 by omega);rw [LZ];unfold BS;refine aE ?_;have IW:i<m.length:=by omega
   rw [aN,wX IW,bQ,aDw IW,aFj IW];refine Zi (n:=n+1) hM hy .list (by have:=hmq _ (cK IW);omega) (hm _ (cK IW)) hY qQ ?_;refine⟨IW,?_⟩;rw [eG,jL];refine NT rr rfl (by rw [nZ];omega) ?_;rw [GB (by rw [nZ];omega),aFf,bE (by omega)];refine ih (i+1) q _ (us.set i (ev 11 m[i] Y)) (by omega) (by omega) (fun j o e=>by rw [aB (fun c=>by rw [c,hr]at e;cases e)];exact le _ _ e) aC (by rw [Bk];exact hus) ?_
   have e1:(us.set i (ev 11 m[i] Y)).take (i+1)=us.take i++[ev 11 m[i] Y]:=by
    rw [KM,List.take_set_of_le (bR i),VG (by omega)];rfl
   have e2:(Iy m Y).take (i+1)=(Iy m Y).take i++[ev 11 m[i] Y]:=by
    rw [KM];unfold Iy;rw [dO,aQ IW];rfl
   rw [e1,e2,he]
 exact go m.length 0 M _ (List.replicate m.length 0) (by omega) (by omega) (.aI hr) aC (by rw [OQ]) rfl
theorem aL2{l:List (Nat×Nat)}:∀{i a b:Nat},i<l.length->aY (i*2) [nu a,nu b] (pvs l)=pvs (l.set i (a,b)):=by
 induction l with
 | nil=>intro i a b h;cases h
 | cons p l ih=>
  intro i a b h;cases i with
  | zero=>rfl
  | succ i=>
   have:=ih (i:=i) (a:=a) (b:=b) (by simpa using h);rw [List.set_cons_succ];show aY ((i+1)*2) [nu a,nu b] (nu p.1::nu p.2::pvs l)=nu p.1::nu p.2::pvs (l.set i (a,b));rw [<-this];unfold aY;rw [show(i+1)*2=i*2+1+1 by omega,Wy,Wy,show i*2+1+1+[nu a,nu b].length=i*2+[nu a,nu b].length+1+1 by omega,List.drop_succ_cons,List.drop_succ_cons];rfl
theorem aJe (hx:Deep PP bI gM M (n+1) x) (hM:1000000<M){O1 O2z:Tag}{a b:List Nat} (hlen:b.length=a.length) (hl:a.length<1000) (hK:∀t,K (.list t (pds (List.zip a b)) a.length) S):x.call rO [.list O1 (jK a) a.length,.list O2z (jK b) a.length] S K:=by
 refine hx.call rfl fun y hy=>?_;rw [Zr];unfold Fv;rw [cD];refine⟨bR _,by omega,by omega,fun r hr=>?_⟩
 have hz:(List.replicate a.length [nu 0,nu 0]).flatten=pvs (List.replicate a.length (0,0)):=by
  generalize a.length=k;induction k with
  | zero=>rfl
  | succ k ih=>rw [IF,OS,ih,IF];rfl
 show pT y y.most (.list O1 (jK a) a.length) (.list O2z (jK b) a.length) (.own r 0 a.length a.length) (ni a.length) (ni 0) (aK S r (.row (List.replicate a.length [nu 0,nu 0]).flatten 145)) K;rw [hz,hy.most];have Mp:(List.zip a b).length=a.length:=by rw [List.length_zip];omega
 have go:∀(k i q:Nat) (S1:Hp) (us:List (Nat×Nat)),i+k=a.length->k<q->bO S S1->S1 r=some (.row (pvs us) 145)->us.length=a.length->us.take i=(List.zip a b).take i->pT y q (.list O1 (jK a) a.length) (.list O2z (jK b) a.length) (.own r 0 a.length a.length) (ni a.length) (ni i) S1 K:=by
  intro k;induction k with
  | zero=>
   intro i q S1 us hi hq le rr hus he;obtain⟨q,rfl⟩:=bG (show q≠0 by omega);rw [IZ];unfold zH;refine aE ?_;rw [aN,iN (by omega),aW];rw [lQ (by omega),lQ (by omega)]at he;subst he;exact gJ le (cs:=pds (List.zip a b)) (n:=a.length) (.own rr hr (bR _) (by rw [Na,aE6];omega) fun j v d x1 x2=>aQu _ j v d (by rw [eG]at x1;exact x1) x2) hK
  | succ k ih=>
   intro i q S1 us hi hq le rr hus he;obtain⟨q,rfl⟩:=bG (show q≠0 by omega);rw [IZ];unfold zH;refine aE ?_;have IW:i<a.length:=by omega
   have hi2:i<b.length:=by omega
   rw [aN,wX IW,bQ,aDw IW,sJ,cI (Zg (aQ IW)),aDw IW,sJ,cI (Zg (aQ hi2))];show cV GA [(0,1,nu a[i]),(1,1,nu b[i])] _;rw [aIL];refine⟨IW,?_⟩
   have hst:∀{k:Hp->Prop},k (aK S1 r (.row (aY (i*2) [nu a[i],nu b[i]] (pvs us)) 145))->mL 2 (.ptr r (i*2)) (.agg [nu a[i],nu b[i]]) S1 k:=fun {k} hk=>by
    unfold mL;simp only [rr];refine⟨rfl,rfl,by rw [Na];show i*2+2<=_;omega,hk⟩
   rw [eG];refine hst ?_;rw [aL2 (by omega),bE (by omega)];refine ih (i+1) q _ (us.set i (a[i],b[i])) (by omega) (by omega) (fun j o e=>by rw [aB (fun c=>by rw [c,hr]at e;cases e)];exact le _ _ e) aC (by rw [Bk];exact hus) ?_;have hi3:i<(List.zip a b).length:=by omega
   have e1:(us.set i (a[i],b[i])).take (i+1)=us.take i++[(a[i],b[i])]:=by
    rw [KM,List.take_set_of_le (bR i),VG (by omega)];rfl
   have e2:(List.zip a b).take (i+1)=(List.zip a b).take i++[(a[i],b[i])]:=by
    rw [KM,aQ hi3,List.getElem_zip];rfl
   rw [e1,e2,he]
 exact go a.length 0 M _ (List.replicate a.length (0,0)) (by omega) (by omega) (.aI hr) aC (by rw [OQ]) rfl
end
end Go.Am
