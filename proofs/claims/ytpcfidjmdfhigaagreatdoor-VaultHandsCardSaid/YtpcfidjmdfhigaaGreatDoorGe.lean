/- The program, and tables of its functions' live temporaries (written by a program). -/
import Derived.Test.YtpcfidjmdfhigaaGreatDoorGd
import Derived.Test.YtpcfidjmdfhigaaGreatDoorChecked
import Derived.Shelf.Bits.Mul64
import Derived.WalkKit
import Derived.Below
import Derived.BigCall
import Derived.Laws.Bits64
import Derived.Lib.Hide
import Derived.Deep.QuietTactic
import Derived.BigQuiet
import Derived.WalkSmall
import Derived.RegionTactic
import Derived.Test.YtpcfidjmdfhigaaGreatDoorGb
import Derived.Shelf.Sort.Plain
import Derived.Shelf.Slices.In.SortNone
import Derived.Ground.Names2Prog

noncomputable section
set_option maxRecDepth 100000
set_option linter.unusedVariables false
namespace Go.Am
abbrev PP:Program:=Go.Proofs.Tryz.prog
abbrev qM:FuncId:=4
abbrev EL:FuncId:=7
abbrev AO:FuncId:=8
abbrev HJ:FuncId:=9
abbrev cZ:FuncId:=10
abbrev CF:FuncId:=11
abbrev dC:FuncId:=13
abbrev TN:FuncId:=14
abbrev PL:FuncId:=15
abbrev EQ:FuncId:=16
abbrev xI:FuncId:=17
abbrev EK:FuncId:=24
abbrev PE:FuncId:=25
abbrev OB:FuncId:=26
abbrev Dd:FuncId:=28
abbrev zA:FuncId:=29
abbrev vC:FuncId:=30
abbrev vU:FuncId:=31
abbrev KL:FuncId:=32
abbrev uY:FuncId:=33
abbrev PJ:FuncId:=34
abbrev TO:FuncId:=35
abbrev YN:FuncId:=36
abbrev zC:FuncId:=37
abbrev sW:FuncId:=40
abbrev eG:FuncId:=42
abbrev lQ:FuncId:=43
abbrev cY:FuncId:=44
abbrev gS:FuncId:=45
abbrev AF:FuncId:=46
abbrev MP:FuncId:=47
abbrev CE:FuncId:=48
abbrev YO:FuncId:=49
abbrev ES:FuncId:=50
abbrev EI:FuncId:=72
abbrev dU:FuncId:=73
abbrev wK:FuncId:=74
abbrev yE:FuncId:=75
abbrev aR:FuncId:=76
abbrev MI:FuncId:=77
abbrev bQ:FuncId:=78
abbrev sF:FuncId:=79
abbrev cL:FuncId:=80
abbrev nX:FuncId:=81
abbrev pV:FuncId:=82
abbrev cH:FuncId:=83
abbrev ET:FuncId:=84
abbrev NW:FuncId:=95
abbrev BA:FuncId:=99
abbrev rU:FuncId:=100
abbrev BC:FuncId:=101
abbrev BE:FuncId:=102
abbrev BB:FuncId:=103
abbrev BD:FuncId:=104
abbrev oB:FuncId:=105
abbrev iI:FuncId:=106
abbrev fN:FuncId:=107
abbrev kJ:FuncId:=108
abbrev pN:FuncId:=109
abbrev uM:FuncId:=110
abbrev HM:FuncId:=111
abbrev PK:FuncId:=112
abbrev MS:FuncId:=113
abbrev BF:FuncId:=114
abbrev dA:FuncId:=115
abbrev JF:FuncId:=116
abbrev BG:FuncId:=117
abbrev kG:FuncId:=118
abbrev kH:FuncId:=119
abbrev nL:FuncId:=120
abbrev pE:FuncId:=121
abbrev qS:FuncId:=122
abbrev kZ:FuncId:=123
abbrev QH:FuncId:=125
abbrev mM:FuncId:=128
abbrev GV:FuncId:=129
abbrev iL:FuncId:=130
abbrev CD:FuncId:=131
abbrev Dp:FuncId:=132
abbrev RG:FuncId:=133
abbrev OJ:FuncId:=134
abbrev KH:FuncId:=154
abbrev ED:FuncId:=155
abbrev HX:FuncId:=156
abbrev CP:FuncId:=157
abbrev oI:FuncId:=158
abbrev oO:FuncId:=159
abbrev uB:FuncId:=160
abbrev LY:FuncId:=161
abbrev lI:FuncId:=162
abbrev EJ:FuncId:=163
abbrev JD:FuncId:=164
abbrev TM:FuncId:=165
abbrev fC:FuncId:=168
abbrev PM:FuncId:=169
abbrev oR:FuncId:=170
abbrev oS:FuncId:=171
abbrev oT:FuncId:=172
abbrev fK:FuncId:=173
abbrev OK:FuncId:=174
abbrev oU:FuncId:=175
abbrev oV:FuncId:=176
abbrev fH:FuncId:=177
abbrev EU:FuncId:=178
abbrev EV:FuncId:=179
abbrev jM:FuncId:=192
abbrev jN:FuncId:=193
abbrev OL:FuncId:=194
abbrev BH:FuncId:=195
abbrev IJ:FuncId:=196
abbrev fQ:FuncId:=210
abbrev mP:FuncId:=211
abbrev jP:FuncId:=212
abbrev sD:FuncId:=213
abbrev eI:FuncId:=214
abbrev jK:FuncId:=215
abbrev Bl:FuncId:=216
abbrev lU:FuncId:=217
abbrev yL:FuncId:=218
abbrev gB:FuncId:=219
abbrev HN:FuncId:=220
abbrev eH:FuncId:=221
abbrev oM:FuncId:=228
abbrev yV:FuncId:=229
abbrev sI:FuncId:=230
abbrev yU:FuncId:=231
abbrev kO:FuncId:=235
abbrev iY:FuncId:=236
abbrev GW:FuncId:=237
abbrev Da:FuncId:=238
abbrev Bm:FuncId:=239
abbrev zD:FuncId:=241
abbrev kK:FuncId:=243
abbrev BI:FuncId:=244
def bI:FuncId->tD:=aQU [(3,⟨bZ [(5,[1,5,6],[],[4])],cA [(6,[1,5,6])]⟩),(4,⟨bZ [(15,[7,8,83,84,85],[7],[6]),(6,[0,1,5,7,8,9],[0,5,8],[6])],cA []⟩),(5,⟨bZ [(5,[1,5,6],[],[4])],cA []⟩),(6,⟨bZ [],cA [(9,[3,4,5])]⟩),(7,⟨bZ [(7,[0,3,4,5],[0,3,4],[]),(3,[0,3,4],[3],[])],cA []⟩),(10,⟨bZ [(15,[0,4,8,9,10],[4,8],[])],cA [(16,[0,4,8,9,10]),(8,[4,6])]⟩),(11,⟨bZ [(5,[3,5,6,8,38,39,40],[3,5,6,8],[6,7])],cA [(25,[6,8])]⟩),(13,⟨bZ [(2,[2,3,5],[],[4])],cA []⟩),(15,⟨bZ [(4,[0,1,5],[],[4])],cA []⟩),(19,⟨bZ [(3,[1,3,4],[3],[])],cA []⟩),(20,⟨bZ [(3,[1,3,4],[1,3],[])],cA []⟩),(21,⟨bZ [],cA [(13,[4])]⟩),(23,⟨bZ [],cA [(19,[2,4,5])]⟩),(24,⟨bZ [(3,[0,3,4],[3],[])],cA []⟩),(26,⟨bZ [(5,[2,3,10,11],[2,3],[])],cA []⟩),(29,⟨bZ [(16,[3,10,11,14,15,63,64,68,69],[3,10,11,14,63,64],[]),(13,[3,10,11,14,63,64],[3,10,11,14],[]),(6,[3,9,10,11,29,30,31],[3,10,11],[])],cA []⟩),(30,⟨bZ [(16,[2,4,8,10,11,14,15,16,17,75,76],[2,4,8,10,11,14,15,16,17],[]),(12,[2,4,8,10,11,14,15],[8,14],[]),(5,[2,3,4,8,10,11,38,39,40],[2,4,8,10,11],[])],cA []⟩),(31,⟨bZ [(3,[2,3,7,10,11,12],[7],[])],cA []⟩),(32,⟨bZ [(3,[1,2,3,7,8,9],[1,2,3],[])],cA []⟩),(37,⟨bZ [(26,[2,7,11,13,14,15,16,17,78,79,84,85],[2,7,11,13,14,15,17,78,79],[]),(22,[2,7,11,13,14,15,78,79],[15],[]),(6,[2,6,7,32,33,34],[2,6,7],[4,5])],cA []⟩),(38,⟨bZ [(4,[0,1,5],[],[4])],cA []⟩),(39,⟨bZ [(4,[0,1,5],[],[4])],cA []⟩),(41,⟨bZ [(4,[0,1,5],[],[4])],cA []⟩),(44,⟨bZ [(9,[0,3,4,5],[0,3],[]),(4,[0,3],[0],[2])],cA [(10,[0,3,4,5])]⟩),(50,⟨bZ [(8,[3,7,26,27,28],[7],[]),(3,[2,3,7,12,13,14],[2,3,7],[])],cA []⟩),(51,⟨bZ [(4,[1,47,48,49],[1],[2])],cA []⟩),(53,⟨bZ [(3,[0,2,14,15,16],[0],[])],cA []⟩),(55,⟨bZ [(3,[0,2,14,15,16],[0],[])],cA []⟩),(58,⟨bZ [(3,[0,2,14,15,16],[0],[])],cA []⟩),(59,⟨bZ [(3,[0,2,14,15,16],[0],[])],cA []⟩),(63,⟨bZ [(4,[0,1,5,15,16],[5],[4])],cA []⟩),(66,⟨bZ [(4,[0,1,5,15,16],[5],[4])],cA []⟩),(68,⟨bZ [(4,[0,1,5,15,16],[5],[4])],cA []⟩),(69,⟨bZ [(4,[0,1,5,15,16],[5],[4])],cA []⟩),(73,⟨bZ [(8,[0,1],[],[4])],cA []⟩),(74,⟨bZ [(3,[2,3,9,14,15],[9],[])],cA []⟩),(75,⟨bZ [(3,[0,1,2,7,10,11],[7],[])],cA []⟩),(76,⟨bZ [(1000005,[3,7],[],[])],cA []⟩),(1360005,⟨bZ [(1000000,[3,7],[],[]),(1000009,[3,10],[],[])],cA []⟩),(1360009,⟨bZ [(1000000,[3,10],[],[])],cA []⟩),(77,⟨bZ [(5,[7,8,9,26,27],[9],[])],cA []⟩),(78,⟨bZ [(1000005,[3,7],[],[])],cA []⟩),(1230005,⟨bZ [(1000000,[3,7],[],[])],cA []⟩),(79,⟨bZ [(3,[0,1,5,11,12],[5],[])],cA []⟩),(80,⟨bZ [(1000005,[4,5,7],[],[])],cA []⟩),(1250005,⟨bZ [(1000000,[4,5,7],[],[])],cA []⟩),(81,⟨bZ [(3,[1,2,7,13,14,15],[7],[])],cA []⟩),(82,⟨bZ [(3,[2,3,7,10,11,12],[7],[])],cA []⟩),(84,⟨bZ [(3,[3,6,7,8],[3],[])],cA []⟩),(95,⟨bZ [(12,[0,3,6,16,17,36,37],[0,3,16,17],[]),(5,[0,3,16,17],[],[2])],cA []⟩),(105,⟨bZ [(3,[1,3,8,9,10],[1],[2])],cA []⟩),(106,⟨bZ [(6,[1,4,5,10,11,12,17,18,19],[1,4,5,10,11,12],[]),(2,[1,10,11,12],[],[2])],cA []⟩),(108,⟨bZ [(3,[1,5,8,9,10],[5],[])],cA []⟩),(109,⟨bZ [(3,[1,5,8,9,10],[5],[])],cA []⟩),(111,⟨bZ [(3,[26,27,28],[],[8])],cA []⟩),(117,⟨bZ [(3,[1,6,9,10,11],[1,6],[])],cA []⟩),(120,⟨bZ [(3,[2,5,11,12,13],[5],[])],cA []⟩),(121,⟨bZ [(2,[1,2,3,4,13,14,15],[2],[])],cA []⟩),(122,⟨bZ [(3,[1,5,8,9,10],[5],[])],cA []⟩),(123,⟨bZ [(3,[1,5,8,9,10],[5],[])],cA []⟩),(124,⟨bZ [(4,[0,1,5],[],[4])],cA []⟩),(125,⟨bZ [(4,[0,1,2,7],[7],[])],cA [(8,[0,1,2,7])]⟩),(126,⟨bZ [(2,[0,1,2,3,8,9],[],[])],cA [(17,[0,1,2,3,8,9,10,11]),(15,[0,1,2,3,8,9,10,11,12]),(10,[0,1,2,3,8,9,10])]⟩),(128,⟨bZ [(2,[0,1,7,8],[],[4])],cA []⟩),(133,⟨bZ [(8,[5,31,32,33],[5],[]),(3,[0,5,14,15,16],[0,5],[])],cA []⟩),(138,⟨bZ [(3,[1,2,7],[7],[])],cA []⟩),(139,⟨bZ [(6,[6,19,20,21],[6],[])],cA []⟩),(143,⟨bZ [(3,[5,11,12,13],[5],[])],cA []⟩),(145,⟨bZ [(4,[0,2,15,16],[2],[])],cA []⟩),(163,⟨bZ [(3,[3,6,7,8],[3],[])],cA []⟩),(165,⟨bZ [(4,[2,3,7,8,16,17,18],[7],[])],cA []⟩),(167,⟨bZ [(2,[0,1,7,8],[],[4])],cA []⟩),(168,⟨bZ [(4,[0,1,12,13],[],[4])],cA []⟩),(177,⟨bZ [(2,[0,1,7,8],[],[4])],cA []⟩),(179,⟨bZ [(6,[0,1,2,9,21,22],[9],[6,7])],cA []⟩),(181,⟨bZ [(4,[0,1,2,6,7],[0,1,2,6],[]),(1,[0,1,2,6],[],[])],cA []⟩),(182,⟨bZ [(8,[0,6,7,10],[],[]),(4,[0,6,7,8,9],[0,6,7,8],[])],cA []⟩),(183,⟨bZ [(5,[0,1,6,7,8,9],[],[])],cA [(10,[0,1,6,7,8,9,10])]⟩),(184,⟨bZ [],cA [(12,[9,11]),(11,[0,9,10,11,12])]⟩),(185,⟨bZ [(2,[0,6,7],[],[])],cA []⟩),(186,⟨bZ [(20,[0,1,2,7,8,10],[0,1,2,7,8],[]),(14,[0,1,2,7,8,9],[0,1,2,7,8],[]),(5,[0,1,2,7,8],[0,1,2,7,8],[]),(3,[0,1,2,7,8],[],[6])],cA [(4,[0,1,2,7,8]),(18,[0,1,2,7,8])]⟩),(188,⟨bZ [(5,[0,1,9,10],[0,1,9,10],[]),(3,[0,1,9,10],[0,1,9,10],[]),(3,[0,1,9,10],[9],[])],cA []⟩),(189,⟨bZ [(15,[0,1,10,11],[0,1,10,11],[]),(13,[0,1,10,11],[0,1,10,11],[]),(13,[0,1,10,11],[0,1,11],[]),(5,[0,1,10,11],[0,1,10,11],[]),(3,[0,1,10,11],[0,1,10,11],[])],cA []⟩),(190,⟨bZ [],cA [(7,[0,2]),(4,[0,2])]⟩),(191,⟨bZ [],cA [(10,[0,2]),(7,[0,2]),(4,[0,2])]⟩),(192,⟨bZ [(2,[0,1,7,8],[],[4])],cA []⟩),(193,⟨bZ [(9,[0,4,5,54],[0,4,5],[]),(4,[0,4,5,6,32,33],[0,4,5],[])],cA []⟩),(195,⟨bZ [(3,[0,5,8,9,10],[5],[])],cA []⟩),(207,⟨bZ [(24,[2,8,9,10,14,15,16,17,18],[2,8,14,15,17,18],[]),(17,[2,8,9,10,11,13,14,15,16],[2,8,9,10,11,13,14,15],[])],cA [(28,[2,8,14,15,17,18]),(21,[2,8,9,10,11,13,14,15]),(5,[0,1,2]),(3,[0,1,2])]⟩),(210,⟨bZ [(1,[0,1,2,9,10],[],[])],cA []⟩),(212,⟨bZ [(1,[0,1,2,9,10],[],[])],cA []⟩),(214,⟨bZ [(1,[0,1,2,9,10],[],[])],cA []⟩),(217,⟨bZ [(5,[0,1,2,4,5,8,9,13,14],[0,1,2,4,5,8,9],[]),(1,[0,1,2,8,9],[],[])],cA []⟩),(218,⟨bZ [(2,[2,7,8,9],[],[4])],cA []⟩),(219,⟨bZ [(2,[0,1,7,8],[],[4])],cA []⟩),(220,⟨bZ [(7,[0,1,5,19,20,21],[0,5],[])],cA []⟩),(221,⟨bZ [(1000005,[7,11,12],[],[])],cA []⟩),(1450005,⟨bZ [(1000000,[7,11,12],[],[])],cA []⟩),(222,⟨bZ [(1,[0,2,3,8],[],[])],cA [(5,[0,2,3,8,9])]⟩),(228,⟨bZ [(7,[6,32,33,34],[6],[4,5]),(3,[0,6,18],[6],[])],cA []⟩),(229,⟨bZ [(5,[1,6,7,8,9],[6,8],[])],cA []⟩),(230,⟨bZ [(1,[0,1,3,10,11,12],[],[])],cA []⟩),(241,⟨bZ [(4,[0,5,19,20],[5],[])],cA []⟩),(243,⟨bZ [(2,[0,1,7,8],[],[4])],cA []⟩),(244,⟨bZ [(1,[0,1,2,3,4,8,9,10],[],[])],cA []⟩)]
def gQ (x:VE) (a b c:V) (k:V->Prop):Prop:=UK x.most (Wo a b c k)
def gP (x:VE) (w:Bool) (v:V) (op:(V->Prop)->Prop) (S:Hp) (k:KV):Prop:=UK x.most (PF w v (fun k=>op fun u=>k u S) S k)
def gL (x:VE) (w:Bool) (v:V) (op:KV->Prop) (S:Hp) (k:KV):Prop:=UK x.most (PF w v (fun k=>op fun u S=>k u S) S k)
def gK (x:VE) (w:Bool) (v u:V) (S:Hp) (k:KV):Prop:=UK x.most (PF w v (fun k=>k u S) S k)
def gC (x:VE) (w:Bool) (v u p:V) (S:Hp) (k:Prop):Prop:=UK x.most (TF w v u (fun k=>aU p S fun a _=>aW a u k) k)
abbrev cU:List Value:=[(.slice none 0 0)]
abbrev iK:List Value:=[(.int .u64 (.ofNat 0))]
abbrev uF:List Value:=[(.int .i64 (.ofNat 0)),(.slice none 0 0),(.slice none 0 0),(.slice none 0 0),(.slice none 0 0)]
abbrev vS:List Value:=[(.int .i64 (.ofNat 0)),(.slice none 0 0)]
abbrev vR:List Value:=[(.int .u8 (.ofNat 0)),(.int .i64 (.ofNat 0)),(.int .i64 (.ofNat 0)),(.slice none 0 0),(.slice none 0 0),(.slice none 0 0),(.slice none 0 0)]
abbrev EN:List Value:=[(.int .i64 (.ofNat 0))]
abbrev GK:List Value:=[(.int .u64 (.ofNat 0)),(.int .u64 (.ofNat 0))]
abbrev MJ:List Value:=[(.slice none 0 0),(.slice none 0 0),(.slice none 0 0)]
abbrev TE:List Value:=[(.int .u8 (.ofNat 0)),(.int .i64 (.ofNat 0)),(.int .i64 (.ofNat 0)),(.slice none 0 0),(.slice none 0 0),(.slice none 0 0),(.slice none 0 0),(.int .u8 (.ofNat 0)),(.int .i64 (.ofNat 0))]
abbrev Sr:List Value:=[(.int .u64 (.ofNat 0)),(.int .u64 (.ofNat 0)),(.int .u64 (.ofNat 0)),(.int .u64 (.ofNat 0)),(.int .i64 (.ofNat 0)),(.int .i64 (.ofNat 0)),(.int .i64 (.ofNat 0)),(.int .i64 (.ofNat 0)),(.int .i64 (.ofNat 0)),(.int .i64 (.ofNat 0)),(.int .i64 (.ofNat 0)),(.int .i64 (.ofNat 0)),(.int .i64 (.ofNat 0)),(.slice none 0 0),(.slice none 0 0),(.slice none 0 0),(.slice none 0 0),(.int .u8 (.ofNat 0)),(.int .i64 (.ofNat 0)),(.int .i64 (.ofNat 0)),(.slice none 0 0),(.slice none 0 0),(.slice none 0 0),(.slice none 0 0)]
abbrev aEL:List Value:=[(.int .u64 (.ofNat 0)),(.int .u64 (.ofNat 0)),(.int .u64 (.ofNat 0)),(.int .u64 (.ofNat 0)),(.int .i64 (.ofNat 0)),(.int .i64 (.ofNat 0)),(.int .i64 (.ofNat 0)),(.int .i64 (.ofNat 0)),(.int .i64 (.ofNat 0)),(.int .i64 (.ofNat 0)),(.int .i64 (.ofNat 0)),(.int .i64 (.ofNat 0))]
abbrev aJX:List Value:=[(.int .u64 (.ofNat 0)),(.int .u64 (.ofNat 0)),(.int .u64 (.ofNat 0)),(.int .u64 (.ofNat 0)),(.int .i64 (.ofNat 0)),(.int .i64 (.ofNat 0)),(.int .i64 (.ofNat 0)),(.int .i64 (.ofNat 0)),(.int .i64 (.ofNat 0)),(.int .i64 (.ofNat 0)),(.int .i64 (.ofNat 0)),(.int .i64 (.ofNat 0)),(.pointer none),(.slice none 0 0),(.int .i64 (.ofNat 0)),(.slice none 0 0),(.slice none 0 0),(.slice none 0 0),(.slice none 0 0)]
end Go.Am
namespace Go.Proofs.JJ
open Go Go.RowKit Go.Proofs Go.Shelf
def aOV:Go.Shelf.Ren:=⟨fun | 264=>208 | n=>n,fun | 46=>75 | 53=>22 | n=>n,fun n=>n⟩
theorem aMh:Lays.n264 Tryz.prog aOV:={
 mixed:=by kernel_rfl
 f264:=Tryz.func208.trans (congrArg some (by kernel_rfl))
 t46:=Tryz.underlying75
 a46:=Tryz.isAgg75
 z46:=Tryz.sizeOf75
 v46:=Tryz.zeroValue75
 t53:=Tryz.underlying22
 a53:=Tryz.isAgg22
 z53:=Tryz.sizeOf22
 v53:=Tryz.zeroValue22}
theorem Qq (m:Nat) (w:World) (h0:0<m) (h1:m<=4294967296):Calls Tryz.prog 180 #[.int .u64 m] w fun e w'=>e= .returned (.bool true)/\w=w':=by
 have h2:m<=2305843009213693952:=by omega
 have h3:decide ((m:Int)<=2305843009213693952)=true:=by simp;omega
 go_enter Tryz.func180,Tryz.ntmps180
 go_wp2
 go_ret
 exact⟨rfl,rfl⟩
theorem aOW (lo y:Nat) (w:World) (h0:0<y) (h1:y<18446744073709551616) (h2:lo<18446744073709551616):Calls Tryz.prog 207 #[.int .u64 0,.int .u64 lo,.int .u64 y] w fun e w'=>e= .returned (.tuple #[.int .u64 ((lo / y:Nat):Int),.int .u64 ((lo%y:Nat):Int)])/\Below w.heap.size w w':=by
 have g1:((y:Int)==0)=false:=by rw [beq_eq_false_iff_ne];omega
 have g2:decide (y=0)=false:=by simp;omega
 go_enter Tryz.func207,Tryz.ntmps207
 go_wp2
 go_quiet (fail)
 go_wp2
 go_ret2
 refine⟨?_,below_drewN (Below.refl _ _) _⟩;show Ending.returned (.tuple #[.int .u64 (IntKind.u64.wrap ((lo / y:Nat):Int)),.int .u64 ((lo%y:Nat):Int)])=_;rw [Mul64.wrapN _ (Nat.lt_of_le_of_lt (Nat.div_le_self _ _) h2)]
theorem aOX (lo y:Nat) (w:World) (h0:0<y) (h1:y<18446744073709551616) (h2:lo<18446744073709551616):Calls Tryz.prog 209 #[.int .u64 0,.int .u64 lo,.int .u64 y] w fun e w'=>e= .returned (.int .u64 ((lo%y:Nat):Int))/\Below w.heap.size w w':=by
 have g1:((y:Int)==0)=false:=by rw [beq_eq_false_iff_ne];omega
 have C:=aOW lo y w h0 h1 h2
 go_enter Tryz.func209,Tryz.ntmps209
 go_wp2_with fail
 refine C.mono ?_
 rintro e W1 ⟨rfl,hb⟩
 go_wp2
 go_ret
 exact⟨rfl,hb⟩
set_option maxHeartbeats 1000000 in
theorem Qr (a b m:Nat) (w:World) (ha:a<18446744073709551616) (hb:b<18446744073709551616) (hm:m<=4294967296) (h0:0<m):
 Calls Tryz.prog 158 #[.int .u64 a,.int .u64 b,.int .u64 m] w fun e w'=>e= .returned (.int .u64 ((a*b%m:Nat):Int))/\Below w.heap.size w w':=by
 have g1:((m:Int)==0)=false:=by rw [beq_eq_false_iff_ne];omega
 have la:a%m<m:=Nat.mod_lt _ h0;have lb:b%m<m:=Nat.mod_lt _ h0
 have lab:a%m*(b%m)<18446744073709551616:=by
  have:a%m*(b%m)<=4294967295*4294967295:=Nat.mul_le_mul (by omega) (by omega);omega
 have C1:∀w,Calls Tryz.prog 208 #[.int .u64 ((a%m:Nat):Int),.int .u64 ((b%m:Nat):Int)] w fun e w'=>e= .returned (.tuple #[.int .u64 0,.int .u64 ((a%m*(b%m):Nat):Int)])/\w'=w:=by
  intro w;have C:=Any.bits_Mul64 aMh (a%m) (b%m) (by omega) (by omega) w;rw [Nat.div_eq_of_lt lab,Nat.mod_eq_of_lt lab]at C;exact C
 have C2:∀w,Calls Tryz.prog 209 #[.int .u64 0,.int .u64 ((a%m*(b%m):Nat):Int),.int .u64 m] w fun e w'=>e= .returned (.int .u64 ((a*b%m:Nat):Int))/\Below w.heap.size w w':=by
  intro w;have C:=aOX (a%m*(b%m)) m w h0 (by omega) lab;rw [<-Nat.mul_mod]at C;exact C
 have hM:=Qq m w h0 hm;clear la lb lab
 go_enter Tryz.func158,Tryz.ntmps158
 go_wp2_with fail
 refine hM.mono ?_
 rintro e W1 ⟨rfl,rfl⟩
 go_wp2_with fail
 go_quiet ((go_at_call 208;exact Calls.quiet_of_same (C1 _)))
 go_wp2_with fail
 refine(C2 _).mono ?_
 rintro e W2 ⟨rfl,NN⟩
 go_wp2
 go_ret
 exact⟨rfl,(below_drewN (Below.refl _ _) _).trans NN⟩
theorem aOY (a b m:Nat) (w:World) (ha:a<18446744073709551616) (hb:b<18446744073709551616) (hm:m<=4294967296) (h0:0<m):
 Calls Tryz.prog 157 #[.int .u64 a,.int .u64 b,.int .u64 m] w fun e w'=>e= .returned (.int .u64 (((a%m+b%m)%m:Nat):Int))/\Below w.heap.size w w':=by
 have g1:((m:Int)==0)=false:=by rw [beq_eq_false_iff_ne];omega
 have la:a%m<m:=Nat.mod_lt _ h0;have lb:b%m<m:=Nat.mod_lt _ h0;have g2:=Mul64.wrapN (a%m+b%m) (by omega);have hM:=Qq m w h0 hm;clear la lb
 go_enter Tryz.func157,Tryz.ntmps157
 go_wp2_with fail
 refine hM.mono ?_
 rintro e W1 ⟨rfl,rfl⟩
 go_wp2_with fail
 go_quiet (fail)
 go_wp2
 go_ret
 refine⟨congrArg (fun x=>Ending.returned (.int .u64 x)) ?_,below_drewN (Below.refl _ _) _⟩;show(IntKind.u64.wrap ((a:Int)%m+(b:Int)%m)).tmod m=_;have e1:(a:Int)%m+(b:Int)%m=((a%m+b%m:Nat):Int):=by norm_cast
 rw [e1,g2,<-Int.ofNat_tmod]
theorem aI6 (a b m:Nat) (w:World) (ha:a<18446744073709551616) (hb:b<18446744073709551616) (hm:m<=4294967296) (h0:0<m):
 Calls Tryz.prog 231 #[.int .u64 a,.int .u64 b,.int .u64 m] w fun e w'=>e= .returned (.int .u64 ((iJ a b m:Nat):Int))/\Below w.heap.size w w':=by
 have g1:((m:Int)==0)=false:=by rw [beq_eq_false_iff_ne];omega
 have la:a%m<m:=Nat.mod_lt _ h0;have lb:b%m<m:=Nat.mod_lt _ h0;have g2:=Mul64.wrapN (a%m+m) (by omega);have hM:=Qq m w h0 hm;clear la lb
 go_enter Tryz.func231,Tryz.ntmps231
 go_wp2_with fail
 refine hM.mono ?_
 rintro e W1 ⟨rfl,rfl⟩
 go_wp2_with fail
 go_quiet (fail)
 go_wp2
 go_ret
 refine⟨congrArg (fun x=>Ending.returned (.int .u64 x)) ?_,below_drewN (Below.refl _ _) _⟩;show(IntKind.u64.wrap (IntKind.u64.wrap ((a:Int)%m+m)-(b:Int)%m)).tmod m=_;have lb:b%m<m:=Nat.mod_lt _ h0;have la:a%m<m:=Nat.mod_lt _ h0;have e1:(a:Int)%m+m=((a%m+m:Nat):Int):=by norm_cast
 have e2:((a%m+m:Nat):Int)-(b:Int)%m=((a%m+m-b%m:Nat):Int):=by
  have:((b%m:Nat):Int)=(b:Int)%m:=by norm_cast
  rw [<-this];omega
 rw [e1,g2,e2,Mul64.wrapN _ (by omega),<-Int.ofNat_tmod];rfl
theorem aMi (e:Nat) (he:e<18446744073709551616):bits .and .u64 (e:Int) 1=((e%2:Nat):Int):=by
 have h:=bits_and_u64_nat e 1 he (by omega);rw [Nat.and_one_is_mod]at h;exact h
set_option maxHeartbeats 1000000 in
theorem aOZ (a e m:Nat) (w:World) (ha:a<18446744073709551616) (he:e<18446744073709551616) (h0:0<m) (hm:m<=4294967296):
 Calls Tryz.prog 125 #[.int .u64 a,.int .u64 e,.int .u64 m] w fun r w'=>r= .returned (.int .u64 ((ZX 64 (1%m) a e m:Nat):Int))/\Below w.heap.size w w':=by
 have g1:((m:Int)==0)=false:=by rw [beq_eq_false_iff_ne];omega
 have hM:=Qq m w h0 hm
 go_enter Tryz.func125,Tryz.ntmps125
 go_wp2_with fail
 refine hM.mono ?_
 rintro e W1 ⟨rfl,rfl⟩
 go_wp2_with fail
 go_loopw [0,1,7] (fun av ev ov wr=>∃(f a' e' o':Nat),a'<18446744073709551616/\o'<18446744073709551616/\e'<2 ^ f/\f<=64/\av= .int .u64 a'/\ev= .int .u64 e'/\ov= .int .u64 o'/\ZX f o' a' e' m=ZX 64 (1%m) a e m/\Below w.heap.size w wr) (fun _ ev _ _=>(intOf ev).toNat)
 case atStart=>exact⟨64,a,e,1%m,ha,by have:=Nat.mod_lt 1 h0;omega,he,Nat.le_refl _,rfl,rfl,by norm_cast,rfl,Below.refl _ _⟩
 case round=>
  obtain⟨f,a',e',o',h1,h2,h3,h4,rfl,rfl,rfl,h5,h6⟩:=hrel;have H5:=Lib.hid h5;clear h5
  have he':e'<18446744073709551616:=by
   have:2 ^ f<=2 ^ 64:=Nat.pow_le_pow_right (by omega) h4;omega
  by_cases hz:0<e'
  ·obtain⟨f,rfl⟩:∃g,f=g+1:=by
    cases f with
    | zero=>simp at h3;omega
    | succ g=>exact⟨g,rfl⟩
   have aB0:=Wk (f:=f) (out:=o') (a:=a') (m:=m) hz;have HS:=Lib.hid aB0;clear aB0;have h3':e' / 2<2 ^ f:=by rw [Nat.pow_succ]at h3;omega
   have la:a'*a'%m<m:=Nat.mod_lt _ h0;have lo:o'*a'%m<m:=Nat.mod_lt _ h0;clear h3;have ga:=aMi e' he';by_cases ho:e'%2=1
   ·have ga1:bits .and .u64 (e':Int) 1=1:=by rw [ga,ho];rfl
    have HO:=Lib.hid ho;clear ga ho
    go_wp2_with fail
    refine(Qr o' a' m _ h2 h1 hm h0).mono ?_
    rintro r W1 ⟨rfl,Dv⟩
    go_wp2_with fail
    refine(Qr a' a' m _ h1 h1 hm h0).mono ?_
    rintro r W2 ⟨rfl,NN⟩
    go_wp2
    go_roundw
    case rel=>
     refine⟨f,a'*a'%m,e' / 2,o'*a'%m,by omega,by omega,h3',by omega,rfl,?_,rfl,?_,h6.trans ((Dv.mono h6.size).trans (NN.mono (Nat.le_trans h6.size Dv.size)))⟩
     ·norm_cast
     ·rw [<-H5.out,HS.out,if_pos HO.out]
    case measure=>simp [intOf];omega
   ·have ho:e'%2=0:=by omega
    have ga1:bits .and .u64 (e':Int) 1=0:=by rw [ga,ho];rfl
    have HO:=Lib.hid ho;clear ga ho
    go_wp2_with fail
    refine(Qr a' a' m _ h1 h1 hm h0).mono ?_
    rintro r W2 ⟨rfl,NN⟩
    go_wp2
    go_roundw
    case rel=>
     refine⟨f,a'*a'%m,e' / 2,o',by omega,by omega,h3',by omega,rfl,?_,rfl,?_,h6.trans (NN.mono h6.size)⟩
     ·norm_cast
     ·rw [<-H5.out,HS.out,if_neg (by rw [HO.out];omega)]
    case measure=>simp [intOf];omega
  ·obtain rfl:e'=0:=by omega
   go_wp2
   go_ret
   refine⟨?_,h6⟩;have:=H5.out;rw [Wj]at this;rw [<-this];rfl
def Ni (a m:Nat) (e:Ending):Prop:=e= .returned (if(DB (a%m+1) m (a%m) 0 (1%m) m).1=1 then .tuple #[.int .u64 ((DB (a%m+1) m (a%m) 0 (1%m) m).2:Nat),.int .i64 0]else .tuple #[.int .u64 0,.int .i64 5])
set_option maxHeartbeats 1000000 in
theorem aO0 (a m:Nat) (w:World) (ha:a<18446744073709551616) (h0:0<m) (hm:m<=4294967296):
 Calls Tryz.prog 229 #[.int .u64 a,.int .u64 m] w fun r w'=>Ni a m r/\Below w.heap.size w w':=by
 have g1:((m:Int)==0)=false:=by rw [beq_eq_false_iff_ne];omega
 have hM:=Qq m w h0 hm
 go_enter Tryz.func229,Tryz.ntmps229
 go_wp2_with fail
 refine hM.mono ?_
 rintro e W1 ⟨rfl,rfl⟩
 go_wp2_with fail
 go_quiet (fail)
 go_wp2_with fail
 go_quiet (fail)
 go_wp2_with fail
 go_loopw [6,7,8,9,10] (fun rv sv xv yv _ wr=>∃(f r s x y:Nat),r<18446744073709551616/\s<f/\s<18446744073709551616/\x<18446744073709551616/\y<18446744073709551616/\rv= .int .u64 r/\sv= .int .u64 s/\xv= .int .u64 x/\yv= .int .u64 y/\DB f r s x y m=DB (a%m+1) m (a%m) 0 (1%m) m/\Below w.heap.size w wr) (fun _ sv _ _ _ _=>(intOf sv).toNat)
 case atStart=>
  have l1:a%m<m:=Nat.mod_lt _ h0;have l2:1%m<m:=Nat.mod_lt _ h0;exact⟨a%m+1,m,a%m,0,1%m,by omega,by omega,by omega,by omega,by omega,rfl,by norm_cast,rfl,by norm_cast,rfl,below_drewN (below_drewN (Below.refl _ _) _) _⟩
 case round=>
  obtain⟨f,r,s,x,y,h1,h2,h3,h4,h5,rfl,rfl,rfl,rfl,h6,h7⟩:=hrel;have H6:=Lib.hid h6;clear h6;by_cases hz:0<s
  ·obtain⟨f,rfl⟩:∃g,f=g+1:=⟨f-1,by omega⟩
   have aB0:=aHb (f:=f) (r:=r) (x:=x) (y:=y) (m:=m) hz;have HS:=Lib.hid aB0;clear aB0;have l1:r%s<s:=Nat.mod_lt _ hz;have l2:r / s<=r:=Nat.div_le_self _ _;have l3:r / s*y%m<m:=Nat.mod_lt _ h0;have l4:iJ x (r / s*y%m) m<m:=Nat.mod_lt _ h0;have g2:((s:Int)==0)=false:=by rw [beq_eq_false_iff_ne];omega
   have g3:((s:Int) != 0)=true:=by rw [bne_iff_ne];omega
   have g4:IntKind.u64.wrap ((r:Int) / s)=((r / s:Nat):Int):=by
    have:=Mul64.wrapN (r / s) (by omega);rw [<-this];norm_cast
   have G4:=Lib.hid g4;clear g4
   go_wp2_with fail
   go_quiet (fail)
   go_wp2_with fail
   rw [G4.out];refine(Qr (r / s) y m _ (by omega) h5 hm h0).mono ?_
   rintro e W1 ⟨rfl,Dv⟩
   go_wp2_with fail
   refine(aI6 x (r / s*y%m) m _ h4 (by omega) hm h0).mono ?_
   rintro e W2 ⟨rfl,NN⟩
   go_wp2
   go_roundw
   case rel=>
    refine⟨f,s,r%s,y,iJ x (r / s*y%m) m,h3,by omega,by omega,h5,by omega,rfl,?_,rfl,rfl,by rw [<-H6.out,HS.out],?_⟩
    ·norm_cast
    ·refine(below_drewN h7 ?_).trans ?_
     rotate_left
     ·exact(Dv.mono h7.size).trans (NN.mono (Nat.le_trans h7.size Dv.size))
   case measure=>simp [intOf];omega
  ·obtain rfl:s=0:=by omega
   by_cases hr:r=1
   ·subst hr
    go_wp2
    go_ret2
    have:=H6.out;rw [Wl]at this;exact⟨by unfold Ni;rw [<-this];rfl,h7⟩
   ·have g5:((r:Int) != 1)=true:=by rw [bne_iff_ne];omega
    go_wp2
    go_ret2
    have:=H6.out;rw [Wl]at this;exact⟨by unfold Ni;rw [<-this,if_neg hr];rfl,h7⟩
end Go.Proofs.JJ
namespace Go.Am
open Go.RowKit Go.MapKept Go.Proofs Go.Proofs.JJ
def aB2 (args:List Value) (k:Nat->Nat->Nat->Bool):Bool:=
 match args with
 | [.int .u64 (.ofNat a),.int .u64 (.ofNat b),.int .u64 (.ofNat m)]=>match Nat.blt a 18446744073709551616,Nat.blt b 18446744073709551616,Nat.ble m 4294967296,Nat.blt 0 m with
  | true,true,true,true=>k a b m
  | _,_,_,_=>false
 | _=>false
def ov3 (g:Nat->Nat->Nat->Nat) (args:List Value) (S:St) (K:VK):Bool:=aB2 args fun a b m=>bV (g a b m) fun n=>K (.int .u64 (.ofNat n)) S
def aSU (e:Nat) (out a m:Nat) (k:Nat->Bool):Bool:=
 NA (β:=Nat->Nat->Nat->Bool) (fun out _ _=>k out) (fun _ ih out a e=>match Nat.beq e 0 with
  | true=>k out
  | false=>match Nat.beq (Nat.mod e 2) 1 with
   | true=>bV (Nat.mod (Nat.mul out a) m) fun out=>bV (Nat.mod (Nat.mul a a) m) fun a=>bV (Nat.div e 2) fun e=>ih out a e
   | false=>bV (Nat.mod (Nat.mul a a) m) fun a=>bV (Nat.div e 2) fun e=>ih out a e) 64 out a e
def aFA (args:List Value) (S:St) (K:VK):Bool:=aB2 args fun a e m=>aSU e (Nat.mod 1 m) a m fun n=>K (.int .u64 (.ofNat n)) S
def aMr (f:Nat) (r s x y m:Nat) (k:Nat->Nat->Bool):Bool:=
 NA (β:=Nat->Nat->Nat->Nat->Bool) (fun r _ x _=>k r x) (fun _ ih r s x y=>match Nat.beq s 0 with
  | true=>k r x
  | false=>bV (Nat.mod r s) fun s'=>bV (iJ x (Nat.mod (Nat.mul (Nat.div r s) y) m) m) fun y'=>ih s s' y y') f r s x y
def aB3 (args:List Value) (S:St) (K:VK):Bool:=
 match args with
 | [.int .u64 (.ofNat a),.int .u64 (.ofNat m)]=>match Nat.blt a 18446744073709551616,Nat.ble m 4294967296,Nat.blt 0 m with
  | true,true,true=>bV (Nat.mod a m) fun s=>aMr (Nat.succ s) m s 0 (Nat.mod 1 m) m fun r x=>match Nat.beq r 1 with
   | true=>K (.tuple ⟨[.int .u64 (.ofNat x),.int .i64 (.ofNat 0)]⟩) S
   | false=>K (.tuple ⟨[.int .u64 (.ofNat 0),.int .i64 (.ofNat 5)]⟩) S
  | _,_,_=>false
 | _=>false
theorem aFB{m:Nat}{k:Nat->Bool}:∀(f out a e:Nat),NA (β:=Nat->Nat->Nat->Bool) (fun out _ _=>k out) (fun _ ih out a e=>match Nat.beq e 0 with
 | true=>k out
 | false=>match Nat.beq (Nat.mod e 2) 1 with
  | true=>bV (Nat.mod (Nat.mul out a) m) fun out=>bV (Nat.mod (Nat.mul a a) m) fun a=>bV (Nat.div e 2) fun e=>ih out a e
  | false=>bV (Nat.mod (Nat.mul a a) m) fun a=>bV (Nat.div e 2) fun e=>ih out a e) f out a e=k (ZX f out a e m):=by
 intro f;induction f with
 | zero=>intro out a e;rfl
 | succ f ih=>
  intro out a e
  show(match Nat.beq e 0 with
   | true=>k out
   | false=>match Nat.beq (Nat.mod e 2) 1 with
    | true=>bV (Nat.mod (Nat.mul out a) m) fun out=>bV (Nat.mod (Nat.mul a a) m) fun a=>bV (Nat.div e 2) fun e=>NA (β:=Nat->Nat->Nat->Bool) _ _ f out a e
    | false=>bV (Nat.mod (Nat.mul a a) m) fun a=>bV (Nat.div e 2) fun e=>NA (β:=Nat->Nat->Nat->Bool) _ _ f out a e)=k (match Nat.beq e 0 with
   | true=>out
   | false=>ZX f (match Nat.beq (e%2) 1 with | true=>out*a%m | false=>out) (a*a%m) (e / 2) m)
  cases Nat.beq e 0 with
  | true=>rfl
  | false=>
   show(match Nat.beq (e%2) 1 with | true=>_ | false=>_)=_;cases Nat.beq (e%2) 1 with
   | true=>
    show bV (Nat.mod (Nat.mul out a) m) (fun out=>bV (Nat.mod (Nat.mul a a) m) fun a=>bV (Nat.div e 2) fun e=>NA (β:=Nat->Nat->Nat->Bool) _ _ f out a e)=_;rw [bH,bH,bH];exact ih _ _ _
   | false=>
    show bV (Nat.mod (Nat.mul a a) m) (fun a=>bV (Nat.div e 2) fun e=>NA (β:=Nat->Nat->Nat->Bool) _ _ f out a e)=_;rw [bH,bH];exact ih _ _ _
theorem aFz{m:Nat}{k:Nat->Nat->Bool}:∀(f r s x y:Nat),aMr f r s x y m k=k (DB f r s x y m).1 (DB f r s x y m).2:=by
 intro f;induction f with
 | zero=>intro r s x y;rfl
 | succ f ih=>
  intro r s x y
  show(match Nat.beq s 0 with
   | true=>k r x
   | false=>bV (Nat.mod r s) fun s'=>bV (iJ x (Nat.mod (Nat.mul (Nat.div r s) y) m) m) fun y'=>aMr f s s' y y' m k)=k (match Nat.beq s 0 with
   | true=>(r,x)
   | false=>DB f s (r%s) y (iJ x (r / s*y%m) m) m).1 (match Nat.beq s 0 with
   | true=>(r,x)
   | false=>DB f s (r%s) y (iJ x (r / s*y%m) m) m).2
  cases Nat.beq s 0 with
  | true=>rfl
  | false=>simp only [bH];exact ih _ _ _ _
section
variable{w0:World}{U:Rn}{S:St}{w:World}
theorem Ra{args eX:List Value}{k:Nat->Nat->Nat->Bool} (hk:aB2 args k=true) (ha:lZ U args eX):∃a b m:Nat,eX=[.int .u64 a,.int .u64 b,.int .u64 m]/\a<18446744073709551616/\b<18446744073709551616/\m<=4294967296/\0<m/\k a b m=true:=by
 unfold aB2 at hk;split at hk
 ·rename_i a b m
  obtain⟨a',t,rfl,h1,h2⟩:=ha.dM;obtain⟨b',t,rfl,h3,h4⟩:=h2.dM;obtain⟨c',t,rfl,h5,h6⟩:=h4.dM;cases h6.lE;cases h1.of_flat rfl;cases h3.of_flat rfl;cases h5.of_flat rfl;split at hk
  ·rename_i g1 g2 g3 g4
   exact⟨a,b,m,rfl,cG g1,cG g2,cG g3,cG g4,hk⟩
  ·cases hk
 ·cases hk
theorem aD6{f:FuncId}{g:Nat->Nat->Nat->Nat} (he:∀args w,(callFunc f args).run Tryz.prog w= .ok (.enter f args) w)
 (C:∀(a b m:Nat) (w:World),a<18446744073709551616->b<18446744073709551616->m<=4294967296->0<m->Calls Tryz.prog f #[.int .u64 a,.int .u64 b,.int .u64 m] w fun e w'=>e= .returned (.int .u64 (g a b m:Nat))/\Below w.heap.size w w'):
 lG Tryz.prog w0 (fun f' args S K=>match Nat.beq f' f with | true=>ov3 g args S K | false=>false):=by
 intro f' args S K U w eX hk h ha;dsimp only at hk;split at hk
 ·rename_i hf'
  obtain rfl:f'=f:=by simpa using hf'
  refine⟨he ⟨eX⟩,?_⟩;obtain⟨a,b,m,rfl,h1,h2,h3,h4,hk⟩:=Ra hk ha;rw [bH]at hk;refine callsIn_wide.2 ((C a b m w h1 h2 h3 h4).mono ?_)
  rintro e w' ⟨rfl,hb⟩
  obtain⟨q1,q2⟩:=h.below hb;exact⟨_,rfl,U,_,S,hk,.flat rfl,q1,q2⟩
 ·cases hk
theorem aJT:lG Tryz.prog w0 (fun f' args S K=>match Nat.beq f' 125 with | true=>aFA args S K | false=>false):=by
 intro f' args S K U w eX hk h ha;dsimp only at hk;split at hk
 ·rename_i hf'
  obtain rfl:f'=125:=by simpa using hf'
  refine⟨enters_of Tryz.func125 (by kernel_rfl) rfl ⟨eX⟩,?_⟩;obtain⟨a,b,m,rfl,h1,h2,h3,h4,hk⟩:=Ra hk ha;have hk:K (.int .u64 (.ofNat (ZX 64 (1%m) a b m))) S=true:=(aFB (k:=fun n=>K (.int .u64 (.ofNat n)) S) 64 (1%m) a b).symm.trans hk;refine callsIn_wide.2 ((aOZ a b m w h1 h2 h4 h3).mono ?_)
  rintro e w' ⟨rfl,hb⟩
  obtain⟨q1,q2⟩:=h.below hb;exact⟨_,rfl,U,_,S,hk,.flat rfl,q1,q2⟩
 ·cases hk
theorem aJU:lG Tryz.prog w0 (fun f' args S K=>match Nat.beq f' 229 with | true=>aB3 args S K | false=>false):=by
 intro f' args S K U w eX hk h ha;dsimp only at hk;split at hk
 ·rename_i hf'
  obtain rfl:f'=229:=by simpa using hf'
  refine⟨enters_of Tryz.func229 (by kernel_rfl) rfl ⟨eX⟩,?_⟩;unfold aB3 at hk;split at hk
  ·rename_i a m
   obtain⟨a',t,rfl,h1,h2⟩:=ha.dM;obtain⟨c',t,rfl,h3,h4⟩:=h2.dM;cases h4.lE;cases h1.of_flat rfl;cases h3.of_flat rfl;split at hk
   ·rename_i g1 g2 g3
    have g1:=cG g1;have g2:=cG g2;have g3:=cG g3;rw [bH,aFz]at hk;refine callsIn_wide.2 ((aO0 a m w g1 g3 g2).mono ?_)
    rintro e w' ⟨he,hbe⟩
    obtain⟨q1,q2⟩:=h.below hbe;unfold Ni at he;by_cases hr:(DB (a%m+1) m (a%m) 0 (1%m) m).1=1
    ·have hb:Nat.beq (DB (Nat.succ (Nat.mod a m)) m (Nat.mod a m) 0 (Nat.mod 1 m) m).1 1=true:=by
      show Nat.beq (DB (a%m+1) m (a%m) 0 (1%m) m).1 1=true;rw [hr];rfl
     rw [hb]at hk;rw [aK hr]at he;subst he;exact⟨_,rfl,U,_,S,hk,.pZ (.cons (.flat rfl) (.cons (.flat rfl) (.nil U))),q1,q2⟩
    ·have hb:Nat.beq (DB (Nat.succ (Nat.mod a m)) m (Nat.mod a m) 0 (Nat.mod 1 m) m).1 1=false:=by
      cases hq:Nat.beq (DB (Nat.succ (Nat.mod a m)) m (Nat.mod a m) 0 (Nat.mod 1 m) m).1 1 with
      | false=>rfl
      | true=>exact aX (dI hq) hr
     rw [hb]at hk;rw [aG hr]at he;subst he;exact⟨_,rfl,U,_,S,hk,.pZ (.cons (.flat rfl) (.cons (.flat rfl) (.nil U))),q1,q2⟩
   ·cases hk
  ·cases hk
 ·cases hk
def aI9 (ov:FuncId->Option (List Value->St->VK->Bool)):FuncId->Option (List Value->St->VK->Bool):=
 GI 158 (ov3 fun a b m=>a*b%m) (GI 157 (ov3 fun a b m=>(a%m+b%m)%m) (GI 231 (ov3 iJ) (GI 125 aFA (GI 229 aB3 ov))))
theorem aJa{ov:FuncId->Option (List Value->St->VK->Bool)} (h:Ep Tryz.prog w0 ov):Ep Tryz.prog w0 (aI9 ov):=
 wI (aD6 (enters_of Tryz.func158 (by kernel_rfl) rfl) fun a b m w h1 h2 h3 h4=>Qr a b m w h1 h2 h3 h4)
  (wI (aD6 (enters_of Tryz.func157 (by kernel_rfl) rfl) fun a b m w h1 h2 h3 h4=>aOY a b m w h1 h2 h3 h4)
   (wI (aD6 (enters_of Tryz.func231 (by kernel_rfl) rfl) fun a b m w h1 h2 h3 h4=>aI6 a b m w h1 h2 h3 h4)
    (wI aJT (wI aJU h))))
end
end Go.Am
namespace Go.Am
open Go.Proofs Go.RowKit
theorem Qs:Tryz.prog.follows .mixedOrders=true:=by kernel_rfl
theorem aI7:Tryz.prog.funcs.toList.all (fun f=>f.name != "runtime.NumGoroutine")=true:=by kernel_rfl
theorem Qt:∀(f:FuncId) (fn:Func),Tryz.prog.funcs[f]? =some fn->fn.name≠ "runtime.NumGoroutine" :=by
 intro f fn h;have hm:fn∈Tryz.prog.funcs.toList:=BJ (i:=f) (by rw [Nz];exact h);have:=dL.1 aI7 fn hm;simpa using this
def triedL:List Int:=[2,3,5,7,11,13,17,19,23,29,31,37]
def tabL:List Int:=[0,1,56,2,57,49,28,3,61,58,42,50,38,29,17,4,62,47,59,36,45,43,51,22,53,39,33,30,24,18,12,5,63,55,48,27,60,41,37,16,46,35,44,21,52,32,23,11,54,26,40,15,34,20,31,10,25,14,19,9,13,8,7,6]
def gs:List Qd:=[⟨0,triedL.map (Value.int .u64),228,12⟩,⟨1,tabL.map (Value.int .u8),275,64⟩]
theorem gsz:Tryz.prog.globals.size=4:=by kernel_rfl
theorem aFr:GOk Tryz.prog gs:=by
 refine⟨by decide,fun x hx=>?_⟩;rcases cC.1 hx with rfl | hx
 ·exact⟨by rw [gsz];decide,by kernel_rfl,by simp [bW]⟩
 ·rcases cC.1 hx with rfl | hx
  ·exact⟨by rw [gsz];decide,by kernel_rfl,by simp [bW]⟩
  ·cases hx
def aI8:FuncId->Option (List Value->St->VK->Bool):=aI9 (fun _=>none)
theorem aFs{w:World}:Ep Tryz.prog w aI8:=aJa (fun f g hg=>by cases hg)
set_option maxRecDepth 1000000 in
theorem aDS:ZA Tryz.prog aI8 1000 60 95 gs ([.int .u64 11],.bool true):=⟨by simp [kV,bW],rfl,by kernel_rfl⟩
set_option maxRecDepth 1000000 in
theorem aDT:ZA Tryz.prog aI8 1000 60 95 gs ([.int .u64 23],.bool true):=⟨by simp [kV,bW],rfl,by kernel_rfl⟩
def aAa:List (List Value×Value):=[([.int .u64 11],.bool true),([.int .u64 23],.bool true)]
def aMj:FuncId->Option (List Value->St->VK->Bool):=GI 95 (NT aAa) aI8
theorem aFt{w:World} (hsz:Tryz.prog.globals.size<=w.heap.size) (hl:Laid gs w):Ep Tryz.prog w aMj:=by
 refine wI (Nc (most:=1000) (n:=60) aFr hsz hl (fun w _ _=>aFs) Qt Qs (enters_of Tryz.func95 (by kernel_rfl) rfl) fun x hx=>?_) aFs;unfold aAa at hx;rcases cC.1 hx with rfl | hx
 ·exact aDS
 rcases cC.1 hx with rfl | hx
 ·exact aDT
 cases hx
set_option maxRecDepth 1000000 in
theorem aJb:ZA Tryz.prog aMj 1000 60 33 gs ([.agg #[.int .u64 23,.int .u64 11,.int .u64 4,.int .u64 9,.int .i64 5,.int .i64 4,.int .i64 1,.int .i64 1,.int .i64 1,.int .i64 1,.int .i64 1,.int .i64 1]],.bool true):=⟨by simp [kV,bW],rfl,by kernel_rfl⟩
def aMk:List (List Value×Value):=[([.agg #[.int .u64 23,.int .u64 11,.int .u64 4,.int .u64 9,.int .i64 5,.int .i64 4,.int .i64 1,.int .i64 1,.int .i64 1,.int .i64 1,.int .i64 1,.int .i64 1]],.bool true)]
def aMl:FuncId->Option (List Value->St->VK->Bool):=GI 33 (NT aMk) aMj
theorem aFu{w:World} (hsz:Tryz.prog.globals.size<=w.heap.size) (hl:Laid gs w):Ep Tryz.prog w aMl:=by
 refine wI (Nc (most:=1000) (n:=60) aFr hsz hl (fun w hz hw=>aFt hz hw) Qt Qs (enters_of Tryz.func33 (by kernel_rfl) rfl) fun x hx=>?_) (aFt hsz hl);unfold aMk at hx;rcases cC.1 hx with rfl | hx
 ·exact aJb
 cases hx
set_option maxRecDepth 1000000 in
theorem aHc:ZA Tryz.prog aMl 1000 60 156 gs ([.int .u64 11],.int .u64 5):=⟨by simp [kV,bW],rfl,by kernel_rfl⟩
def aFv:List (List Value×Value):=[([.int .u64 11],.int .u64 5)]
def aMm:FuncId->Option (List Value->St->VK->Bool):=GI 156 (NT aFv) aMl
theorem aFw{w:World} (hsz:Tryz.prog.globals.size<=w.heap.size) (hl:Laid gs w):Ep Tryz.prog w aMm:=by
 refine wI (Nc (most:=1000) (n:=60) aFr hsz hl (fun w hz hw=>aFu hz hw) Qt Qs (enters_of Tryz.func156 (by kernel_rfl) rfl) fun x hx=>?_) (aFu hsz hl);unfold aFv at hx;rcases cC.1 hx with rfl | hx
 ·exact aHc
 cases hx
end Go.Am
namespace Go.Proofs
open Go.Shelf
def Tryz.sortI_ren:Go.Shelf.Ren:=⟨fun | 189=>43 | 125=>127 | 257=>126 | 128=>190 | 129=>191 | 294=>181 | 295=>182 | 296=>183 | 297=>184 | 298=>185 | 299=>186 | 216=>187 | 300=>188 | 301=>189 | 328=>222 | 329=>223 | 330=>224 | 331=>225 | 332=>226 | 215=>227 | 343=>240 | n=>n,fun | 28=>32 | 3=>3 | 46=>75 | 0=>0 | 51=>247 | 53=>22 | 4=>4 | 183=>239 | 182=>238 | 131=>244 | 5=>5 | 9=>9 | 218=>281 | 222=>284 | 228=>296 | 229=>297 | n=>n,fun | n=>n⟩
theorem Tryz.sortI:Go.Proofs.Lays.n189 Tryz.prog Tryz.sortI_ren:={
 mixed:=by kernel_rfl
 f125:=Tryz.func127.trans (congrArg some (by kernel_rfl))
 f128:=Tryz.func190.trans (congrArg some (by kernel_rfl))
 f129:=Tryz.func191.trans (congrArg some (by kernel_rfl))
 f189:=Tryz.func43.trans (congrArg some (by kernel_rfl))
 f215:=Tryz.func227.trans (congrArg some (by kernel_rfl))
 f216:=Tryz.func187.trans (congrArg some (by kernel_rfl))
 f257:=Tryz.func126.trans (congrArg some (by kernel_rfl))
 f294:=Tryz.func181.trans (congrArg some (by kernel_rfl))
 f295:=Tryz.func182.trans (congrArg some (by kernel_rfl))
 f296:=Tryz.func183.trans (congrArg some (by kernel_rfl))
 f297:=Tryz.func184.trans (congrArg some (by kernel_rfl))
 f298:=Tryz.func185.trans (congrArg some (by kernel_rfl))
 f299:=Tryz.func186.trans (congrArg some (by kernel_rfl))
 f300:=Tryz.func188.trans (congrArg some (by kernel_rfl))
 f301:=Tryz.func189.trans (congrArg some (by kernel_rfl))
 f328:=Tryz.func222.trans (congrArg some (by kernel_rfl))
 f329:=Tryz.func223.trans (congrArg some (by kernel_rfl))
 f330:=Tryz.func224.trans (congrArg some (by kernel_rfl))
 f331:=Tryz.func225.trans (congrArg some (by kernel_rfl))
 f332:=Tryz.func226.trans (congrArg some (by kernel_rfl))
 f343:=Tryz.func240.trans (congrArg some (by kernel_rfl))
 t0:=Tryz.underlying0
 a0:=Tryz.isAgg0
 z0:=Tryz.sizeOf0
 v0:=Tryz.zeroValue0
 t3:=Tryz.underlying3
 a3:=Tryz.isAgg3
 z3:=Tryz.sizeOf3
 v3:=Tryz.zeroValue3
 t4:=Tryz.underlying4
 a4:=Tryz.isAgg4
 z4:=Tryz.sizeOf4
 v4:=Tryz.zeroValue4
 t5:=Tryz.underlying5
 a5:=Tryz.isAgg5
 z5:=Tryz.sizeOf5
 v5:=Tryz.zeroValue5
 t9:=Tryz.underlying9
 a9:=Tryz.isAgg9
 z9:=Tryz.sizeOf9
 v9:=Tryz.zeroValue9
 t28:=Tryz.underlying32
 a28:=Tryz.isAgg32
 z28:=Tryz.sizeOf32
 v28:=Tryz.zeroValue32
 t46:=Tryz.underlying75
 a46:=Tryz.isAgg75
 z46:=Tryz.sizeOf75
 v46:=Tryz.zeroValue75
 t51:=Tryz.underlying247
 a51:=Tryz.isAgg247
 z51:=Tryz.sizeOf247
 v51:=Tryz.zeroValue247
 t53:=Tryz.underlying22
 a53:=Tryz.isAgg22
 z53:=Tryz.sizeOf22
 v53:=Tryz.zeroValue22
 t131:=Tryz.underlying244
 a131:=Tryz.isAgg244
 z131:=Tryz.sizeOf244
 v131:=Tryz.zeroValue244
 t182:=Tryz.underlying238
 a182:=Tryz.isAgg238
 z182:=Tryz.sizeOf238
 v182:=Tryz.zeroValue238
 t183:=Tryz.underlying239
 a183:=Tryz.isAgg239
 z183:=Tryz.sizeOf239
 v183:=Tryz.zeroValue239
 t218:=Tryz.underlying281
 a218:=Tryz.isAgg281
 z218:=Tryz.sizeOf281
 v218:=Tryz.zeroValue281
 t222:=Tryz.underlying284
 a222:=Tryz.isAgg284
 z222:=Tryz.sizeOf284
 v222:=Tryz.zeroValue284
 t228:=Tryz.underlying296
 a228:=Tryz.isAgg296
 z228:=Tryz.sizeOf296
 v228:=Tryz.zeroValue296
 t229:=Tryz.underlying297
 a229:=Tryz.isAgg297
 z229:=Tryz.sizeOf297
 v229:=Tryz.zeroValue297}
end Go.Proofs
namespace Go.Am
open Go.RowKit Go.MapKept Go.Proofs
def HY (z:Int):Value:= .int .i64 z
def GJ (ls:List Int):List Int:=ls.mergeSort fun x y=>decide (x<=y)
open Classical in
def XL (args:List Value) (S:St) (K:VK):Bool:=
 match args with
 | [.slice none 0 0]=>K (.tuple #[]) S
 | [.slice (some _) 0 _]=>K (.tuple #[]) S
 | [.slice (some ⟨i,0,some 0⟩) n _]=>if h:∃ls:List Int,ls.length=n/\ls.length<1000000/\∃olds,S.obj i=some (.cells (ls.map HY) 3 (.grown olds))then vH S i 0 ((GJ h.choose).map HY) fun S=>K (.tuple #[]) S else false
 | _=>false
theorem QI (ls:List Int):(GJ ls).length=ls.length:=List.length_mergeSort ls
theorem Lw (d:List Int) (off:Nat) (cs:Array Value) (h:off+d.length<=cs.size):Go.Sort.putCells HY off d.toArray cs=⟨aY off (d.map HY) cs.toList⟩:=by
 apply Xp;intro k;have:=sV off (d.map HY) cs.toList (by simpa using h) k;simp only [mH]at this;simp only [Go.Sort.putCells,Array.getElem?_mapIdx,List.size_toArray];refine Eq.trans ?_ (show(aY off (d.map HY) cs.toList)[k]? =(⟨aY off (d.map HY) cs.toList⟩:Array Value)[k]? by simp);rw [this];by_cases hk:off<=k/\k<off+d.length
 ·rw [aK hk,Hs (show k<cs.size by omega),DK,aK hk,dJ,aQ (show k-off<d.length by omega)]
  simp [show k-off<d.length by omega]
 ·rw [aG hk]
  cases hc:cs[k]? with
  | none=>rw [Option.map_none];simpa using hc.symm
  | some y=>rw [DK,aG hk];simpa using hc.symm
section
variable{w0:World}
theorem aHd:lG Tryz.prog w0 (fun f' args S K=>match Nat.beq f' 43 with | true=>XL args S K | false=>false):=by
 intro f args S K U w eX hk h ha;dsimp only at hk;split at hk
 ·rename_i hf
  obtain rfl:f=43:=by simpa using hf
  refine⟨enters_of Tryz.func43 (by kernel_rfl) rfl ⟨eX⟩,?_⟩;have nil:∀U',VR U' (.tuple #[]) (.tuple #[]):=fun U'=> .tuple rfl fun k v v' e _=>by simp at e
  unfold XL at hk;split at hk
  ·obtain⟨t',l',rfl,ht,ha⟩:=ha.dM
   cases ha.lE;obtain rfl:=ht.of_flat rfl;have hc:Calls Tryz.prog 43 #[.slice none 0 0] w fun e w'=>e= .returned (.tuple #[])/\w'=w:=Any.slices_Sort_int_none Tryz.sortI none 0 w;refine callsIn_wide.2 (hc.mono ?_)
   rintro e w' ⟨rfl,rfl⟩
   exact⟨_,rfl,U,_,S,hk,nil U,h,.refl U _⟩
  ·obtain⟨t',l',rfl,ht,ha⟩:=ha.dM
   cases ha.lE
   obtain⟨p',c',rfl⟩:∃p' c',t'= .slice p' 0 c':=by
    cases ht with
    | flat q=>cases q
    | _=>exact⟨_,_,rfl⟩
   have hc:Calls Tryz.prog 43 #[.slice p' 0 c'] w fun e w'=>e= .returned (.tuple #[])/\w'=w:=Any.slices_Sort_int_none Tryz.sortI p' c' w;refine callsIn_wide.2 (hc.mono ?_)
   rintro e w' ⟨rfl,rfl⟩
   exact⟨_,rfl,U,_,S,hk,nil U,h,.refl U _⟩
  ·rename_i i n c _
   split at hk
   ·rename_i hex
    obtain⟨h1,h2,olds,ho⟩:=hex.choose_spec;generalize hex.choose=ls at h1 h2 ho hk;obtain⟨t',l',rfl,ht,ha⟩:=ha.dM;cases ha.lE;cases ht with
    | flat q=>cases q
    | @rW _ _ _ _ c' L hL hcc hn he hm=>
     obtain⟨cs,t,fz,hb,hcell,EA⟩:=h.cells ho hL;obtain⟨g1,g2,g3,g4,g5⟩:=EA
     have Du:∀j (hj:j<ls.length),cs[L.s+j]? =some (HY ls[j]):=fun j hj=>by
      obtain⟨v',PY,hr⟩:=hcell j (HY ls[j]) (by rw [dJ,aQ hj];rfl);rw [PY,hr.of_flat rfl]
     have Cr:L.s+ls.length<=cs.size:=by
      rcases OS ls.length with hz | hz
      ·rw [<-g3,<-he,hz];omega
      ·have:=Du (ls.length-1) (by omega)
       have:=(sQ.1 this).1;omega
     have hH:Go.Sort.Holds HY w L.b L.s ls.toArray:=fun j hj=>by
      have hj:j<ls.length:=by simpa using hj
      refine⟨?_,?_⟩
      ·rw [cell_of hb (Du j hj)]
       simp [hj]
      ·have:=g2 (L.s+j) (by omega)
       unfold World.frozen?;simp only [hb];obtain⟨lo,hi⟩:=fz;rw [Bool.eq_false_iff];intro q;simp only [dR,decide_eq_true_eq]at q;exact this q
     have hc:Calls Tryz.prog 43 #[.slice (some ⟨L.b,L.s,none⟩) ls.length c'] w fun e w'=>e= .returned (.tuple #[])/\∃n os,w'=Go.Sort.grow (Go.Sort.putRow HY (Go.Sort.ahead w n) L.b L.s (GJ ls).toArray) os:=
      Any.slices_Sort_int Tryz.sortI L.b L.s c' ls w hH (sQ.1 hb).1 (by omega)
     obtain⟨S',w1,k1,r1,s1,aSV⟩:=DT (new':=(GJ ls).map HY) h hk hL (lZ.flat fun v hv=>by
      obtain⟨u,_,rfl⟩:=kS.1 hv;rfl) (fun v hv=>by obtain⟨u,_,rfl⟩:=kS.1 hv;rfl)
     have hlen:((GJ ls).map HY).length=ls.length:=by rw [mH,QI]
     have aMH:=DU (P:=Tryz.prog) ((GJ ls).map HY) w L.b (L.s+0) 0 cs t fz hb (by rw [hlen];omega) (fun x _ hx=>g2 x (by rw [hlen]at hx;omega)) (fun v hv=>by obtain⟨u,_,rfl⟩:=kS.1 hv;rfl);rw [aSV]at aMH;injection aMH with _ aMH;subst h1;refine callsIn_wide.2 (Calls.mono (show Calls Tryz.prog 43 #[.slice (some ⟨L.b,L.s+0,none⟩) ls.length c'] w _ from hc) ?_)
     rintro e w' ⟨rfl,m,os,rfl⟩
     have aSW:Below w1.heap.size w1 (Go.Sort.grow (Go.Sort.putRow HY (Go.Sort.ahead w m) L.b L.s (GJ ls).toArray) os):=by
      subst aMH;have hsz:(w.putObj L.b (.cells ⟨aY (L.s+0+0) ((GJ ls).map HY) cs.toList⟩ t fz)).heap.size=w.heap.size:=putObj_size _ _;have hhp:∀k,k<w.heap.size->(Go.Sort.grow (Go.Sort.putRow HY (Go.Sort.ahead w m) L.b L.s (GJ ls).toArray) os).heap[k]? =(Go.Sort.putRow HY (Go.Sort.ahead w m) L.b L.s (GJ ls).toArray).heap[k]? :=fun k hk=>Go.Sort.heap_grow_old _ os (by rw [Go.Sort.size_putRow];exact hk);refine⟨rfl,rfl,rfl,by rw [hsz,Go.Sort.size_grow,Go.Sort.size_putRow];show w.heap.size<=w.heap.size+os.size;omega,fun k hk=>?_⟩;rw [hsz]at hk;rw [hhp k hk];by_cases e:k=L.b
      ·subst e
       rw [SJ hb];simp only [Go.Sort.putRow,Go.Sort.mapBlock,aC7,if_true];show Option.map _ w.heap[L.b]? =_;rw [hb,DK];simp only [Go.Sort.onCells];rw [Lw _ _ _ (by rw [QI];exact Cr)];rfl
      ·rw [yS e]
       simp only [Go.Sort.putRow,Go.Sort.mapBlock,aC7];rw [aG (aN e)];rfl
     obtain⟨q1,q2⟩:=r1.below aSW;exact⟨_,rfl,U,_,S',k1,nil U,q1,s1.trans q2⟩
   ·cases hk
  ·cases hk
 ·cases hk
end
end Go.Am
namespace Go.Am
open Go.Proofs Go.RowKit
def aO1:FuncId->Option (List Value->St->VK->Bool):=GI 43 XL aMm
theorem aMn{w:World} (hsz:Tryz.prog.globals.size<=w.heap.size) (hl:Laid gs w):Ep Tryz.prog w aO1:=wI aHd (aFw hsz hl)
set_option maxRecDepth 1000000 in
theorem aHe:ZA Tryz.prog aMm 1000 60 8 gs ([],.bool true):=⟨by simp,rfl,by kernel_rfl⟩
def aAb:List (List Value×Value):=[([],.bool true)]
def Fs:FuncId->Option (List Value->St->VK->Bool):=GI 8 (NT aAb) aO1
theorem aMo{w:World} (hsz:Tryz.prog.globals.size<=w.heap.size) (hl:Laid gs w):Ep Tryz.prog w Fs:=by
 refine wI (Nc (most:=1000) (n:=60) aFr hsz hl (fun w hz hw=>aFw hz hw) Qt Qs (enters_of Tryz.func8 (by kernel_rfl) rfl) fun x hx=>?_) (aMn hsz hl);unfold aAb at hx;rcases cC.1 hx with rfl | hx
 ·exact aHe
 cases hx
end Go.Am
namespace Go.Am
open Go.RowKit Go.MapKept Go.Proofs.JJ
abbrev nu (n:Nat):V:= .int .u64 (.ofNat n)
abbrev ni (n:Nat):V:= .int .i64 (.ofNat n)
def tN (b:Bool):Nat:=4
def tT (b:Bool):Nat:=1
def tM (b:Bool):Nat:=5
def pv (b:Bool):List V:=[nu 23,nu 11,nu 4,nu 9,ni (tM b),ni (tN b),ni (tT b),ni 1,ni 1,ni 1,ni 1,ni 1]
def gM3 (g:Nat->Nat->Nat->Nat) (args:List V) (h:Hp) (K:KV):Prop:=∃a b m:Nat,args=[nu a,nu b,nu m]/\a<18446744073709551616/\b<18446744073709551616/\0<m/\m<=4294967296/\K (nu (g a b m)) h
def aFx (args:List V) (h:Hp) (K:KV):Prop:=∃a m:Nat,args=[nu a,nu m]/\a<18446744073709551616/\0<m/\m<=4294967296/\
 K (if(DB (a%m+1) m (a%m) 0 (1%m) m).1=1 then .tuple [nu (DB (a%m+1) m (a%m) 0 (1%m) m).2,ni 0]else .tuple [nu 0,ni 5]) h
def aFy (args:List V) (h:Hp) (K:KV):Prop:=∃b:Bool,args=[.agg (pv b)]/\K (.bool true) h
def aAc (args:List V) (h:Hp) (K:KV):Prop:=args=[nu 11]/\K (nu 5) h
def aMp (args:List V) (h:Hp) (K:KV):Prop:=args=[nu 11]/\K (.bool true) h
def Ix (args:List V) (h:Hp) (K:KV):Prop:=(args=[.nil]/\K (.tuple []) h)\/(∃i o c:Nat,args=[.own i o 0 c]/\K (.tuple []) h)\/∃(i:Nat) (ls:List Int),args=[.acc i ls.length]/\0<ls.length/\h i=some (.gD (ls.map (V.int .i64)) 3 ls.length)/\ls.length<1000000/\K (.tuple []) (aJ h i (.gD ((GJ ls).map (V.int .i64)) 3 ls.length))
def aMq (args:List V) (h:Hp) (K:KV):Prop:=args=[]/\K (.bool true) h
def gM (f:FuncId):Option (List V->Hp->KV->Prop):=
 if f=AO then some aMq else if f=lQ then some Ix else if f=HX then some aAc else if f=uY then some aFy else if f=NW then some aMp else
 if f=oI then some (gM3 fun a b m=>a*b%m)else if f=CP then some (gM3 fun a b m=>(a%m+b%m)%m)else if f=yU then some (gM3 iJ)else
 if f=QH then some (gM3 fun a e m=>ZX 64 (1%m) a e m)else if f=yV then some aFx else none
section
variable{B:Nat->Prop}{Sb:St}{c:Cx}{h:Hp}{S:St}
theorem LO{a b:Nat} (h:a≠b):Nat.beq a b=false:=by
 cases e:Nat.beq a b with
 | false=>rfl
 | true=>exact aX (dI e) h
theorem Wm{a b:Nat} (h:a<b):Nat.blt a b=true:=nT h
theorem Ft{a b m:Nat} (ha:a<18446744073709551616) (hb:b<18446744073709551616) (h0:0<m) (hm:m<=4294967296) (k:Nat->Nat->Nat->Bool):aB2 [.int .u64 (.ofNat a),.int .u64 (.ofNat b),.int .u64 (.ofNat m)] k=k a b m:=by
 show(match Nat.blt a 18446744073709551616,Nat.blt b 18446744073709551616,Nat.ble m 4294967296,Nat.blt 0 m with | true,true,true,true=>k a b m | _,_,_,_=>false)=_;simp only [Wm ha,Wm hb,Wm h0,nT hm]
theorem Nj{g:Nat->Nat->Nat->Nat}{g':List Value->St->VK->Bool} (hg:∀{a b m:Nat} (S:St) (K:VK),a<18446744073709551616->b<18446744073709551616->0<m->m<=4294967296->g' [.int .u64 (.ofNat a),.int .u64 (.ofNat b),.int .u64 (.ofNat m)] S K=K (.int .u64 (.ofNat (g a b m))) S)
 {args:List V} {ws:List Value} {Kv:KV} {K:VK} (s:VS PP B Sb c h S) (ra:mA c S (dN B c h) args ws) (k:KR PP B Sb c h S Kv K) (hv:gM3 g args h Kv):g' ws S K=true:=by
 obtain⟨a,b,m,rfl,h1,h2,h3,h4,hv⟩:=hv;obtain⟨w1,ws,rfl,r1,ra⟩:=ra.cons_inv;obtain⟨w2,ws,rfl,r2,ra⟩:=ra.cons_inv;obtain⟨w3,ws,rfl,r3,ra⟩:=ra.cons_inv;rw [ra.sB];cases r1;cases r2;cases r3;rw [hg S K h1 h2 h3 h4];exact k.here s .int hv
theorem aHf{args:List V}{ws:List Value}{Kv:KV}{K:VK} (s:VS PP B Sb c h S) (ra:mA c S (dN B c h) args ws) (k:KR PP B Sb c h S Kv K) (hv:aFx args h Kv):aB3 ws S K=true:=by
 obtain⟨a,m,rfl,h1,h3,h4,hv⟩:=hv;obtain⟨w1,ws,rfl,r1,ra⟩:=ra.cons_inv;obtain⟨w2,ws,rfl,r2,ra⟩:=ra.cons_inv;rw [ra.sB];cases r1;cases r2
 show(match Nat.blt a 18446744073709551616,Nat.ble m 4294967296,Nat.blt 0 m with
  | true,true,true=>bV (Nat.mod a m) fun s=>aMr (Nat.succ s) m s 0 (Nat.mod 1 m) m fun r x=>match Nat.beq r 1 with
   | true=>K (.tuple ⟨[.int .u64 (.ofNat x),.int .i64 (.ofNat 0)]⟩) S
   | false=>K (.tuple ⟨[.int .u64 (.ofNat 0),.int .i64 (.ofNat 5)]⟩) S
  | _,_,_=>false)=true
 simp only [Wm h1,Wm h3,nT h4];rw [bH,aFz];have t2:∀x y:Nat,mA c S (dN B c h) [nu x,ni y] [.int .u64 (.ofNat x),.int .i64 (.ofNat y)]:=fun x y=> .cons .int (.cons .int .nil);by_cases e:(DB (a%m+1) m (a%m) 0 (1%m) m).1=1
 ·rw [aK e]at hv
  show(match Nat.beq (DB (a%m+1) m (a%m) 0 (1%m) m).1 1 with | true=>_ | false=>_)=true;rw [e];exact k.here s (.tuple (t2 _ _).len (t2 _ _).rd) hv
 ·rw [aG e]at hv
  show(match Nat.beq (DB (a%m+1) m (a%m) 0 (1%m) m).1 1 with | true=>_ | false=>_)=true;rw [LO e];exact k.here s (.tuple (t2 _ _).len (t2 _ _).rd) hv
theorem aHg{args:List V}{ws:List Value}{Kv:KV}{K:VK} (s:VS PP B Sb c h S) (ra:mA c S (dN B c h) args ws) (k:KR PP B Sb c h S Kv K) (hv:aFy args h Kv):NT aMk ws S K=true:=by
 obtain⟨b,rfl,hv⟩:=hv;obtain⟨w1,ws,rfl,r1,ra⟩:=ra.cons_inv;rw [ra.sB];cases r1 with
 | @agg _ cs hl hr=>
  have hr:mA c S (dN B c h) (pv b) cs:=⟨hl,hr⟩;obtain⟨w1,ws,rfl,r1,hr⟩:=hr.cons_inv;obtain⟨w2,ws,rfl,r2,hr⟩:=hr.cons_inv;obtain⟨w3,ws,rfl,r3,hr⟩:=hr.cons_inv;obtain⟨w4,ws,rfl,r4,hr⟩:=hr.cons_inv;obtain⟨w5,ws,rfl,r5,hr⟩:=hr.cons_inv;obtain⟨w6,ws,rfl,r6,hr⟩:=hr.cons_inv;obtain⟨w7,ws,rfl,r7,hr⟩:=hr.cons_inv;obtain⟨w8,ws,rfl,r8,hr⟩:=hr.cons_inv;obtain⟨w9,ws,rfl,r9,hr⟩:=hr.cons_inv;obtain⟨w10,ws,rfl,r10,hr⟩:=hr.cons_inv;obtain⟨w11,ws,rfl,r11,hr⟩:=hr.cons_inv;obtain⟨w12,ws,rfl,r12,hr⟩:=hr.cons_inv;rw [hr.sB];cases r1;cases r2;cases r3;cases r4;cases r5;cases r6;cases r7;cases r8;cases r9;cases r10;cases r11;cases r12;have hk:=k.here s .bool hv;cases b with
  | false=>exact hk
  | true=>exact hk
theorem aDU{args:List V}{ws:List Value}{Kv:KV}{K:VK} (s:VS PP B Sb c h S) (ra:mA c S (dN B c h) args ws) (k:KR PP B Sb c h S Kv K) (hv:aAc args h Kv):NT aFv ws S K=true:=by
 obtain⟨rfl,hv⟩:=hv;obtain⟨w1,ws,rfl,r1,ra⟩:=ra.cons_inv;rw [ra.sB];cases r1;exact k.here s .int hv
theorem aJd{args:List V}{ws:List Value}{Kv:KV}{K:VK} (s:VS PP B Sb c h S) (ra:mA c S (dN B c h) args ws) (k:KR PP B Sb c h S Kv K) (hv:aMp args h Kv):NT aAa ws S K=true:=by
 obtain⟨rfl,hv⟩:=hv;obtain⟨w1,ws,rfl,r1,ra⟩:=ra.cons_inv;rw [ra.sB];cases r1;exact k.here s .bool hv
theorem aJe{C:Nat->Prop}:∀{ls:List Int} {ws:List Value},mA c S C (ls.map (V.int .i64)) ws->ws=ls.map HY:=by
 intro ls;induction ls with
 | nil=>intro ws r;exact r.sB
 | cons l ls ih=>
  intro ws r;obtain⟨w1,ws,rfl,r1,r2⟩:=r.cons_inv;cases r1;rw [ih r2];rfl
theorem aHh{C:Nat->Prop}:∀(ls:List Int),mA c S C (ls.map (V.int .i64)) (ls.map HY):=by
 intro ls;induction ls with
 | nil=>exact .nil
 | cons l ls ih=>exact .cons .int ih
theorem aJf:∀{a b:List Int},a.map HY=b.map HY->a=b:=by
 intro a;induction a with
 | nil=>intro b h;cases b with | nil=>rfl | cons=>cases h
 | cons x a ih=>
  intro b h;cases b with
  | nil=>cases h
  | cons y b=>
   simp only [Ca,List.cons.injEq]at h
   have hx:x=y:=by
    have h:=h.1;unfold HY at h;injection h
   rw [hx,ih h.2]
theorem aHi{b n c:Nat}{K:VK}:XL [.slice (some ⟨b,0,some 0⟩) (n+1) c] S K= @dite Bool (∃ls:List Int,ls.length=n+1/\ls.length<1000000/\∃olds,S.obj b=some (.cells (ls.map HY) 3 (.grown olds))) (Classical.propDecidable _) (fun h=>vH S b 0 ((GJ h.choose).map HY) fun S=>K (.tuple #[]) S) (fun _=>false):=rfl
open Classical in
theorem aDV{args:List V}{ws:List Value}{Kv:KV}{K:VK} (s:VS PP B Sb c h S) (ra:mA c S (dN B c h) args ws) (k:KR PP B Sb c h S Kv K) (hv:Ix args h Kv):XL ws S K=true:=by
 have nil:∀{d:Cx} {S':St} {C:Nat->Prop},fO d S' C (.tuple []) (.tuple #[]):= .tuple rfl fun k v w e _=>by simp at e
 rcases hv with ⟨rfl,hv⟩ | ⟨i,o,c,rfl,hv⟩ | ⟨i,ls,rfl,h0,hi,hn,hv⟩
 ·obtain⟨w1,ws,rfl,r1,ra⟩:=ra.cons_inv
  rw [ra.sB];cases r1;exact k.here s nil hv
 ·obtain⟨w1,ws,rfl,r1,ra⟩:=ra.cons_inv
  rw [ra.sB];cases r1 with
  | own hZ=>exact k.here s nil hv
 ·obtain⟨w1,ws,rfl,r1,ra⟩:=ra.cons_inv
  rw [ra.sB];cases r1 with
  | acc hG=>
   obtain⟨b,us,olds,sz,e1,e2,e3,e4,e5,_⟩:=s.gD i _ _ _ hi;rw [hG]at e1;injection e1 with e1;subst e1;have hu:=aJe e5;subst hu;obtain⟨n,hn1⟩:∃n,ls.length=n+1:=⟨ls.length-1,by omega⟩;have hex:∃aO4:List Int,aO4.length=n+1/\aO4.length<1000000/\∃olds,S.obj b=some (.cells (aO4.map HY) 3 (.grown olds)):=⟨ls,hn1,hn,olds,e4⟩;have hg:∀m,ls.length=m->XL [.slice (some ⟨b,0,some 0⟩) m m] S K=XL [.slice (some ⟨b,0,some 0⟩) (n+1) (n+1)] S K:=fun m hm=>by rw [<-hm,hn1]
   rw [hg _ rfl,aHi];rw [dif_pos hex];obtain⟨h1,h2,aTn,h3⟩:=hex.choose_spec
   have hls:hex.choose=ls:=by
    have h4:=e4.symm.trans h3;injection h4 with h4;injection h4 with h4;exact(aJf h4).symm
   rw [hls];refine SV s (o:=0) (cs:=(GJ ls).map (V.int .i64)) hi hG (aHh _) (by simp [QI]) (Kv:=fun h'=>Kv (.tuple []) h') (fun h' S' f s' PY=>k c h' S' _ _ (.refl c) f s' nil PY) ?_
   have:aY 0 ((GJ ls).map (V.int .i64)) (ls.map (V.int .i64))=(GJ ls).map (V.int .i64):=by
    unfold aY;simp [QI]
   rw [this];exact hv
theorem aJg{args:List V}{ws:List Value}{Kv:KV}{K:VK} (s:VS PP B Sb c h S) (ra:mA c S (dN B c h) args ws) (k:KR PP B Sb c h S Kv K) (hv:aMq args h Kv):NT aAb ws S K=true:=by
 obtain⟨rfl,hv⟩:=hv;rw [ra.sB];exact k.here s .bool hv
theorem aO5:aNK PP B Sb gM Fs:=by
 have h1:∀f,(gM f=none/\Fs f=none)\/(gM f=some aMq/\Fs f=some (NT aAb))\/(gM f=some Ix/\Fs f=some XL)\/(gM f=some aAc/\Fs f=some (NT aFv))\/(gM f=some aFy/\Fs f=some (NT aMk))\/(gM f=some aMp/\Fs f=some (NT aAa))\/
  (gM f=some (gM3 fun a b m=>a*b%m)/\Fs f=some (ov3 fun a b m=>a*b%m))\/(gM f=some (gM3 fun a b m=>(a%m+b%m)%m)/\Fs f=some (ov3 fun a b m=>(a%m+b%m)%m))\/(gM f=some (gM3 iJ)/\Fs f=some (ov3 iJ))\/
  (gM f=some (gM3 fun a e m=>ZX 64 (1%m) a e m)/\Fs f=some aFA)\/(gM f=some aFx/\Fs f=some aB3):=by
  intro f;by_cases ea:f=AO
  ·subst ea;exact .inr (.inl ⟨rfl,rfl⟩)
  by_cases e0:f=lQ
  ·subst e0;exact .inr (.inr (.inl ⟨rfl,rfl⟩))
  by_cases e1:f=HX
  ·subst e1;exact .inr (.inr (.inr (.inl ⟨rfl,rfl⟩)))
  by_cases e2:f=uY
  ·subst e2;exact .inr (.inr (.inr (.inr (.inl ⟨rfl,rfl⟩))))
  by_cases e3:f=NW
  ·subst e3;exact .inr (.inr (.inr (.inr (.inr (.inl ⟨rfl,rfl⟩)))))
  by_cases e4:f=oI
  ·subst e4;exact .inr (.inr (.inr (.inr (.inr (.inr (.inl ⟨rfl,rfl⟩))))))
  by_cases e5:f=CP
  ·subst e5;exact .inr (.inr (.inr (.inr (.inr (.inr (.inr (.inl ⟨rfl,rfl⟩)))))))
  by_cases e6:f=yU
  ·subst e6;exact .inr (.inr (.inr (.inr (.inr (.inr (.inr (.inr (.inl ⟨rfl,rfl⟩))))))))
  by_cases e7:f=QH
  ·subst e7;exact .inr (.inr (.inr (.inr (.inr (.inr (.inr (.inr (.inr (.inl ⟨rfl,rfl⟩)))))))))
  by_cases e8:f=yV
  ·subst e8;exact .inr (.inr (.inr (.inr (.inr (.inr (.inr (.inr (.inr (.inr ⟨rfl,rfl⟩)))))))))
  refine .inl ⟨by unfold gM;rw [aG ea,aG e0,aG e1,aG e2,aG e3,aG e4,aG e5,aG e6,aG e7,aG e8],?_⟩;unfold Fs aO1 aMm aMl aMj aI8 aI9 GI;rw [show Nat.beq f 8=false from LO ea,show Nat.beq f 43=false from LO e0,show Nat.beq f HX=false from LO e1,show Nat.beq f uY=false from LO e2,show Nat.beq f NW=false from LO e3,show Nat.beq f oI=false from LO e4,show Nat.beq f CP=false from LO e5,show Nat.beq f yU=false from LO e6,show Nat.beq f QH=false from LO e7,show Nat.beq f yV=false from LO e8];rfl
 refine⟨fun f hf=>?_,fun f g hg=>?_⟩
 ·rcases h1 f with ⟨_,q⟩ | ⟨q,_⟩ | ⟨q,_⟩ | ⟨q,_⟩ | ⟨q,_⟩ | ⟨q,_⟩ | ⟨q,_⟩ | ⟨q,_⟩ | ⟨q,_⟩ | ⟨q,_⟩ | ⟨q,_⟩
  ·exact q
  all_goals rw [q]at hf;cases hf
 ·rcases h1 f with ⟨q,_⟩ | ⟨q,q2⟩ | ⟨q,q2⟩ | ⟨q,q2⟩ | ⟨q,q2⟩ | ⟨q,q2⟩ | ⟨q,q2⟩ | ⟨q,q2⟩ | ⟨q,q2⟩ | ⟨q,q2⟩ | ⟨q,q2⟩
  all_goals rw [q]at hg
  ·cases hg
  all_goals injection hg with hg;subst hg;refine⟨_,q2,fun s ra k hv=>?_⟩
  ·exact aJg s ra k hv
  ·exact aDV s ra k hv
  ·exact aDU s ra k hv
  ·exact aHg s ra k hv
  ·exact aJd s ra k hv
  ·exact Nj (fun S K h1 h2 h3 h4=>by unfold ov3;rw [Ft h1 h2 h3 h4,bH]) s ra k hv
  ·exact Nj (fun S K h1 h2 h3 h4=>by unfold ov3;rw [Ft h1 h2 h3 h4,bH]) s ra k hv
  ·exact Nj (fun S K h1 h2 h3 h4=>by unfold ov3;rw [Ft h1 h2 h3 h4,bH]) s ra k hv
  ·exact Nj (fun S K h1 h2 h3 h4=>by unfold aFA;rw [Ft h1 h2 h3 h4];exact aFB 64 _ _ _) s ra k hv
  ·exact aHf s ra k hv
end
end Go.Am
namespace Go.Am
abbrev nd (n:Nat):Dt:= .int .u64 (.ofNat n)
def iV (l:List Nat):List Dt:=l.map nd
def oJ (l:List Nat):List V:=l.map nu
theorem HH (l:List Nat):(iV l).length=l.length:=mH _
theorem oK (l:List Nat):(oJ l).length=l.length:=mH _
theorem IZ{l:List Nat}{i n:Nat} (h:l[i]? =some n):(oJ l)[i]? =some (nu n):=by unfold oJ;rw [dJ,h];rfl
theorem aAd{l:List Nat}{i n:Nat} (h:l[i]? =some n):(iV l)[i]? =some (nd n):=by unfold iV;rw [dJ,h];rfl
theorem aFC (l m:List Nat):oJ (l++m)=oJ l++oJ m:=RQ
theorem aMs (l:List Nat):(oJ l).all fV=true:=by rw [dL];intro v hv;obtain⟨n,_,rfl⟩:=kS.1 hv;rfl
inductive NV (S:Hp):V->List Nat->Prop
 | nil:NV S .nil []
 | list {O:Tag} {l:List Nat}:NV S (.list O (iV l) l.length) l
 | acc {i:Nat} {t:TypeId} {l:List Nat} (h:S i=some (.gD (oJ l) t l.length)):NV S (.acc i l.length) l
 | own {i o c:Nat} {t:TypeId} {vs:List V} {l:List Nat} (h:S i=some (.row vs t)) (hv:∀j n,l[j]? =some n->vs[o+j]? =some (nu n)) (hl:o+l.length<=vs.length):NV S (.own i o l.length c) l
 | IN {i m o c:Nat} {t:TypeId} {vs:List V} {l:List Nat} (h:S i=some (.gD vs t m)) (hv:∀j n,l[j]? =some n->vs[o+j]? =some (nu n)) (hl:o+l.length<=vs.length):NV S (.IN i m o l.length c) l
 | emp {i n:Nat}:NV S (.emp i n) []
section
variable{S S':Hp}{v:V}{l:List Nat}
theorem NV.up (h:NV S v l) (hle:bP S S'):NV S' v l:=by
 cases h with
 | nil=>exact .nil
 | list=>exact .list
 | acc h=>exact .acc (hle _ _ h)
 | own h hv hl=>exact .own (hle _ _ h) hv hl
 | IN h hv hl=>exact .IN (hle _ _ h) hv hl
 | emp=>exact .emp
theorem NV.len (h:NV S v l){K:V->Prop}:bK v K=K (ni l.length):=by cases h<;>rfl
theorem NV.at (h:NV S v l){i n:Nat} (hi:l[i]? =some n):∃p,(∀(j:IntKind) (K:V->Prop),cI 1 v (.int j (.ofNat i)) K=K p)/\(∀S',bP S S'->∀K:KV,aU p S' K=K (nu n) S'):=by
 have hlt:i<l.length:=(dK.1 hi).1;cases h with
 | nil=>cases hi
 | @list O=>
  refine⟨.nU O (iV l) (i*1),fun j K=>gW hlt,fun S' _ K=>?_⟩;rw [jQ,tX,cP (aAd hi)];rfl
 | @acc b t _ h=>
  refine⟨.wM b l.length (i*1),fun j K=>LP hlt,fun S' hle K=>?_⟩;rw [jQ];unfold aU;simp only [hle _ _ h,cP (IZ hi),true_and]
 | @own b o c t vs _ h hv hl=>
  refine⟨.ptr b (o+i*1),fun j K=>by simp [cI,hlt],fun S' hle K=>?_⟩;rw [jQ];unfold aU;simp only [hle _ _ h,cP (hv i n hi)]
 | @IN b m o c t vs _ h hv hl=>
  refine⟨.wM b m (o+i*1),fun j K=>by simp [cI,hlt],fun S' hle K=>?_⟩;rw [jQ];unfold aU;simp only [hle _ _ h,cP (hv i n hi),true_and]
 | emp=>cases hi
theorem aJh (O:Tag) (l:List Nat):∀o,Tl O o (iV l)=oJ l:=by
 induction l with
 | nil=>intro o;rfl
 | cons a l ih=>intro o;show _::Tl O (o+1) (iV l)=_;rw [ih];rfl
theorem NV.src (h:NV S v l){k:Nat->List V->Prop} (hk:k l.length (oJ l)):Um 1 v S k:=by
 cases h with
 | nil=>exact hk
 | @list O=>refine⟨by rw [HH];omega,?_⟩;rw [mF (by rw [HH];omega),aJh];exact hk
 | acc h=>unfold Um;simp only [h];exact⟨trivial,by rw [oK];omega,hk⟩
 | @own b o c t vs _ h hv hl=>
  unfold Um;simp only [h];rw [dG (by omega)]
  have:(vs.drop o).take (l.length*1)=oJ l:=by
   apply xQ;intro j;rw [sR,rH];by_cases hj:j<l.length
   ·rw [aK (by omega),hv j l[j] (aQ hj),IZ (aQ hj)]
   ·rw [aG (by omega)];symm;exact FT (by rw [oK];omega)
  rw [this];exact hk
 | @IN b m o c t vs _ h hv hl=>
  unfold Um;simp only [h];rw [dG (by omega)]
  have:(vs.drop o).take (l.length*1)=oJ l:=by
   apply xQ;intro j;rw [sR,rH];by_cases hj:j<l.length
   ·rw [aK (by omega),hv j l[j] (aQ hj),IZ (aQ hj)]
   ·rw [aG (by omega)];symm;exact FT (by rw [oK];omega)
  rw [this];exact⟨trivial,hk⟩
 | emp=>exact hk
theorem aAe{S0 S:Hp}{vs:List V}{o:Nat} (hv:∀j n,l[j]? =some n->vs[o+j]? =some (nu n)) (j:Nat) (v:V) (d:Dt) (h1:vs[o+j]? =some v) (h2:(iV l)[j]? =some d):Dx S0 S v d:=by
 unfold iV at h2;rw [dJ]at h2;cases hq:l[j]? with
 | none=>rw [hq]at h2;cases h2
 | some n=>
  rw [hq]at h2;injection h2 with h2;subst h2;rw [hv j n hq]at h1;injection h1 with h1;subst h1;exact .int
inductive MN (S0 S:Hp):V->List Nat->Prop
 | nil:MN S0 S .nil []
 | acc {i:Nat} {l:List Nat} (h0:S0 i=none) (h:S i=some (.gD (oJ l) 22 l.length)):MN S0 S (.acc i l.length) l
 | own {i:Nat} {l:List Nat} (h0:S0 i=none) (h:S i=some (.row (oJ l) 22)):MN S0 S (.own i 0 l.length l.length) l
theorem MN.nv{S0:Hp} (h:MN S0 S v l):NV S v l:=by
 cases h with
 | nil=>exact .nil
 | acc _ h=>exact .acc h
 | own _ h=>exact .own h (fun j n hj=>by rw [dX];exact IZ hj) (by rw [oK];omega)
theorem MN.Cy{S0:Hp} (h:MN S0 S v l):Dx S0 S v (.list (iV l) l.length):=by
 cases h with
 | nil=>exact .nil
 | acc h0 h=>exact .acc h h0 (by rw [oK,HH]) fun j v d a b=>aAe (o:=0) (fun j n hj=>by rw [dX];exact IZ hj) j v d (by rw [dX];exact a) b
 | own h0 h=>exact .own h h0 (bO _) (by rw [oK,HH];omega) fun j v d a b=>aAe (fun j n hj=>by rw [dX];exact IZ hj) j v d a b
theorem MN.up{S0:Hp} (h:MN S0 S v l) (hle:bP S S'):MN S0 S' v l:=by
 cases h with
 | nil=>exact .nil
 | acc h0 h=>exact .acc h0 (hle _ _ h)
 | own h0 h=>exact .own h0 (hle _ _ h)
theorem MN.app{S0:Hp} (h:MN S0 S v l) (hs:bP S0 S) (hl:l.length<=1000000){n:Nat}{K:KV}
 (hk:∀w S',bP S0 S'->(∀j o,S j=some o->(∀vs m,o≠ .gD vs 22 m)->S' j=some o)->MN S0 S' w (l++[n])->K w S'):aP 22 1 iK [(0,1,nu n)] S fun v2 S=>jY 22 1 8 v v2 S K:=by
 refine⟨rfl,by simp,fun j hj=>?_⟩;have hj0:S0 j=none:=hs.none hj;have xO:bP S0 (aJ S j (.row [nu n] 22)):=hs.trans (.aI hj);show jY 22 1 8 v (.own j 0 1 1) (aJ S j (.row (aY 0 [nu n] [nu 0]) 22)) K;have e:aY 0 [nu n] [nu 0]=[nu n]:=rfl;rw [e];refine LQ (m:=1) aB rfl ?_;refine⟨rfl,?_⟩;cases h with
 | nil=>
  refine⟨by decide,fun i hi=>hk _ _ (xO.trans (.aI hi)) (fun q o e _=>(bP.aI hi) _ _ ((bP.aI hj) _ _ e)) ?_⟩;exact .acc (l:=[n]) (xO.none hi) aB
 | @acc i _ h0 h=>
  have oX:j≠i:=fun e=>by rw [e,h]at hj;cases hj
  have h':aJ S j (.row [nu n] 22) i=some (.gD (oJ l) 22 l.length):=by rw [aC (aN oX)];exact h
  simp only [h'];refine⟨trivial,trivial,by rw [oK];omega,by omega,?_⟩;have el:l.length+(0+1)=(l++[n]).length:=by simp
  rw [el];refine hk _ _ (fun q o e=>?_) (fun q o e xP=>?_) (.acc h0 (by rw [aFC];exact aB))
  ·rw [aC (fun c=>by rw [c,h0]at e;cases e)];exact xO q o e
  ·rw [aC (fun c=>by rw [c,h]at e;injection e with e;exact xP _ _ e.symm)];exact(bP.aI hj) _ _ e
 | @own i _ h0 h=>
  have oX:j≠i:=fun e=>by rw [e,h]at hj;cases hj
  have h':aJ S j (.row [nu n] 22) i=some (.row (oJ l) 22):=by rw [aC (aN oX)];exact h
  simp only [h'];refine⟨by omega,by rw [oK];omega,fun c=>aX c (by omega),fun _ q hq=>?_⟩;have e2:(List.take (l.length*1) (List.drop 0 (oJ l)))++[nu n]=oJ (l++[n]):=by rw [xS,mF (by rw [oK];omega),aFC];rfl
  rw [e2];have el:l.length+(0+1)=(l++[n]).length:=by simp
  rw [el];exact hk _ _ (xO.trans (.aI hq)) (fun q o e _=>(bP.aI hq) _ _ ((bP.aI hj) _ _ e)) (.acc (xO.none hq) aB)
end
def xF (x:VE) (m:Nat) (t0 t1 t2 t7 t10 t11:V) (S:Hp) (K:KV):Prop:=dQ PP bI yE x [.r,.r,.l,.r,.d] m [] [t0,t1,t2,t7,t10,t11] S K
def Kw (x:VE) (a0 a1 a2:V) (S:Hp) (K:KV):Prop:=
 bK a0 fun v0=>
 xF x x.most a0 a1 a2 (.int .u64 (.ofNat 0)) v0 (.int .i64 (.ofNat 0)) S K
theorem aB5 (x:VE) (a0 a1 a2:V) (S:Hp) (K:KV):jU PP bI yE x [a0,a1,a2] S K=Kw x a0 a1 a2 S K:=by kernel_rfl
def CA (x:VE) (m0:Nat) (t0 t1 t2 t7 t10 t11:V) (S:Hp) (K:KV):Prop:=
 cS S fun S=>
 aH PP .lss 3 t11 t10 fun v0=>
 iQ v0 (bK t0 fun v1=>aH PP .sub 3 v1 (.int .i64 (.ofNat 1)) fun v2=>aH PP .sub 3 v2 t11 fun v3=>cI 1 t0 v3 fun v4=>aU v4 S fun v5 S=>x.call oI [t7,t1,t2] S fun v6 S=>aU v4 S fun v7 _=>aW v7 v5 (x.call CP [v6,v5,t2] S fun v8 S=>aH PP .add 3 t11 (.int .i64 (.ofNat 1)) fun v9=>xF x m0 t0 t1 t2 v8 t10 v9 S K)) (bE t7 S K)
theorem LV (x:VE) (m0:Nat) (t0 t1 t2 t7 t10 t11:V) (S:Hp) (K:KV):xF x (m0+1) t0 t1 t2 t7 t10 t11 S K=CA x m0 t0 t1 t2 t7 t10 t11 S K:=by kernel_rfl
def Qw (x:VE) (a0:V) (S:Hp) (K:KV):Prop:=
 aH PP .gtr 22 a0 (.int .u64 (.ofNat 0)) fun v0=>
 gK x true v0 a0 S fun v1 S=>gP x true v0 (aH PP .leq 22 v1 (.int .u64 (.ofNat 2305843009213693952))) S fun v3 S=>gQ x v0 v3 (.bool false) fun v4=>bE v4 S K
theorem aDW (x:VE) (a0:V) (S:Hp) (K:KV):jU PP bI Da x [a0] S K=Qw x a0 S K:=by kernel_rfl
def Re (x:VE) (a0:V) (S:Hp) (K:KV):Prop:=
 cF iK [(0,1,a0)] fun v0=>
 cF [(.int .u64 (.ofNat 0)),(.slice none 0 0),(.int .i64 (.ofNat 0))] [(0,1,v0)] fun v1=>
 iE 140 v1 S fun v2 S=>
 bE v2 S K
theorem aD7 (x:VE) (a0:V) (S:Hp) (K:KV):jU PP bI Dd x [a0] S K=Re x a0 S K:=by kernel_rfl
def pJ (x:VE) (m:Nat) (t0 t1:V) (S:Hp) (K:KV):Prop:=dQ PP bI dU x [.r,.r,.r,.r,.d] m [] [t0,t1] S K
def GN (x:VE) (a0 a1:V) (S:Hp) (K:KV):Prop:=
 aH PP .eql 30 a0 .Ma fun v0=>
 iQ v0 (bE (.int .u64 (.ofNat 0)) S K) (nB PP a0 fun v1=>aS 2 v1 fun v2=>aU v2 S fun v3 S=>aH PP .add 3 v3 (.int .i64 (.ofNat 1)) fun v4=>nB PP a0 fun v5=>aS 2 v5 fun v6=>mB 1 v6 v4 S fun S=>nB PP a0 fun v7=>aS 1 v7 fun v8=>aU v8 S fun v9 S=>bK v9 fun v10=>aH PP .gtr 3 v10 (.int .i64 (.ofNat 0)) fun v11=>iQ v11 (nB PP a0 fun v12=>aS 1 v12 fun sN=>aU sN S fun tO S=>cI 1 tO (.int .i64 (.ofNat 0)) fun zE=>aU zE S fun AM S=>nB PP a0 fun wF=>aS 1 wF fun yR=>aU yR S fun wU S=>LW 22 1 wU (some (.int .i64 (.ofNat 1))) none none S fun v20=>nB PP a0 fun v21=>aS 1 v21 fun NF=>mB 1 NF v20 S fun S=>x.call KH [AM,a1] S fun EW S=>bE EW S K) (pJ x x.most a0 a1 S K))
theorem QM (x:VE) (a0 a1:V) (S:Hp) (K:KV):jU PP bI dU x [a0,a1] S K=GN x a0 a1 S K:=by kernel_rfl
def uA (x:VE) (m0:Nat) (t0 t1:V) (S:Hp) (K:KV):Prop:=
 cS S fun S=>
 nB PP t0 fun v0=>
 aS 0 v0 fun v1=>
 x.call ED [v1] S fun v2 S=>
 VJ .xor v2 fun v3=>
 x.call HX [t1] S fun v4 S=>
 aH PP .geq 22 v3 v4 fun v5=>
 iQ v5 (x.call KH [v2,t1] S fun v6 S=>bE v6 S K) (pJ x m0 t0 t1 S K)
theorem CU (x:VE) (m0:Nat) (t0 t1:V) (S:Hp) (K:KV):pJ x (m0+1) t0 t1 S K=uA x m0 t0 t1 S K:=by kernel_rfl
def NY (x:VE) (a0:V) (S:Hp) (K:KV):Prop:=
 nB PP a0 fun v0=>
 aS 0 v0 fun v1=>
 aU v1 S fun v2 S=>
 aH PP .add 22 v2 (.int .u64 (.ofNat 11400714819323198485)) fun v3=>
 nB PP a0 fun v4=>
 aS 0 v4 fun v5=>
 mB 1 v5 v3 S fun S=>
 nB PP a0 fun v6=>
 aS 0 v6 fun v7=>
 aU v7 S fun v8 S=>
 aH PP .shr 22 v8 (.int .u64 (.ofNat 30)) fun v9=>
 aH PP .xor 22 v8 v9 fun v10=>
 aH PP .mul 22 v10 (.int .u64 (.ofNat 13787848793156543929)) fun v11=>
 aH PP .shr 22 v11 (.int .u64 (.ofNat 27)) fun v12=>
 aH PP .xor 22 v11 v12 fun sN=>
 aH PP .mul 22 sN (.int .u64 (.ofNat 10723151780598845931)) fun tO=>
 aH PP .shr 22 tO (.int .u64 (.ofNat 31)) fun zE=>
 aH PP .xor 22 tO zE fun AM=>
 bE AM S K
theorem Fu (x:VE) (a0:V) (S:Hp) (K:KV):jU PP bI ED x [a0] S K=NY x a0 S K:=by kernel_rfl
def Fv (x:VE) (a0 a1:V) (S:Hp) (K:KV):Prop:=
 aH PP .eql 22 a1 (.int .u64 (.ofNat 0)) fun v0=>
 iQ v0 (bE a0 S K) (aH PP .rem 22 a0 a1 fun v1=>bE v1 S K)
theorem aAl (x:VE) (a0 a1:V) (S:Hp) (K:KV):jU PP bI KH x [a0,a1] S K=Fv x a0 a1 S K:=by kernel_rfl
def pM (x:VE) (a0:V) (S:Hp) (K:KV):Prop:=
 aH PP .eql 32 a0 .nil fun v0=>
 iQ v0 (bE .nil S K) (aP 3 0 EN [] S fun v1 S=>jY 3 1 8 v1 a0 S fun v2 S=>bE v2 S K)
theorem xJ (x:VE) (a0:V) (S:Hp) (K:KV):jU PP bI eG x [a0] S K=pM x a0 S K:=by kernel_rfl
def rE (x:VE) (a0:V) (S:Hp) (K:KV):Prop:=
 aH PP .eql 51 a0 .nil fun v0=>
 iQ v0 (bE .nil S K) (aP 22 0 iK [] S fun v1 S=>jY 22 1 8 v1 a0 S fun v2 S=>bE v2 S K)
theorem DF (x:VE) (a0:V) (S:Hp) (K:KV):jU PP bI cH x [a0] S K=rE x a0 S K:=by kernel_rfl
def tI (x:VE) (a0:V) (S:Hp) (K:KV):Prop:=
 aH PP .eql 39 a0 .nil fun v0=>
 iQ v0 (bE .nil S K) (aP 2 0 EN [] S fun v1 S=>jY 2 1 8 v1 a0 S fun v2 S=>bE v2 S K)
theorem FE (x:VE) (a0:V) (S:Hp) (K:KV):jU PP bI fN x [a0] S K=tI x a0 S K:=by kernel_rfl
def fX (x:VE) (m:Nat) (t0 t3:V) (S:Hp) (K:KV):Prop:=dQ PP bI cY x [.r,.r,.l,.r,.d] m [] [t0,t3] S K
def dP (x:VE) (m:Nat) (m0:Nat) (t0 t3 t4 t5:V) (S:Hp) (K:KV):Prop:=dQ PP bI cY x [.r,.r,.l,.r,.d,.d,.r,.l,.d,.r,.l,.r,.l,.r,.d] m [m0] [t0,t3,t4,t5] S K
def dE (x:VE) (m0:Nat) (m1:Nat) (t0 t3 t4 t5:V) (S:Hp) (K:KV):Prop:=Wx PP bI cY x [.r,.r,.l,.r,.d,.d,.r,.l,.d,.r,.l,.r,.l,.r,.d,.d,.r,.r] [m0,m1] [t0,t3,t4,t5] S K
def vE (x:VE) (a0:V) (S:Hp) (K:KV):Prop:=
 bK a0 fun v0=>
 aH PP .lss 3 v0 (.int .i64 (.ofNat 2)) fun v1=>
 iQ v1 (bE a0 S K) (fX x x.most a0 (.int .i64 (.ofNat 1)) S K)
theorem II (x:VE) (a0:V) (S:Hp) (K:KV):jU PP bI cY x [a0] S K=vE x a0 S K:=by kernel_rfl
def jS (x:VE) (m0:Nat) (t0 t3:V) (S:Hp) (K:KV):Prop:=
 cS S fun S=>
 bK t0 fun v0=>
 aH PP .lss 3 t3 v0 fun v1=>
 iQ v1 (cI 1 t0 t3 fun v2=>aU v2 S fun v3 S=>aH PP .sub 3 t3 (.int .i64 (.ofNat 1)) fun v4=>cI 1 t0 v4 fun v5=>aU v5 S fun v6 S=>aH PP .eql 3 v3 v6 fun v7=>iQ v7 (LW 3 1 t0 (some t3) none none S fun v8=>dP x x.most m0 t0 t3 v8 (.int .i64 (.ofNat 1)) S K) (aH PP .add 3 t3 (.int .i64 (.ofNat 1)) fun v9=>fX x m0 t0 v9 S K)) (bE t0 S K)
theorem pD (x:VE) (m0:Nat) (t0 t3:V) (S:Hp) (K:KV):fX x (m0+1) t0 t3 S K=jS x m0 t0 t3 S K:=by kernel_rfl
def fJ (x:VE) (m1:Nat) (m0:Nat) (t0 t3 t4 t5:V) (S:Hp) (K:KV):Prop:=
 cS S fun S=>
 bK t4 fun v0=>
 aH PP .lss 3 t5 v0 fun v1=>
 iQ v1 (cI 1 t4 t5 fun v2=>aU v2 S fun v3 S=>aH PP .sub 3 t5 (.int .i64 (.ofNat 1)) fun v4=>cI 1 t4 v4 fun v5=>aU v5 S fun v6 S=>aH PP .neq 3 v3 v6 fun v7=>iQ v7 (cI 1 t4 t5 fun v8=>aU v8 S fun v9 S=>cI 1 t0 t3 fun v10=>mB 1 v10 v9 S fun S=>aH PP .add 3 t3 (.int .i64 (.ofNat 1)) fun v11=>dE x m0 m1 t0 v11 t4 t5 S K) (dE x m0 m1 t0 t3 t4 t5 S K)) (LW 3 1 t0 (some t3) none none S fun v12=>Df EN v12 S fun S=>LW 3 1 t0 none (some t3) none S fun sN=>bE sN S K)
theorem kF (x:VE) (m1:Nat) (m0:Nat) (t0 t3 t4 t5:V) (S:Hp) (K:KV):dP x (m1+1) m0 t0 t3 t4 t5 S K=fJ x m1 m0 t0 t3 t4 t5 S K:=by kernel_rfl
def eZ (x:VE) (m0:Nat) (m1:Nat) (t0 t3 t4 t5:V) (S:Hp) (K:KV):Prop:=
 cS S fun S=>
 aH PP .add 3 t5 (.int .i64 (.ofNat 1)) fun v0=>
 dP x m1 m0 t0 t3 t4 v0 S K
theorem qT (x:VE) (m0:Nat) (m1:Nat) (t0 t3 t4 t5:V) (S:Hp) (K:KV):Wy PP bI cY x [.r,.r,.l,.r,.d,.d,.r,.l,.d,.r,.l,.r,.l,.r,.d,.d,.r,.r] [m0,m1] [t0,t3,t4,t5] S K=eZ x m0 m1 t0 t3 t4 t5 S K:=by kernel_rfl
theorem rC (x:VE) (hm:x.most≠0) (m0:Nat) (m1:Nat) (t0 t3 t4 t5:V) (S:Hp) (K:KV):dE x m0 m1 t0 t3 t4 t5 S K=eZ x m0 m1 t0 t3 t4 t5 S K:=(Gu (hm:=hm) ..).trans (qT x m0 m1 t0 t3 t4 t5 S K)
def kU (x:VE) (a0 a1:V) (S:Hp) (K:KV):Prop:=
 x.call mM [a0,a1] S fun v0 S=>
 aH PP .geq 3 v0 (.int .i64 (.ofNat 0)) fun v1=>
 bE v1 S K
theorem qR (x:VE) (a0 a1:V) (S:Hp) (K:KV):jU PP bI gS x [a0,a1] S K=kU x a0 a1 S K:=by kernel_rfl
def fP (x:VE) (m:Nat) (t0 t1 t7 t8:V) (S:Hp) (K:KV):Prop:=dQ PP bI mM x [.r,.l,.r,.d] m [] [t0,t1,t7,t8] S K
def mL (x:VE) (a0 a1:V) (S:Hp) (K:KV):Prop:=
 bK a0 fun v0=>
 fP x x.most a0 a1 v0 (.int .i64 (.ofNat 0)) S K
theorem tH (x:VE) (a0 a1:V) (S:Hp) (K:KV):jU PP bI mM x [a0,a1] S K=mL x a0 a1 S K:=by kernel_rfl
def cV (x:VE) (m0:Nat) (t0 t1 t7 t8:V) (S:Hp) (K:KV):Prop:=
 cS S fun S=>
 aH PP .lss 3 t8 t7 fun v0=>
 iQ v0 (cI 1 t0 t8 fun v1=>aU v1 S fun v2 S=>lJ x t1 [v2] S fun v3 S=>iQ v3 (bE t8 S K) (aH PP .add 3 t8 (.int .i64 (.ofNat 1)) fun v4=>fP x m0 t0 t1 t7 v4 S K)) (bE (.int .i64 (.negSucc 0)) S K)
theorem dV (x:VE) (m0:Nat) (t0 t1 t7 t8:V) (S:Hp) (K:KV):fP x (m0+1) t0 t1 t7 t8 S K=cV x m0 t0 t1 t7 t8 S K:=by kernel_rfl
def oC (x:VE) (a0 a1:V) (S:Hp) (K:KV):Prop:=
 x.call kK [a0,a1] S fun v0 S=>
 aH PP .geq 3 v0 (.int .i64 (.ofNat 0)) fun v1=>
 bE v1 S K
theorem yK (x:VE) (a0 a1:V) (S:Hp) (K:KV):jU PP bI iY x [a0,a1] S K=oC x a0 a1 S K:=by kernel_rfl
def eW (x:VE) (m:Nat) (t0 t1 t7 t8:V) (S:Hp) (K:KV):Prop:=dQ PP bI kK x [.r,.l,.r,.d] m [] [t0,t1,t7,t8] S K
def pS (x:VE) (a0 a1:V) (S:Hp) (K:KV):Prop:=
 bK a0 fun v0=>
 eW x x.most a0 a1 v0 (.int .i64 (.ofNat 0)) S K
theorem AU (x:VE) (a0 a1:V) (S:Hp) (K:KV):jU PP bI kK x [a0,a1] S K=pS x a0 a1 S K:=by kernel_rfl
def gY (x:VE) (m0:Nat) (t0 t1 t7 t8:V) (S:Hp) (K:KV):Prop:=
 cS S fun S=>
 aH PP .lss 3 t8 t7 fun v0=>
 iQ v0 (cI 1 t0 t8 fun v1=>aU v1 S fun v2 S=>lJ x t1 [v2] S fun v3 S=>iQ v3 (bE t8 S K) (aH PP .add 3 t8 (.int .i64 (.ofNat 1)) fun v4=>eW x m0 t0 t1 t7 v4 S K)) (bE (.int .i64 (.negSucc 0)) S K)
theorem mC (x:VE) (m0:Nat) (t0 t1 t7 t8:V) (S:Hp) (K:KV):eW x (m0+1) t0 t1 t7 t8 S K=gY x m0 t0 t1 t7 t8 S K:=by kernel_rfl
def mX (x:VE) (a0 a1:V) (S:Hp) (K:KV):Prop:=
 x.call jM [a0,a1] S fun v0 S=>
 aH PP .geq 3 v0 (.int .i64 (.ofNat 0)) fun v1=>
 bE v1 S K
theorem wV (x:VE) (a0 a1:V) (S:Hp) (K:KV):jU PP bI iL x [a0,a1] S K=mX x a0 a1 S K:=by kernel_rfl
def eE (x:VE) (m:Nat) (t0 t1 t7 t8:V) (S:Hp) (K:KV):Prop:=dQ PP bI jM x [.r,.l,.r,.d] m [] [t0,t1,t7,t8] S K
def oL (x:VE) (a0 a1:V) (S:Hp) (K:KV):Prop:=
 bK a0 fun v0=>
 eE x x.most a0 a1 v0 (.int .i64 (.ofNat 0)) S K
theorem zB (x:VE) (a0 a1:V) (S:Hp) (K:KV):jU PP bI jM x [a0,a1] S K=oL x a0 a1 S K:=by kernel_rfl
def fZ (x:VE) (m0:Nat) (t0 t1 t7 t8:V) (S:Hp) (K:KV):Prop:=
 cS S fun S=>
 aH PP .lss 3 t8 t7 fun v0=>
 iQ v0 (cI 1 t0 t8 fun v1=>aU v1 S fun v2 S=>lJ x t1 [v2] S fun v3 S=>iQ v3 (bE t8 S K) (aH PP .add 3 t8 (.int .i64 (.ofNat 1)) fun v4=>eE x m0 t0 t1 t7 v4 S K)) (bE (.int .i64 (.negSucc 0)) S K)
theorem lM (x:VE) (m0:Nat) (t0 t1 t7 t8:V) (S:Hp) (K:KV):eE x (m0+1) t0 t1 t7 t8 S K=fZ x m0 t0 t1 t7 t8 S K:=by kernel_rfl
def iX (x:VE) (a0 a1:V) (S:Hp) (K:KV):Prop:=
 x.call fH [a0,a1] S fun v0 S=>
 aH PP .geq 3 v0 (.int .i64 (.ofNat 0)) fun v1=>
 bE v1 S K
theorem qO (x:VE) (a0 a1:V) (S:Hp) (K:KV):jU PP bI dA x [a0,a1] S K=iX x a0 a1 S K:=by kernel_rfl
def cT (x:VE) (m:Nat) (t0 t1 t7 t8:V) (S:Hp) (K:KV):Prop:=dQ PP bI fH x [.r,.l,.r,.d] m [] [t0,t1,t7,t8] S K
def jV (x:VE) (a0 a1:V) (S:Hp) (K:KV):Prop:=
 bK a0 fun v0=>
 cT x x.most a0 a1 v0 (.int .i64 (.ofNat 0)) S K
theorem sH (x:VE) (a0 a1:V) (S:Hp) (K:KV):jU PP bI fH x [a0,a1] S K=jV x a0 a1 S K:=by kernel_rfl
def eA (x:VE) (m0:Nat) (t0 t1 t7 t8:V) (S:Hp) (K:KV):Prop:=
 cS S fun S=>
 aH PP .lss 3 t8 t7 fun v0=>
 iQ v0 (cI 1 t0 t8 fun v1=>aU v1 S fun v2 S=>lJ x t1 [v2] S fun v3 S=>iQ v3 (bE t8 S K) (aH PP .add 3 t8 (.int .i64 (.ofNat 1)) fun v4=>cT x m0 t0 t1 t7 v4 S K)) (bE (.int .i64 (.negSucc 0)) S K)
theorem iH (x:VE) (m0:Nat) (t0 t1 t7 t8:V) (S:Hp) (K:KV):cT x (m0+1) t0 t1 t7 t8 S K=eA x m0 t0 t1 t7 t8 S K:=by kernel_rfl
def kL (x:VE) (a0 a1:V) (S:Hp) (K:KV):Prop:=
 x.call gB [a0,a1] S fun v0 S=>
 aH PP .geq 3 v0 (.int .i64 (.ofNat 0)) fun v1=>
 bE v1 S K
theorem sY (x:VE) (a0 a1:V) (S:Hp) (K:KV):jU PP bI fK x [a0,a1] S K=kL x a0 a1 S K:=by kernel_rfl
def dF (x:VE) (m:Nat) (t0 t1 t7 t8:V) (S:Hp) (K:KV):Prop:=dQ PP bI gB x [.r,.l,.r,.d] m [] [t0,t1,t7,t8] S K
def lN (x:VE) (a0 a1:V) (S:Hp) (K:KV):Prop:=
 bK a0 fun v0=>
 dF x x.most a0 a1 v0 (.int .i64 (.ofNat 0)) S K
theorem uS (x:VE) (a0 a1:V) (S:Hp) (K:KV):jU PP bI gB x [a0,a1] S K=lN x a0 a1 S K:=by kernel_rfl
def fA (x:VE) (m0:Nat) (t0 t1 t7 t8:V) (S:Hp) (K:KV):Prop:=
 cS S fun S=>
 aH PP .lss 3 t8 t7 fun v0=>
 iQ v0 (cI 2 t0 t8 fun v1=>bJ 2 v1 S fun v2 S=>lJ x t1 [v2] S fun v3 S=>iQ v3 (bE t8 S K) (aH PP .add 3 t8 (.int .i64 (.ofNat 1)) fun v4=>dF x m0 t0 t1 t7 v4 S K)) (bE (.int .i64 (.negSucc 0)) S K)
theorem jE (x:VE) (m0:Nat) (t0 t1 t7 t8:V) (S:Hp) (K:KV):dF x (m0+1) t0 t1 t7 t8 S K=fA x m0 t0 t1 t7 t8 S K:=by kernel_rfl
def fE (x:VE) (m:Nat) (t0 t1 t12 t13:V) (S:Hp) (K:KV):Prop:=dQ PP bI fC x [.r,.r,.l,.r,.d] m [] [t0,t1,t12,t13] S K
def rF (x:VE) (a0 a1:V) (S:Hp) (K:KV):Prop:=
 bK a0 fun v0=>
 bK a1 fun v1=>
 aH PP .neq 3 v0 v1 fun v2=>
 iQ v2 (bE (.bool false) S K) (bK a0 fun v3=>fE x x.most a0 a1 v3 (.int .i64 (.ofNat 0)) S K)
theorem DG (x:VE) (a0 a1:V) (S:Hp) (K:KV):jU PP bI fC x [a0,a1] S K=rF x a0 a1 S K:=by kernel_rfl
def iM (x:VE) (m0:Nat) (t0 t1 t12 t13:V) (S:Hp) (K:KV):Prop:=
 cS S fun S=>
 aH PP .lss 3 t13 t12 fun v0=>
 iQ v0 (cI 1 t0 t13 fun v1=>aU v1 S fun v2 S=>cI 1 t1 t13 fun v3=>aU v3 S fun v4 S=>aH PP .neq 22 v2 v4 fun v5=>iQ v5 (bE (.bool false) S K) (aH PP .add 3 t13 (.int .i64 (.ofNat 1)) fun v6=>fE x m0 t0 t1 t12 v6 S K)) (bE (.bool true) S K)
theorem mY (x:VE) (m0:Nat) (t0 t1 t12 t13:V) (S:Hp) (K:KV):fE x (m0+1) t0 t1 t12 t13 S K=iM x m0 t0 t1 t12 t13 S K:=by kernel_rfl
end Go.Am
namespace Go.Am
open Go.Proofs.JJ
section
variable{k:V->Prop}{a b:Nat}{t:TypeId}
theorem aO:aH PP .lss t (ni a) (ni b) k=k (.bool (decide (a<b))):=by rw [rT];congr 2;simp
theorem SX:aH PP .gtr t (ni a) (ni b) k=k (.bool (decide (b<a))):=by rw [QJ];congr 2;simp
theorem zW:aH PP .geq t (ni a) (ni b) k=k (.bool (decide (b<=a))):=by rw [CR];congr 2;simp
theorem JA:aH PP .eql t (ni a) (ni b) k=k (.bool (decide (a=b))):=by rw [KO];congr 2;simp;omega
theorem tZ:aH PP .neq t (ni a) (ni b) k=k (.bool (!decide (a=b))):=by rw [QK];congr 3;simp;omega
theorem bD (h:a+b<4611686018427387904):aH PP .add t (ni a) (ni b) k=k (ni (a+b)):=by
 rw [KP]
 congr 2
 rw [wrap_small (by simp only [VU];omega) (by simp only [VU];omega)];simp
theorem aAh (h:b<=a) (h2:a<4611686018427387904):aH PP .sub t (ni a) (ni b) k=k (ni (a-b)):=by
 rw [Iz]
 congr 2
 rw [wrap_small (by simp only [VU];omega) (by simp only [VU];omega)];simp only [VU];omega
theorem Cz (h:a*b<4611686018427387904):aH PP .mul t (ni a) (ni b) k=k (ni (a*b)):=by
 rw [Wn]
 congr 2
 have e:Int.ofNat a*Int.ofNat b=((a*b:Nat):Int):=by simp
 rw [e,wrap_small (by omega) (by omega)];rfl
theorem aQ0 (h:True):aH PP .gtr t (nu a) (nu b) k=k (.bool (decide (b<a))):=by rw [QJ];congr 2;simp
theorem aFI:aH PP .leq t (nu a) (nu b) k=k (.bool (decide (a<=b))):=by rw [KQ];congr 2;simp
theorem aFJ:aH PP .neq t (nu a) (nu b) k=k (.bool (!decide (a=b))):=by rw [QK];congr 3;simp;omega
theorem aNL:aH PP .eql t (nu a) (nu b) k=k (.bool (decide (a=b))):=by rw [KO];congr 2;simp;omega
theorem Av (h:b≠0):aH PP .rem t (nu a) (nu b) k=k (nu (a%b)):=by
 rw [aHk (by simp only [VU];omega)]
 congr 2
theorem yQ{a b:Nat} (h:a<b):decide (a<b)=true:=bF h
theorem jO{a b:Nat} (h:¬a<b):decide (a<b)=false:=bN h
theorem bR{p q:Prop}:iQ (.bool true) p q=p:=rfl
theorem bC{p q:Prop}:iQ (.bool false) p q=q:=rfl
theorem dW{a b:V}{k:V->Prop}:Wo (.bool true) a b k=k a:=rfl
theorem dS{a b:V}{k:V->Prop}:Wo (.bool false) a b k=k b:=rfl
theorem Iy{n:Nat} (h:n<18446744073709551616){k:V->Prop}:LU .u64 (ni n) k=k (nu n):=by
 show k (.int .u64 (tC .u64 (.ofNat n)))=_;rw [show tC .u64 (.ofNat n)= .ofNat n from by show(match Nat.blt n 18446744073709551616 with | true=>_ | false=>_)=_;rw [Wm h]]
end
section
variable{M n a b m:Nat}{x:VE}{S:Hp}{K:KV}
abbrev FC (n:Nat):Prop:=n<18446744073709551616
def bq (m:Nat):Prop:=0<m/\m<=4294967296
theorem qQ:bq 11:=⟨by decide,by decide⟩
theorem qP:bq 23:=⟨by decide,by decide⟩
theorem aAi{a m:Nat} (h:bq m):FC (a%m):=DJ (gI _ h.1) (zR h.2 (by decide))
theorem QL (hx:Deep PP bI gM M (n+1) x) (ha:FC a) (hb:FC b) (hm:bq m) (hK:K (nu (a*b%m)) S):x.call oI [nu a,nu b,nu m] S K:=hx.JB (g:=gM3 fun a b m=>a*b%m) rfl ⟨a,b,m,rfl,ha,hb,hm.1,hm.2,hK⟩
theorem aJn (hx:Deep PP bI gM M (n+1) x) (ha:FC a) (hb:FC b) (hm:bq m) (hK:K (nu ((a%m+b%m)%m)) S):x.call CP [nu a,nu b,nu m] S K:=hx.JB (g:=gM3 fun a b m=>(a%m+b%m)%m) rfl ⟨a,b,m,rfl,ha,hb,hm.1,hm.2,hK⟩
theorem aB4 (hx:Deep PP bI gM M (n+1) x) (ha:FC a) (hb:FC b) (hm:bq m) (hK:K (nu (iJ a b m)) S):x.call yU [nu a,nu b,nu m] S K:=hx.JB (g:=gM3 iJ) rfl ⟨a,b,m,rfl,ha,hb,hm.1,hm.2,hK⟩
theorem aQ1 (hx:Deep PP bI gM M (n+1) x) (ha:FC a) (hb:FC b) (hm:bq m) (hK:K (nu (ZX 64 (1%m) a b m)) S):x.call QH [nu a,nu b,nu m] S K:=hx.JB (g:=gM3 fun a e m=>ZX 64 (1%m) a e m) rfl ⟨a,b,m,rfl,ha,hb,hm.1,hm.2,hK⟩
theorem aFK (hx:Deep PP bI gM M (n+1) x){two:Bool} (hK:K (.bool true) S):x.call uY [.agg (pv two)] S K:=hx.JB (g:=aFy) rfl ⟨two,rfl,hK⟩
theorem aJo (hx:Deep PP bI gM M (n+1) x) (hK:K (nu 5) S):x.call HX [nu 11] S K:=hx.JB (g:=aAc) rfl ⟨rfl,hK⟩
theorem aJp (hx:Deep PP bI gM M (n+1) x) (ha:FC a) (hm:bq m) (hi:(DB (a%m+1) m (a%m) 0 (1%m) m).1=1) (hK:K (.tuple [nu (DB (a%m+1) m (a%m) 0 (1%m) m).2,ni 0]) S):x.call yV [nu a,nu m] S K:=
 hx.JB (g:=aFx) rfl ⟨a,m,rfl,ha,hm.1,hm.2,by rw [aK hi];exact hK⟩
end
def ev (q:Nat) (l:List Nat) (X:Nat):Nat:=l.foldr (fun c out=>(out*X%q%q+c%q)%q) 0
def LS (l:List Nat):Prop:=∀c∈l,FC c
theorem Qv (q:Nat) (h:bq q) (l:List Nat) (X:Nat):FC (ev q l X):=by
 cases l with
 | nil=>show 0<18446744073709551616;decide
 | cons a l=>exact aAi h
section
variable{M n:Nat}{x:VE}{S:Hp}{K:KV}{v:V}{l:List Nat}{q X:Nat}
theorem aMv (hx:Deep PP bI gM M (n+1) x) (h:NV S v l) (hl:l.length<1000000) (VI:LS l) (hX:FC X) (hq:bq q) (hK:K (nu (ev q l X)) S):
 ∀(r i m:Nat),i+r=l.length->r<m->xF x m v (nu X) (nu q) (nu (ev q (l.drop (l.length-i)) X)) (ni l.length) (ni i) S K:=by
 intro r;induction r with
 | zero=>
  intro i m hi hm;obtain⟨m,rfl⟩:=bG (show m≠0 by omega);rw [LV];unfold CA;refine aE ?_;rw [aO,jO (by omega),bC];have e:l.length-i=0:=by omega
  rw [e,xS];exact aL hK
 | succ r ih=>
  intro i m hi hm;obtain⟨m,rfl⟩:=bG (show m≠0 by omega);rw [LV];unfold CA;refine aE ?_;have hlt:l.length-1-i<l.length:=by omega
  obtain⟨p,hp,RK⟩:=h.at (i:=l.length-1-i) (aQ hlt);have RK:=fun K=>RK S (.refl S) K;rw [aO,yQ (by omega),bR,h.len,aAh (by omega) (by omega),aAh (by omega) (by omega),hp,RK];refine QL hx (Qv q hq _ X) hX hq ?_;rw [RK,cM];refine aJn hx (aAi hq) (VI _ (cJ hlt)) hq ?_;rw [bD (by omega)];have:=ih (i+1) m (by omega) (by omega)
  have e:l.drop (l.length-(i+1))=l[l.length-1-i]::l.drop (l.length-i):=by
   have e1:l.length-(i+1)=l.length-1-i:=by omega
   have e2:l.length-i=l.length-1-i+1:=by omega
   rw [e1,e2];exact mE hlt
  rw [e]at this;exact this
theorem aAf (hM:1000000<M) (hx:Deep PP bI gM M (n+2) x) (h:NV S v l) (hl:l.length<1000000) (VI:LS l) (hX:FC X) (hq:bq q) (hK:K (nu (ev q l X)) S):x.call yE [v,nu X,nu q] S K:=by
 refine hx.call rfl fun y hy=>?_;rw [aB5];unfold Kw;rw [h.len,hy.most];have:=aMv hy h hl VI hX hq hK l.length 0 M (by omega) (by omega);rw [Nat.sub_zero,List.drop_length]at this;exact this
theorem aO7 (hx:Deep PP bI gM M (n+1) x) (hq:bq q) (hK:K (.bool true) S):x.call Da [nu q] S K:=by
 refine hx.call rfl fun y hy=>?_;rw [aDW];unfold Qw gP gK gQ;have h1:decide (0<q)=true:=bF hq.1;have h2:decide (q<=2305843009213693952)=true:=bF (zR hq.2 (by decide));rw [aQ0 trivial,h1];simp only [aF,aM,dW];rw [aFI,h2];exact aL hK
end
theorem aFL (l:List Nat) (i n:Nat):(oJ l).set i (nu n)=oJ (l.set i n):=by unfold oJ;rw [List.map_set]
end Go.Am
namespace Go.Am
open Go.Mq
abbrev vb (b:BitVec 64):V:=nu b.toNat
theorem wrap64 (m:Nat):tC .u64 (.ofNat m)= .ofNat (m%18446744073709551616):=by
 rw [KZ];show IntKind.u64.wrap (.ofNat m)=_;unfold IntKind.wrap;simp [IntKind.bits,IntKind.signed]
theorem aNM (b:BitVec 64):IntKind.u64.wrap (b.toNat:Int)= .ofNat b.toNat:=by
 rw [<-KZ];have:=wrap64 b.toNat;rw [OU b.isLt]at this;exact this
section
variable{k:V->Prop}{t:TypeId}{b c:BitVec 64}
theorem aQ2:aH PP .add t (vb b) (vb c) k=k (vb (b+c)):=by
 rw [KP]
 congr 2
 have e:Int.ofNat b.toNat+Int.ofNat c.toNat= .ofNat (b.toNat+c.toNat):=rfl;rw [e,wrap64,BitVec.toNat_add]
theorem aNN:aH PP .mul t (vb b) (vb c) k=k (vb (b*c)):=by
 rw [Wn]
 congr 2
 have e:Int.ofNat b.toNat*Int.ofNat c.toNat= .ofNat (b.toNat*c.toNat):=rfl;rw [e,wrap64,BitVec.toNat_mul]
theorem aDX (b:BitVec 64):BitVec.ofInt IntKind.u64.bits (Int.ofNat b.toNat)=b:=by
 show BitVec.ofInt 64 ((b.toNat:Nat):Int)=b;rw [BitVec.ofInt_natCast];simp
theorem aJq:aH PP .xor t (vb b) (vb c) k=k (vb (b ^^^ c)):=by
 have e0:aH PP .xor t (vb b) (vb c) k=k (.int .u64 (IntKind.u64.wrap (BitVec.ofInt IntKind.u64.bits (Int.ofNat b.toNat) ^^^ BitVec.ofInt IntKind.u64.bits (Int.ofNat c.toNat)).toNat)):=by simp [aH,yW,UD]
 rw [e0,aDX,aDX];have:=aNM (b ^^^ c);exact kB (fun z=>k (.int .u64 z)) this
theorem aJr{n:Nat} (h:n<64):aH PP .shr t (vb b) (nu n) k=k (vb (b >>> n)):=by
 show((0:Int)<=Int.ofNat n/\k (.int .u64 (Int.fdiv (Int.ofNat b.toNat) (2 ^ (min (Int.ofNat n).toNat IntKind.u64.bits)))))=_;have e1:min (Int.ofNat n).toNat IntKind.u64.bits=n:=by show min n 64=n;omega
 rw [e1]
 have e2:Int.fdiv (Int.ofNat b.toNat) (2 ^ n)= .ofNat (b >>> n).toNat:=by
  rw [BitVec.toNat_ushiftRight,Nat.shiftRight_eq_div_pow];have:(2:Int) ^ n=((2 ^ n:Nat):Int):=by simp
  rw [this];exact(Int.ofNat_fdiv _ _).symm
 rw [e2];exact propext ⟨fun h=>h.2,fun h=>⟨Int.natCast_nonneg n,h⟩⟩
theorem aNO:VJ .xor (vb b) k=k (vb (~~~ b)):=by
 show k (.int .u64 (IntKind.u64.wrap (BitVec.ofInt IntKind.u64.bits (if IntKind.u64.signed then-1 else IntKind.u64.max) ^^^ BitVec.ofInt IntKind.u64.bits (Int.ofNat b.toNat)).toNat))=_;rw [aDX];have e:BitVec.ofInt IntKind.u64.bits (if IntKind.u64.signed then-1 else IntKind.u64.max)=BitVec.allOnes 64:=by show(BitVec.ofInt 64 (if IntKind.u64.signed then-1 else IntKind.u64.max):BitVec 64)=_;decide
 rw [e];show k (.int .u64 (IntKind.u64.wrap ((BitVec.allOnes 64 ^^^ b:BitVec 64).toNat:Int)))=_;rw [BitVec.allOnes_xor];exact kB (fun z=>k (.int .u64 z)) (aNM (~~~ b))
theorem aJs{a b:Nat}:aH PP .geq t (nu a) (nu b) k=k (.bool (decide (b<=a))):=by rw [CR];congr 2;simp
end
def UE (s:BitVec 64):Nat×BitVec 64:=if 5<=(~~~ XM (s+RN)).toNat then((XM (s+RN)).toNat%11,s+RN)else((XM (s+RN+RN)).toNat%11,s+RN+RN)
theorem aMw{s:BitVec 64} (h:¬5<=(~~~ XM s).toNat):aB1 (XM s):=by
 unfold aB1;rw [BitVec.toNat_not]at h;have:=(XM s).isLt;omega
theorem aQ3{s:BitVec 64} (h:¬5<=(~~~ XM s).toNat):5<=(~~~ XM (s+RN)).toNat:=by
 have:=once s (aMw h);unfold aB1 at this;rw [BitVec.toNat_not];have:=(XM (s+RN)).isLt;omega
inductive Ah (S:Hp):V->List Nat->Prop
 | nil:Ah S .nil []
 | emp {i n:Nat}:Ah S (.emp i n) []
 | aDY {i o:Nat}:Ah S (.own i o 0 0) []
 | acc {i:Nat} {l:List Nat} (h:S i=some (.gD (oJ l) 22 l.length)) (h0:0<l.length):Ah S (.acc i l.length) l
 | IN {i m o:Nat} {vs:List V} {l:List Nat} (h:S i=some (.gD vs 22 m)) (h0:0<l.length) (hv:∀j n,l[j]? =some n->vs[o+j]? =some (nu n)):Ah S (.IN i m o l.length l.length) l
theorem Ah.up{S S':Hp}{v:V}{l:List Nat} (h:Ah S v l) (hle:bP S S'):Ah S' v l:=by
 cases h with
 | nil=>exact .nil
 | emp=>exact .emp
 | aDY=>exact .aDY
 | acc h h0=>exact .acc (hle _ _ h) h0
 | IN h h0 hv=>exact .IN (hle _ _ h) h0 hv
theorem Ah.len{S:Hp}{v:V}{l:List Nat} (h:Ah S v l){K:V->Prop}:bK v K=K (ni l.length):=by cases h<;>rfl
theorem Ah.one{S:Hp}{v:V}{l:List Nat} (h:Ah S v l):fV v=true:=by cases h<;>rfl
theorem Ah.set{S:Hp}{v w:V}{l:List Nat}{t d:Nat}{b c:V} (h:Ah S v l) (ht:S t=some (.row [b,w,c] d)){o:Ob}:Ah (aJ S t o) v l:=by
 have ne:∀{i:Nat} {vs:List V} {q n:Nat},S i=some (.gD vs q n)->i≠t:=fun h c=>by rw [c,ht]at h;cases h
 cases h with
 | nil=>exact .nil
 | emp=>exact .emp
 | aDY=>exact .aDY
 | acc h h0=>exact .acc (by rw [aC (ne h)];exact h) h0
 | IN h h0 hv=>exact .IN (by rw [aC (ne h)];exact h) h0 hv
theorem Ah.head{S:Hp}{v:V}{a:Nat}{l:List Nat} (h:Ah S v (a::l)):(∃p,(∀(K:V->Prop),cI 1 v (ni 0) K=K p)/\∀K:KV,aU p S K=K (nu a) S)/\∃w,(∀{k:V->Prop},k w->LW 22 1 v (some (ni 1)) none none S k)/\∀{S'},bP S S'->Ah S' w l:=by
 generalize hm:a::l=m at h;cases h with
 | nil=>cases hm
 | emp=>cases hm
 | aDY=>cases hm
 | @acc i _ h h0=>
  subst hm;refine⟨⟨.wM i (a::l).length (0*1),fun K=>LP (by simp),fun K=>?_⟩,?_⟩
  ·unfold aU;simp only [h,true_and];rfl
  ·cases l with
   | nil=>exact⟨.emp i 1,fun hk=>aJt (n:=1) h hk,fun _=> .emp⟩
   | cons b l=>
    refine⟨.IN i (a::b::l).length (1*1) ((a::b::l).length-1) ((a::b::l).length-1),fun hk=>aAj h (by simp) hk,fun hle=>?_⟩
    exact .IN (l:=b::l) (hle _ _ h) (by simp) fun j n hj=>by
     rw [Nat.add_comm];exact IZ (l:=a::b::l) (i:=j+1) hj
 | @IN i q o vs _ h h0 hv=>
  subst hm;refine⟨⟨.wM i q (o+0*1),fun K=>by simp [cI],fun K=>?_⟩,?_⟩
  ·unfold aU
   simp only [h,true_and];rw [VY,cP (hv 0 a rfl)]
  ·cases l with
   | nil=>
    refine⟨.emp i q,fun {k} hk=>?_,fun _=> .emp⟩;unfold LW;simp only [h,true_and];unfold LX Ja;simp only [oN,Xv];refine⟨by omega,by omega,by omega,fun c=>aX c (by omega),fun _=>hk⟩
   | cons b l=>
    refine⟨.IN i q (o+1*1) (b::l).length (b::l).length,fun {k} hk=>?_,fun hle=> .IN (l:=b::l) (hle _ _ h) (by simp) fun j n hj=>?_⟩
    ·unfold LW
     simp only [h,true_and];unfold LX Ja;simp only [oN];refine⟨by omega,by omega,by omega,fun _=>?_,fun c=>aX c (by omega)⟩;exact hk
    ·have:=hv (j+1) n hj
     rw [jQ,vG,Nat.add_comm 1 j];exact this
section
variable{S:Hp}{i o:Nat}{vs:List V}{t:TypeId}{v:V}
theorem cW (h:S i=some (.row vs t)) (hv:vs[o]? =some v){K:KV}:aU (.ptr i o) S K=K v S:=by unfold aU;simp only [h,cP hv]
theorem EC (h:S i=some (.row vs t)) (ho:o<vs.length) (h1:fV v=true){k:Hp->Prop}:mB 1 (.ptr i o) v S k=k (aJ S i (.row (vs.set o v) t)):=by
 apply propext;constructor
 ·intro hv
  unfold mB at hv;simp only [h]at hv;have:∀{p:List V->Prop},wN v p=p [v]:=fun {p}=>by cases v<;>first | rfl | cases h1
  rw [this]at hv;rw [<-GM ho];exact hv.2.2
 ·intro hk;exact NX h h1 ho (by rw [GM ho];exact hk)
end
def Tape (S:Hp) (t:Nat) (s:BitVec 64) (ah:List Nat) (d:Nat):Prop:=∃w,S t=some (.row [vb s,w,ni d] 140)/\Ah S w ah
def Db (S S':Hp) (t:Nat):Prop:=∀i,i≠t->S' i=S i
theorem Db.trans{a b c:Hp}{t:Nat} (h:Db a b t) (k:Db b c t):Db a c t:=fun i hi=>by rw [k i hi,h i hi]
section
variable{M n t d:Nat}{x:VE}{S:Hp}{K:KV}{s:BitVec 64}{w:V}{a:Nat}{ah:List Nat}
theorem aB6 (hx:Deep PP bI gM M (n+1) x) (h:S t=some (.row [vb s,w,ni d] 140)) (hK:K (vb (XM (s+RN))) (aJ S t (.row [vb (s+RN),w,ni d] 140))):x.call ED [.ptr t 0] S K:=by
 refine hx.call rfl fun y hy=>?_;rw [Fu];unfold NY;have e1:(.int .u64 (.ofNat 11400714819323198485):V)=vb RN:=rfl;have e2:(.int .u64 (.ofNat 13787848793156543929):V)=vb m1:=rfl;have e3:(.int .u64 (.ofNat 10723151780598845931):V)=vb m2:=rfl;have h2:aJ S t (.row [vb (s+RN),w,ni d] 140) t=some (.row [vb (s+RN),w,ni d] 140):=aB;rw [cX,aV,cW h rfl,e1,aQ2,cX,aV,EC h (by simp) rfl];show nB PP (.ptr t 0) (fun v6=>aS 0 v6 fun v7=>aU v7 (aJ S t (.row [vb (s+RN),w,ni d] 140)) _);rw [cX,aV,cW h2 rfl,aJr (by decide),aJq,e2,aNN,aJr (by decide),aJq,e3,aNN,aJr (by decide),aJq];exact aL hK
theorem aAk (hx:Deep PP bI gM M (n+1) x) (hK:K (nu (a%11)) S):x.call KH [nu a,nu 11] S K:=by
 refine hx.call rfl fun y hy=>?_;rw [aAl];unfold Fv;rw [aNL,bN (by decide),bC,Av (by decide)];exact aL hK
theorem aNP:Fw PP 30=some .ptr:=by kernel_rfl
theorem aMx (hx:Deep PP bI gM M (n+1) x) (h:S t=some (.row [vb s,w,ni d] 140)) (hw:Ah S w []) (hK:∀S',Db S S' t->Tape S' t (UE s).2 [] d->K (nu (UE s).1) S'){m:Nat}:pJ x (m+2) (.ptr t 0) (nu 11) S K:=by
 rw [CU];unfold uA;refine aE ?_;rw [cX,aV];refine aB6 hx h ?_;rw [aNO];refine aJo hx ?_;have h1:aJ S t (.row [vb (s+RN),w,ni d] 140) t=some (.row [vb (s+RN),w,ni d] 140):=aB;rw [aJs];by_cases c:5<=(~~~ XM (s+RN)).toNat
 ·rw [bF c,bR]
  refine aAk hx ?_;have e:UE s=((XM (s+RN)).toNat%11,s+RN):=by unfold UE;rw [aK c]
  rw [e]at hK;exact aL (hK _ (fun i hi=>aC hi) ⟨w,h1,hw.set h⟩)
 ·rw [bN c,bC,CU]
  unfold uA;refine aE ?_;rw [cX,aV];refine aB6 hx h1 ?_;rw [aNO];refine aJo hx ?_;rw [aJs,bF (aQ3 c),bR];refine aAk hx ?_;have e:UE s=((XM (s+RN+RN)).toNat%11,s+RN+RN):=by unfold UE;rw [aG c]
  rw [e]at hK;exact aL (hK _ (fun i hi=>by rw [eS,aC hi]) ⟨w,by rw [eS];exact aB,by rw [eS];exact hw.set h⟩)
theorem aO8 (hM:2<M) (hx:Deep PP bI gM M (n+2) x) (h:Tape S t s [] d) (hd:d<1000000) (hK:∀S',Db S S' t->Tape S' t (UE s).2 [] (d+1)->K (nu (UE s).1) S'):x.call dU [.ptr t 0,nu 11] S K:=by
 obtain⟨w,h,hw⟩:=h;refine hx.call rfl fun y hy=>?_;rw [QM];unfold GN;refine aFM aNP ?_;have h1:aJ S t (.row [vb s,w,ni (d+1)] 140) t=some (.row [vb s,w,ni (d+1)] 140):=aB;have hw1:Ah (aJ S t (.row [vb s,w,ni (d+1)] 140)) w []:=hw.set h;rw [bC,cX,aV,cW h rfl,bD (by omega),cX,aV,EC h (by simp) rfl];show nB PP (.ptr t 0) (fun v7=>aS 1 v7 fun v8=>aU v8 (aJ S t (.row [vb s,w,ni (d+1)] 140)) _);rw [cX,aV,cW h1 rfl,hw1.len,SX,bN (by simp),bC,hy.most];obtain⟨m,rfl⟩:∃m,M=m+2:=⟨M-2,by omega⟩;exact aMx hy h1 hw1 fun S' b tp=>hK S' ((show Db S (aJ S t (.row [vb s,w,ni (d+1)] 140)) t from fun i hi=>aC hi).trans b) tp
end
def drawn:Nat->List Nat->BitVec 64->List Nat
 | 0,_,_=>[]
 | k+1,a::ah,s=>a%11::drawn k ah s
 | k+1,[],s=>(UE s).1::drawn k [] (UE s).2
theorem wJ:∀(k:Nat) (ah:List Nat) (s:BitVec 64),(drawn k ah s).length=k:=by
 intro k;induction k with
 | zero=>intro ah s;rfl
 | succ k ih=>intro ah s;cases ah<;>simp [drawn,ih]
theorem QN:∀(k:Nat) (ah:List Nat) (s:BitVec 64),∀c∈drawn k ah s,c<11:=by
 intro k;induction k with
 | zero=>intro ah s c hc;cases hc
 | succ k ih=>
  intro ah s c hc;cases ah with
  | nil=>
   rcases cC.1 hc with rfl | hc
   ·show(UE s).1<11
    unfold UE;split<;>exact gI _ (by decide)
   ·exact ih _ _ c hc
  | cons a ah=>
   rcases cC.1 hc with rfl | hc
   ·exact gI _ (by decide)
   ·exact ih _ _ c hc
section
variable{M n t d:Nat}{x:VE}{S:Hp}{K:KV}{s:BitVec 64}{ah:List Nat}
end
section
variable{M n t d:Nat}{x:VE}{S:Hp}{K:KV}
theorem aQ4{sd:Nat} (h:FC sd):vb (BitVec.ofNat 64 sd)=nu sd:=by
 show nu (BitVec.ofNat 64 sd).toNat=nu sd;rw [BitVec.toNat_ofNat,OU h]
end
end Go.Am
namespace Go.Am
def sG (x:VE) (m:Nat) (t3 t9 t10 t11 t29 t30 t31:V) (S:Hp) (K:KV):Prop:=dQ PP bI zA x [.r,.r,.r,.r,.l,.r,.d] m [] [t3,t9,t10,t11,t29,t30,t31] S K
def gN (x:VE) (m:Nat) (t3 t10 t11 t14 t63 t64:V) (S:Hp) (K:KV):Prop:=dQ PP bI zA x [.r,.r,.r,.r,.r,.r,.l,.r,.d] m [] [t3,t10,t11,t14,t63,t64] S K
def jJ (x:VE) (m:Nat) (m0:Nat) (t3 t10 t11 t14 t15 t63 t64 t68 t69:V) (S:Hp) (K:KV):Prop:=dQ PP bI zA x [.r,.r,.r,.r,.r,.r,.l,.r,.d,.d,.r,.r,.l,.d,.r,.r,.d] m [m0] [t3,t10,t11,t14,t15,t63,t64,t68,t69] S K
def Ha (x:VE) (a0 a1 a2:V) (S:Hp) (K:KV):Prop:=
 iE 29 a0 S fun v0 S=>
 bJ 12 v0 S fun v1 S=>
 x.call uY [v1] S fun v2 S=>
 VJ .not v2 fun v3=>
 gK x false v3 a1 S fun v4 S=>gP x false v3 (bK v4) S fun v6 S=>gL x false v3 (bJ 12 v0 S) S fun v8 S=>gL x false v3 (x.call EI [v8] S) S fun v10 S=>gP x false v3 (aH PP .neq 3 v6 v10) S fun v12 S=>gQ x v3 (.bool true) v12 fun sN=>iQ sN (bE (.tuple [.nil,.nil,(.int .i64 (.ofNat 1))]) S K) (bK a1 fun tO=>sG x x.most v0 (.func dU [a2] []) .nil .nil a1 tO (.int .i64 (.ofNat 0)) S K)
theorem aAN (x:VE) (a0 a1 a2:V) (S:Hp) (K:KV):jU PP bI zA x [a0,a1,a2] S K=Ha x a0 a1 a2 S K:=by kernel_rfl
def wT (x:VE) (m0:Nat) (t3 t9 t10 t11 t29 t30 t31:V) (S:Hp) (K:KV):Prop:=
 cS S fun S=>
 aH PP .lss 3 t31 t30 fun v0=>
 iQ v0 (cI 1 t29 t31 fun v1=>aU v1 S fun v2 S=>aS 6 t3 fun v3=>aU v3 S fun v4 S=>aS 1 t3 fun v5=>aU v5 S fun v6 S=>x.call wK [v2,v4,v6,t9] S fun v7 S=>aP 51 1 cU [(0,1,v7)] S fun v8 S=>jY 51 1 24 t10 v8 S fun v9 S=>aS 1 t3 fun v10=>aU v10 S fun v11 S=>aS 6 t3 fun v12=>aU v12 S fun sN S=>aS 1 t3 fun tO=>aU tO S fun zE S=>lJ x t9 [v11] S fun AM S=>aU tO S fun wF _=>aW wF zE (aU v12 S fun yR _=>aW yR sN (x.call wK [AM,sN,zE,t9] S fun wU S=>(aP 51 1 cU [(0,1,wU)] S fun v20 S=>True)/\(aP 51 1 cU [(0,1,wU)] S fun v21 S=>jY 51 1 24 t11 v21 S fun NF S=>aH PP .add 3 t31 (.int .i64 (.ofNat 1)) fun EW=>sG x m0 t3 t9 v9 NF t29 t30 EW S K)))) (aS 5 t3 fun v24=>aU v24 S fun RA S=>vMk 82 24 cU RA RA S fun Bi S=>bK Bi fun ZZ=>gN x x.most t3 t10 t11 Bi ZZ (.int .i64 (.ofNat 0)) S K)
theorem FQ (x:VE) (m0:Nat) (t3 t9 t10 t11 t29 t30 t31:V) (S:Hp) (K:KV):sG x (m0+1) t3 t9 t10 t11 t29 t30 t31 S K=wT x m0 t3 t9 t10 t11 t29 t30 t31 S K:=by kernel_rfl
def tY (x:VE) (m0:Nat) (t3 t10 t11 t14 t63 t64:V) (S:Hp) (K:KV):Prop:=
 cS S fun S=>
 aH PP .lss 3 t64 t63 fun v0=>
 iQ v0 (bK t10 fun v1=>jJ x x.most m0 t3 t10 t11 t14 t64 t63 t64 v1 (.int .i64 (.ofNat 0)) S K) (bJ 12 t3 S fun v2 S=>x.call aR [v2,t10,t11] S fun v3 S=>bE (.tuple [t14,v3,(.int .i64 (.ofNat 0))]) S K)
theorem CQ (x:VE) (m0:Nat) (t3 t10 t11 t14 t63 t64:V) (S:Hp) (K:KV):gN x (m0+1) t3 t10 t11 t14 t63 t64 S K=tY x m0 t3 t10 t11 t14 t63 t64 S K:=by kernel_rfl
def mJ (x:VE) (m1:Nat) (m0:Nat) (t3 t10 t11 t14 t15 t63 t64 t68 t69:V) (S:Hp) (K:KV):Prop:=
 cS S fun S=>
 aH PP .lss 3 t69 t68 fun v0=>
 iQ v0 (cI 1 t14 t15 fun v1=>aU v1 S fun v2 S=>cI 1 t10 t69 fun v3=>aU v3 S fun v4 S=>aH PP .add 3 t15 (.int .i64 (.ofNat 1)) fun v5=>LU .u64 v5 fun v6=>aS 1 t3 fun v7=>aU v7 S fun v8 S=>cI 1 t11 t69 fun v9=>aU v9 S fun v10 S=>aH PP .add 3 t15 (.int .i64 (.ofNat 1)) fun v11=>LU .u64 v11 fun v12=>aS 1 t3 fun sN=>aU sN S fun tO S=>x.call yE [v4,v6,v8] S fun zE S=>aU sN S fun AM _=>aW AM tO (aU v9 S fun wF _=>aW wF v10 (aU v1 S fun yR _=>aW yR v2 (x.call yE [v10,v12,tO] S fun wU S=>aU v1 S fun v20 _=>aW v20 v2 (cF GK [(0,1,zE),(1,1,wU)] fun v21=>aU v1 S fun NF _=>aW NF v2 ((aP 145 1 GK [(0,2,v21)] S fun EW S=>True)/\(aP 145 1 GK [(0,2,v21)] S fun v24 S=>jY 145 2 16 v2 v24 S fun RA S=>cI 1 t14 t15 fun Bi=>mB 1 Bi RA S fun S=>aH PP .add 3 t69 (.int .i64 (.ofNat 1)) fun ZZ=>jJ x m1 m0 t3 t10 t11 t14 t15 t63 t64 t68 ZZ S K))))))) (aH PP .add 3 t64 (.int .i64 (.ofNat 1)) fun v28=>gN x m0 t3 t10 t11 t14 t63 v28 S K)
theorem tE (x:VE) (m1:Nat) (m0:Nat) (t3 t10 t11 t14 t15 t63 t64 t68 t69:V) (S:Hp) (K:KV):jJ x (m1+1) m0 t3 t10 t11 t14 t15 t63 t64 t68 t69 S K=mJ x m1 m0 t3 t10 t11 t14 t15 t63 t64 t68 t69 S K:=by kernel_rfl
def XU (x:VE) (a0:V) (S:Hp) (K:KV):Prop:=
 iE 29 a0 S fun v0 S=>
 aS 7 v0 fun v1=>
 aU v1 S fun v2 S=>
 aS 8 v0 fun v3=>
 aU v3 S fun v4 S=>
 aH PP .add 3 v4 (.int .i64 (.ofNat 1)) fun v5=>
 aH PP .mul 3 v2 v5 fun v6=>
 bE v6 S K
theorem Qy (x:VE) (a0:V) (S:Hp) (K:KV):jU PP bI EI x [a0] S K=XU x a0 S K:=by kernel_rfl
def pC (x:VE) (m:Nat) (t2 t3 t9 t14 t15:V) (S:Hp) (K:KV):Prop:=dQ PP bI wK x [.r,.r,.l,.r,.d] m [] [t2,t3,t9,t14,t15] S K
def Bh (x:VE) (a0 a1 a2 a3:V) (S:Hp) (K:KV):Prop:=
 aH PP .rem 22 a0 a2 fun v0=>
 aP 22 1 iK [(0,1,v0)] S fun v1 S=>
 pC x x.most a2 a3 v1 a1 (.int .i64 (.ofNat 0)) S K
theorem Uy (x:VE) (a0 a1 a2 a3:V) (S:Hp) (K:KV):jU PP bI wK x [a0,a1,a2,a3] S K=Bh x a0 a1 a2 a3 S K:=by kernel_rfl
def yJ (x:VE) (m0:Nat) (t2 t3 t9 t14 t15:V) (S:Hp) (K:KV):Prop:=
 cS S fun S=>
 aH PP .lss 3 t15 t14 fun v0=>
 iQ v0 (lJ x t3 [t2] S fun v1 S=>aP 22 1 iK [(0,1,v1)] S fun v2 S=>jY 22 1 8 t9 v2 S fun v3 S=>aH PP .add 3 t15 (.int .i64 (.ofNat 1)) fun v4=>pC x m0 t2 t3 v3 t14 v4 S K) (bE t9 S K)
theorem IH (x:VE) (m0:Nat) (t2 t3 t9 t14 t15:V) (S:Hp) (K:KV):pC x (m0+1) t2 t3 t9 t14 t15 S K=yJ x m0 t2 t3 t9 t14 t15 S K:=by kernel_rfl
def UF (x:VE) (a0 a1 a2:V) (S:Hp) (K:KV):Prop:=
 iE 29 a0 S fun v0 S=>
 cN cU 33 S fun v1 S=>
 x.call oO [a1,a2] S fun v2 S=>
 PH x v2 [3,7] [v0,v1] 36 (EE PP aR [.r,.r,.l,.r,.d]) (EG PP aR [.r,.r,.l,.r,.d]) (yX PP aR [.r,.r,.l,.r,.d]) S fun pe S=>
 UJ pe (aU v1 S fun v4 S=>bE v4 S K) (bE .nil S K) (fun v3=>Bf v3 0 (aU v1 S fun v5 S=>bE v5 S K) (False))
theorem Ls (x:VE) (a0 a1 a2:V) (S:Hp) (K:KV):jU PP bI aR x [a0,a1,a2] S K=UF x a0 a1 a2 S K:=by kernel_rfl
def EH (x:VE) (l:Nat) (t3 t7 a0 a1:V) (S:Hp) (K:KV):Prop:=
 Be l S fun S=>
 cN cU 51 S fun v0 S=>
 x.call uB [a0,a1] S fun v1 S=>
 SY l S (PH x v1 [3,10] [t3,v0] 36 (EE PP aR [.r,.r,.l,.r,.d,.d,.d,.r,.l,.r,.d]) (EG PP aR [.r,.r,.l,.r,.d,.d,.d,.r,.l,.r,.d]) (yX PP aR [.r,.r,.l,.r,.d,.d,.d,.r,.l,.r,.d]) S fun pe S=>UJ pe (aU t7 S fun v3 S=>aU v0 S fun v4 S=>aP 51 1 cU [(0,1,v4)] S fun v5 S=>jY 51 1 24 v3 v5 S fun v6 S=>mB 1 t7 v6 S fun S=>JR l .ready none true S K) (JR l .done (some .ret) false S K) (fun v2=>Bf v2 2 (aU t7 S fun v7 S=>aU v0 S fun v8 S=>aP 51 1 cU [(0,1,v8)] S fun v9 S=>jY 51 1 24 v7 v9 S fun v10 S=>mB 1 t7 v10 S fun S=>JR l .ready none true S K) (Bf v2 1 (JR l .ready none true S K) (JR l .done (some (.exit v2)) false S K))))
theorem VM (x:VE) (l:Nat) (t3 t7 a0 a1:V) (S:Hp) (K:KV):YD PP bI x 36 (EE PP aR [.r,.r,.l,.r,.d]) (EG PP aR [.r,.r,.l,.r,.d]) (yX PP aR [.r,.r,.l,.r,.d]) l [t3,t7] [a0,a1] S K=EH x l t3 t7 a0 a1 S K:=by kernel_rfl
theorem VL:[3,7]=Au bI 36 (yX PP aR [.r,.r,.l,.r,.d]):=by kernel_rfl
def wE (x:VE) (l:Nat) (t3 t10 a0 a1:V) (S:Hp) (K:KV):Prop:=
 Be l S fun S=>
 aU t10 S fun v0 S=>
 bJ 12 t3 S fun v1 S=>
 cF GK [(0,1,a0),(1,1,a1)] fun v2=>
 x.call LY [v1,v2] S fun v3 S=>
 aU t10 S fun v4 _=>
 aW v4 v0 (aU t10 S fun v5 _=>aW v5 v0 ((aP 22 1 iK [(0,1,v3)] S fun v6 S=>True)/\(aP 22 1 iK [(0,1,v3)] S fun v7 S=>jY 22 1 8 v0 v7 S fun v8 S=>mB 1 t10 v8 S fun S=>JR l .ready none true S K)))
theorem KJ (x:VE) (l:Nat) (t3 t10 a0 a1:V) (S:Hp) (K:KV):YD PP bI x 36 (EE PP aR [.r,.r,.l,.r,.d,.d,.d,.r,.l,.r,.d]) (EG PP aR [.r,.r,.l,.r,.d,.d,.d,.r,.l,.r,.d]) (yX PP aR [.r,.r,.l,.r,.d,.d,.d,.r,.l,.r,.d]) l [t3,t10] [a0,a1] S K=wE x l t3 t10 a0 a1 S K:=by kernel_rfl
theorem KI:[3,10]=Au bI 36 (yX PP aR [.r,.r,.l,.r,.d,.d,.d,.r,.l,.r,.d]):=by kernel_rfl
def zK (x:VE) (a0 a1:V) (S:Hp) (K:KV):Prop:=
 bK a0 fun v0=>
 aH PP .geq 3 a1 v0 fun v1=>
 iQ v1 (bE .nil S K) (cI 1 a0 a1 fun v2=>aU v2 S fun v3 S=>bE v3 S K)
theorem NB (x:VE) (a0 a1:V) (S:Hp) (K:KV):jU PP bI mP x [a0,a1] S K=zK x a0 a1 S K:=by kernel_rfl
def wD (x:VE) (a0 a1:V) (S:Hp) (K:KV):Prop:=
 iE 33 a0 S fun v0 S=>
 iE 33 a1 S fun v1 S=>
 bE (.func fQ [] [v0,v1]) S K
theorem JC (x:VE) (a0 a1:V) (S:Hp) (K:KV):jU PP bI oO x [a0,a1] S K=wD x a0 a1 S K:=by kernel_rfl
def iC (x:VE) (m:Nat) (t0 t1 t2 t9 t10:V) (S:Hp) (K:KV):Prop:=dQ PP bI fQ x [.r,.d] m [] [t0,t1,t2,t9,t10] S K
def uC (x:VE) (a0 a1 a2:V) (S:Hp) (K:KV):Prop:=
 aU a1 S fun v0 S=>
 bK v0 fun v1=>
 aU a2 S fun v2 S=>
 bK v2 fun v3=>
 Dc true v1 v3 fun v4=>
 iC x x.most a0 a1 a2 v4 (.int .i64 (.ofNat 0)) S K
theorem GO (x:VE) (a0 a1 a2:V) (S:Hp) (K:KV):jU PP bI fQ x [a0,a1,a2] S K=uC x a0 a1 a2 S K:=by kernel_rfl
def kT (x:VE) (m0:Nat) (t0 t1 t2 t9 t10:V) (S:Hp) (K:KV):Prop:=
 cS S fun S=>
 aH PP .lss 3 t10 t9 fun v0=>
 iQ v0 (aU t1 S fun v1 S=>aU t2 S fun v2 S=>x.call mP [v1,t10] S fun v3 S=>aU t2 S fun v4 _=>aW v4 v2 (x.call mP [v2,t10] S fun v5 S=>lJ x t0 [v3,v5] S fun v6 S=>VJ .not v6 fun v7=>iQ v7 (bE (.tuple []) S K) (aH PP .add 3 t10 (.int .i64 (.ofNat 1)) fun v8=>iC x m0 t0 t1 t2 t9 v8 S K))) (bE (.tuple []) S K)
theorem qC (x:VE) (m0:Nat) (t0 t1 t2 t9 t10:V) (S:Hp) (K:KV):iC x (m0+1) t0 t1 t2 t9 t10 S K=kT x m0 t0 t1 t2 t9 t10 S K:=by kernel_rfl
def CW (x:VE) (a0 a1:V) (S:Hp) (K:KV):Prop:=
 iE 51 a0 S fun v0 S=>
 iE 51 a1 S fun v1 S=>
 bE (.func jP [] [v0,v1]) S K
theorem QO (x:VE) (a0 a1:V) (S:Hp) (K:KV):jU PP bI uB x [a0,a1] S K=CW x a0 a1 S K:=by kernel_rfl
def kN (x:VE) (m:Nat) (t0 t1 t2 t9 t10:V) (S:Hp) (K:KV):Prop:=dQ PP bI jP x [.r,.d] m [] [t0,t1,t2,t9,t10] S K
def zM (x:VE) (a0 a1 a2:V) (S:Hp) (K:KV):Prop:=
 aU a1 S fun v0 S=>
 bK v0 fun v1=>
 aU a2 S fun v2 S=>
 bK v2 fun v3=>
 Dc true v1 v3 fun v4=>
 kN x x.most a0 a1 a2 v4 (.int .i64 (.ofNat 0)) S K
theorem NC (x:VE) (a0 a1 a2:V) (S:Hp) (K:KV):jU PP bI jP x [a0,a1,a2] S K=zM x a0 a1 a2 S K:=by kernel_rfl
def nV (x:VE) (m0:Nat) (t0 t1 t2 t9 t10:V) (S:Hp) (K:KV):Prop:=
 cS S fun S=>
 aH PP .lss 3 t10 t9 fun v0=>
 iQ v0 (aU t1 S fun v1 S=>aU t2 S fun v2 S=>x.call sD [v1,t10] S fun v3 S=>aU t2 S fun v4 _=>aW v4 v2 (x.call sD [v2,t10] S fun v5 S=>lJ x t0 [v3,v5] S fun v6 S=>VJ .not v6 fun v7=>iQ v7 (bE (.tuple []) S K) (aH PP .add 3 t10 (.int .i64 (.ofNat 1)) fun v8=>kN x m0 t0 t1 t2 t9 v8 S K))) (bE (.tuple []) S K)
theorem uZ (x:VE) (m0:Nat) (t0 t1 t2 t9 t10:V) (S:Hp) (K:KV):kN x (m0+1) t0 t1 t2 t9 t10 S K=nV x m0 t0 t1 t2 t9 t10 S K:=by kernel_rfl
def IB (x:VE) (a0 a1:V) (S:Hp) (K:KV):Prop:=
 bK a0 fun v0=>
 aH PP .geq 3 a1 v0 fun v1=>
 iQ v1 (bE (.int .u64 (.ofNat 0)) S K) (cI 1 a0 a1 fun v2=>aU v2 S fun v3 S=>bE v3 S K)
theorem XP (x:VE) (a0 a1:V) (S:Hp) (K:KV):jU PP bI sD x [a0,a1] S K=IB x a0 a1 S K:=by kernel_rfl
def XO (x:VE) (a0 a1:V) (S:Hp) (K:KV):Prop:=
 iE 29 a0 S fun v0 S=>
 iE 145 a1 S fun v1 S=>
 bJ 12 v0 S fun v2 S=>
 bJ 12 v0 S fun v3 S=>
 aS 2 v0 fun v4=>
 aU v4 S fun v5 S=>
 aS 0 v1 fun v6=>
 aU v6 S fun v7 S=>
 bJ 12 v0 S fun v8 S=>
 aS 3 v0 fun v9=>
 aU v9 S fun v10 S=>
 aS 1 v1 fun v11=>
 aU v11 S fun v12 S=>
 x.call sW [v3,v5,v7] S fun sN S=>
 aU v11 S fun tO _=>
 aW tO v12 (aU v9 S fun zE _=>aW zE v10 (bJ 12 v0 S fun AM _=>aW AM v8 (bJ 12 v0 S fun wF _=>aW wF v2 (x.call sW [v8,v10,v12] S fun yR S=>bJ 12 v0 S fun wU _=>aW wU v2 (bJ 12 v0 S fun v20 _=>aW v20 v2 ((aP 22 2 iK [(0,1,sN),(1,1,yR)] S fun v21 S=>True)/\(aP 22 2 iK [(0,1,sN),(1,1,yR)] S fun NF S=>x.call nL [v2,NF] S fun EW S=>bE EW S K)))))))
theorem Qx (x:VE) (a0 a1:V) (S:Hp) (K:KV):jU PP bI LY x [a0,a1] S K=XO x a0 a1 S K:=by kernel_rfl
def Aw (x:VE) (a0 a1 a2:V) (S:Hp) (K:KV):Prop:=
 iE 29 a0 S fun v0 S=>
 aS 0 v0 fun v1=>
 aU v1 S fun v2 S=>
 x.call QH [a1,a2,v2] S fun v3 S=>
 bE v3 S K
theorem Un (x:VE) (a0 a1 a2:V) (S:Hp) (K:KV):jU PP bI sW x [a0,a1,a2] S K=Aw x a0 a1 a2 S K:=by kernel_rfl
def tR (x:VE) (m:Nat) (t2 t5 t11 t12 t13:V) (S:Hp) (K:KV):Prop:=dQ PP bI nL x [.r,.r,.l,.r,.d] m [] [t2,t5,t11,t12,t13] S K
def Ax (x:VE) (a0 a1:V) (S:Hp) (K:KV):Prop:=
 iE 29 a0 S fun v0 S=>
 aS 0 v0 fun v1=>
 aU v1 S fun v2 S=>
 x.call oI [(.int .u64 (.ofNat 1)),(.int .u64 (.ofNat 1)),v2] S fun v3 S=>
 bK a1 fun v4=>
 tR x x.most v0 v3 a1 v4 (.int .i64 (.ofNat 0)) S K
theorem Uo (x:VE) (a0 a1:V) (S:Hp) (K:KV):jU PP bI nL x [a0,a1] S K=Ax x a0 a1 S K:=by kernel_rfl
def yF (x:VE) (m0:Nat) (t2 t5 t11 t12 t13:V) (S:Hp) (K:KV):Prop:=
 cS S fun S=>
 aH PP .lss 3 t13 t12 fun v0=>
 iQ v0 (cI 1 t11 t13 fun v1=>aU v1 S fun v2 S=>aS 0 t2 fun v3=>aU v3 S fun v4 S=>x.call oI [t5,v2,v4] S fun v5 S=>aH PP .add 3 t13 (.int .i64 (.ofNat 1)) fun v6=>tR x m0 t2 v5 t11 t12 v6 S K) (bE t5 S K)
theorem IA (x:VE) (m0:Nat) (t2 t5 t11 t12 t13:V) (S:Hp) (K:KV):tR x (m0+1) t2 t5 t11 t12 t13 S K=yF x m0 t2 t5 t11 t12 t13 S K:=by kernel_rfl
end Go.Am
namespace Go.Am
open Go.Proofs.JJ
def pw (g e:Nat):Nat:=ZX 64 (1%23) g e 23
def FJ (l:List Nat):Nat:=l.foldl (fun acc y=>acc*y%23) (1*1%23)
def Nl (sd B:Nat):Nat:=FJ [pw 4 sd,pw 9 B]
theorem aFN (g e:Nat):pw g e<23:=by
 have:∀(f out a e:Nat),out<23->ZX f out a e 23<23:=by
  intro f;induction f with
  | zero=>intro out a e h;exact h
  | succ f ih=>
   intro out a e h;by_cases he:0<e
   ·rw [Wk he]
    refine ih _ _ _ ?_;split
    ·exact gI _ (by decide)
    ·exact h
   ·have:e=0:=by omega
    subst this;rw [Wj];exact h
 exact this 64 _ g e (by decide)
theorem aJu (sd B:Nat):Nl sd B<23:=gI _ (by decide)
section
variable{M n:Nat}{x:VE}{S:Hp}{K:KV}{two:Bool}
theorem kC:(pv two).all fV=true:=rfl
theorem BZ:(pv two).length=12:=rfl
theorem Fx (hx:Deep PP bI gM M (n+2) x){g e:Nat} (hg:FC g) (he:FC e) (hK:K (nu (pw g e)) S):x.call sW [.agg (pv two),nu g,nu e] S K:=by
 refine hx.call rfl fun y hy=>?_;rw [Un];unfold Aw;refine bX kC fun b hb=>?_;rw [aV,cW (o:=0) aB rfl];refine aQ1 hy hg he qP ?_;exact bL (.aI hb) hK
theorem aHl (hx:Deep PP bI gM M (n+1) x){v:V}{l:List Nat}{b:Nat}{S0:Hp} (hle:bP S0 S) (h:NV S v l) (VI:LS l) (hl:l.length<1000000) (hb:S b=some (.row (pv two) 29)) (hK:K (nu (FJ l)) S0):
 ∀(r i m:Nat) (acc:Nat),i+r=l.length->r<m->FC acc->(l.drop i).foldl (fun acc y=>acc*y%23) acc=FJ l->tR x m (.ptr b 0) (nu acc) v (ni l.length) (ni i) S K:=by
 intro r;induction r with
 | zero=>
  intro i m acc hi hm h6 he;obtain⟨m,rfl⟩:=bG (show m≠0 by omega);rw [IA];unfold yF;refine aE ?_;rw [aO,jO (by omega),bC];rw [pH (by omega)]at he;have he:acc=FJ l:=he;rw [he];exact bL hle hK
 | succ r ih=>
  intro i m acc hi hm h6 he;obtain⟨m,rfl⟩:=bG (show m≠0 by omega);rw [IA];unfold yF;refine aE ?_;have hlt:i<l.length:=by omega
  obtain⟨p,hp,RK⟩:=h.at (i:=i) (aQ hlt);rw [aO,yQ hlt,bR,hp,RK S (.refl S),aV,cW hb rfl];refine QL hx h6 (VI _ (cJ hlt)) qP ?_;rw [bD (by omega)];refine ih (i+1) m _ (by omega) (by omega) (aAi qP) ?_;rw [mE hlt]at he;exact he
theorem XN (hM:1000000<M) (hx:Deep PP bI gM M (n+2) x){v:V}{l:List Nat} (h:NV S v l) (VI:LS l) (hl:l.length<1000000) (hK:K (nu (FJ l)) S):x.call nL [.agg (pv two),v] S K:=by
 refine hx.call rfl fun y hy=>?_;rw [Uo];unfold Ax;refine bX kC fun b hb=>?_;rw [aV,cW (o:=0) aB rfl];refine QL hy (by decide) (by decide) qP ?_;have hle:bP S (aJ S b (.row (pv two) 29)):= .aI hb;rw [(h.up hle).len,hy.most];exact aHl hy hle (h.up hle) VI hl aB hK l.length 0 M _ (by omega) (by omega) (by decide) rfl
theorem Jb{a b:Nat} (hk:∀j,S j=none->K (.own j 0 2 2) (aJ S j (.row (oJ [a,b]) 22))):aP 22 2 iK [(0,1,nu a),(1,1,nu b)] S K:=⟨rfl,by simp,rfl,by simp [aY],fun j hj=>hk j hj⟩
theorem aJv (hM:1000000<M) (hx:Deep PP bI gM M (n+3) x){sd B:Nat} (hS:FC sd) (hB:FC B) (hK:K (nu (Nl sd B)) S):x.call LY [.agg (pv two),.agg [nu sd,nu B]] S K:=by
 refine hx.call rfl fun y hy=>?_;rw [Qx];unfold XO;refine bX kC fun b hb=>?_;have dH:bP S (aJ S b (.row (pv two) 29)):= .aI hb;have rb:aJ S b (.row (pv two) 29) b=some (.row (pv two) 29):=aB;generalize aJ S b (.row (pv two) 29)=S1 at dH rb;refine bX rfl fun c hc=>?_;have fF:bP S1 (aJ S1 c (.row [nu sd,nu B] 145)):= .aI hc;have rc:aJ S1 c (.row [nu sd,nu B] 145) c=some (.row [nu sd,nu B] 145):=aB;generalize aJ S1 c (.row [nu sd,nu B] 145)=S2 at fF rc;have rb:=fF _ _ rb;have le:=dH.trans fF
 have all:∀{K:KV},bJ 12 (.ptr b 0) S2 K=K (.agg (pv two)) S2:=fun {K}=>by
  unfold bJ;simp only [rb];rw [dG (by rw [BZ];omega),xS,mF (by rw [BZ];omega)]
 have same:∀{p:Prop},aW (.agg (pv two)) (.agg (pv two)) p=p:=fun {p}=>cK rfl;have l2:∀{K:KV},aU (.ptr b 2) S2 K=K (nu 4) S2:=cW rb rfl;have l3:∀{K:KV},aU (.ptr b 3) S2 K=K (nu 9) S2:=cW rb rfl;have l0:∀{K:KV},aU (.ptr c 0) S2 K=K (nu sd) S2:=cW rc rfl;have l1:∀{K:KV},aU (.ptr c 1) S2 K=K (nu B) S2:=cW rc rfl;simp only [all,aV,l2,l3,l0,l1];refine Fx hy (by decide) hS ?_;simp only [all,l3,l1,same,cM];refine Fx hy (by decide) hB ?_;simp only [all,same];have p1:=aFN 4 sd;have p2:=aFN 9 B;refine⟨Jb fun j hj=>trivial,Jb fun j hj=>?_⟩;refine XN hM hy (.own (l:=[pw 4 sd,pw 9 B]) aB (fun i z h=>by rw [dX];exact IZ h) (by rw [oK];simp)) (fun z hz=>?_) (by simp) ?_
 ·rcases cC.1 hz with rfl | hz
  ·unfold FC;omega
  ·rcases cC.1 hz with rfl | hz
   ·unfold FC;omega
   ·cases hz
 ·exact bL (le.trans (.aI hj)) hK
end
inductive NL (S0 S:Hp):V->List Nat->Prop
 | val {O:Tag} {l:List Nat}:NL S0 S (.list O (iV l) l.length) l
 | made {w:V} {l:List Nat} (h:MN S0 S w l):NL S0 S w l
section
variable{S0 S S':Hp}{w v:V}{l:List Nat}{ls:List (List Nat)}
theorem NL.nv (h:NL S0 S w l):NV S w l:=by cases h with | val=>exact .list | made h=>exact h.nv
theorem NL.Cy (h:NL S0 S w l):Dx S0 S w (.list (iV l) l.length):=by cases h with | val=>exact .list | made h=>exact h.Cy
theorem NL.one (h:NL S0 S w l):fV w=true:=by cases h with | val=>rfl | made h=>cases h<;>rfl
theorem NL.but{i:Nat} (h:NL S0 S w l) (hs:∀j o,j≠i->S j=some o->S' j=some o) (h1:∀vs m,S i≠some (.gD vs 22 m)) (h2:∀vs,S i≠some (.row vs 22)):NL S0 S' w l:=by
 cases h with
 | val=>exact .val
 | made h=>
  refine .made ?_;cases h with
  | nil=>exact .nil
  | acc h0 h=>exact .acc h0 (hs _ _ (fun c=>by rw [c]at h;exact h1 _ _ h) h)
  | own h0 h=>exact .own h0 (hs _ _ (fun c=>by rw [c]at h;exact h2 _ h) h)
theorem NL.up (h:NL S0 S w l) (hle:bP S S'):NL S0 S' w l:=by cases h with | val=>exact .val | made h=>exact .made (h.up hle)
inductive ML (S0 S:Hp):V->List (List Nat)->Prop
 | nil:ML S0 S .nil []
 | acc {i:Nat} {vs:List V} {ls:List (List Nat)} (h0:S0 i=none) (h:S i=some (.gD vs 51 ls.length)) (hl:vs.length=ls.length) (hv:∀(j:Nat) (l:List Nat),ls[j]? =some l->∃w,vs[j]? =some w/\NL S0 S w l):ML S0 S (.acc i ls.length) ls
theorem ML.len (h:ML S0 S v ls){K:V->Prop}:bK v K=K (ni ls.length):=by cases h<;>rfl
theorem ML.up (h:ML S0 S v ls) (hle:bP S S'):ML S0 S' v ls:=by
 cases h with
 | nil=>exact .nil
 | acc h0 h hl hv=>exact .acc h0 (hle _ _ h) hl fun j l e=>by obtain⟨w,a,b⟩:=hv j l e;exact⟨w,a,b.up hle⟩
theorem ML.at (h:ML S0 S v ls){i:Nat} (hi:ls[i]? =some l):∃p w,(∀(j:IntKind) (K:V->Prop),cI 1 v (.int j (.ofNat i)) K=K p)/\(∀S',bP S S'->∀K:KV,aU p S' K=K w S')/\NL S0 S w l:=by
 have hlt:i<ls.length:=(dK.1 hi).1;cases h with
 | nil=>cases hi
 | @acc b vs _ h0 h hl hv=>
  obtain⟨w,a,q⟩:=hv i l hi;refine⟨.wM b ls.length (i*1),w,fun j K=>LP hlt,fun S' hle K=>?_,q⟩;rw [jQ];unfold aU;simp only [hle _ _ h,cP a,true_and]
theorem ML.Cy (h:ML S0 S v ls):Dx S0 S v (.list (ls.map fun l=> .list (iV l) l.length) ls.length):=by
 cases h with
 | nil=>exact .nil
 | acc h0 h hl hv=>
  refine .acc h h0 (by rw [hl,mH]) fun j v d a b=>?_;rw [dJ]at b;cases hq:ls[j]? with
  | none=>rw [hq]at b;cases b
  | some l=>
   rw [hq]at b;injection b with b;subst b;obtain⟨w,a2,q⟩:=hv j l hq;rw [a]at a2;injection a2 with a2;subst a2;exact q.Cy
theorem ML.app (h:ML S0 S v ls) (hs:bP S0 S) (hl:ls.length<=1000000) (hw:NL S0 S w l){K:KV}
 (hk:∀u S',bP S0 S'->(∀j o,S j=some o->(∀vs m,o≠ .gD vs 51 m)->S' j=some o)->ML S0 S' u (ls++[l])->fV u=true->K u S'):aP 51 1 cU [(0,1,w)] S fun v2 S=>jY 51 1 24 v v2 S K:=by
 have hc:∀{p:List V->Prop},wN w p=p [w]:=fun {p}=>by
  have:=hw.one;cases w<;>first | rfl | cases this
 have hz:LR cU=some [.nil]:=rfl;unfold aP sC;rw [hz];show iN [(0,1,w)] [.nil] _;unfold iN;rw [hc];refine⟨rfl,by simp,?_⟩;unfold iN;intro j hj;have hj0:S0 j=none:=hs.none hj;have xO:bP S (aJ S j (.row [w] 51)):= .aI hj;show jY 51 1 24 v (.own j 0 1 1) (aJ S j (.row (aY 0 [w] [.nil]) 51)) K;have e:aY 0 [w] [V.nil]=[w]:=rfl;rw [e];refine LQ (m:=1) aB rfl ?_;refine⟨by simp [hw.one],?_⟩;have hwj:=hw.up xO;cases h with
 | nil=>
  refine⟨by decide,fun i hi=>?_⟩;have uR:bP (aJ S j (.row [w] 51)) (aJ (aJ S j (.row [w] 51)) i (.gD [w] 51 1)):= .aI hi;refine hk _ _ ((hs.trans xO).trans uR) (fun q o e _=>uR _ _ (xO _ _ e)) (.acc (ls:=[l]) ((hs.trans xO).none hi) aB rfl fun q l' e=>?_) rfl
  match q,e with
  | 0,e=>injection e with e;subst e;exact⟨w,rfl,hwj.up uR⟩
  | q+1,e=>cases e
 | @acc i vs _ h0 h FF hv=>
  have oX:j≠i:=fun e=>by rw [e,h]at hj;cases hj
  have h':aJ S j (.row [w] 51) i=some (.gD vs 51 ls.length):=by rw [aC (aN oX)];exact h
  simp only [h'];refine⟨trivial,trivial,by omega,by omega,?_⟩;have el:ls.length+(0+1)=(ls++[l]).length:=by simp
  rw [el];have uR:∀q o,q≠i->S q=some o->aJ (aJ S j (.row [w] 51)) i (.gD (vs++[w]) 51 (ls++[l]).length) q=some o:=fun q o hq e=>by rw [aC hq];exact xO _ _ e
  have hn1:∀vs m,S i≠some (.gD vs 22 m):=fun vs m c=>by rw [h]at c;cases c
  have hn2:∀vs,S i≠some (.row vs 22):=fun vs c=>by rw [h]at c;cases c
  refine hk _ _ (fun q o e=>uR q o (fun c=>by rw [c,h0]at e;cases e) (hs _ _ e)) (fun q o e xP=>uR q o (fun c=>by rw [c,h]at e;injection e with e;exact xP _ _ e.symm) e) (.acc h0 aB (by simp [FF]) fun q l' e=>?_) rfl;rcases BO q ls.length with hq | hq
  ·rw [gV hq]at e
   obtain⟨u,a,b⟩:=hv q l' e;exact⟨u,by rw [gV (by omega)];exact a,b.but uR hn1 hn2⟩
  ·have hq':q=ls.length:=by
    have:=(dK.1 e).1;simp at this;omega
   subst hq';simp at e;subst e;exact⟨w,by rw [kQ (by omega),FF];simp,hw.but uR hn1 hn2⟩
end
end Go.Am
namespace Go.Am
theorem NL.same{S0 S:Hp}{v:V}{l:List Nat} (h:NL S0 S v l):BY v=true:=by
 cases h with
 | val=>rfl
 | made h=>cases h<;>rfl
theorem ML.same{S0 S:Hp}{v:V}{l:List (List Nat)} (h:ML S0 S v l):BY v=true:=by cases h<;>rfl
theorem ML.one{S0 S:Hp}{v:V}{l:List (List Nat)} (h:ML S0 S v l):fV v=true:=by cases h<;>rfl
inductive RL (S0 S:Hp):V->List (List Nat)->Prop
 | ml {v:V} {ls:List (List Nat)} (h:ML S0 S v ls):RL S0 S v ls
 | val {t:Tag} {ls:List (List Nat)}:RL S0 S (.list t (ls.map fun l=> .list (iV l) l.length) ls.length) ls
theorem RL.same{S0 S:Hp}{v:V}{l:List (List Nat)} (h:RL S0 S v l):BY v=true:=by cases h with | ml h=>exact h.same | val=>rfl
theorem RL.one{S0 S:Hp}{v:V}{l:List (List Nat)} (h:RL S0 S v l):fV v=true:=by cases h with | ml h=>exact h.one | val=>rfl
theorem RL.len{S0 S:Hp}{v:V}{l:List (List Nat)} (h:RL S0 S v l){K:V->Prop}:bK v K=K (ni l.length):=by cases h with | ml h=>exact h.len | val=>rfl
theorem RL.up{S0 S S':Hp}{v:V}{l:List (List Nat)} (h:RL S0 S v l) (hle:bP S S'):RL S0 S' v l:=by cases h with | ml h=>exact .ml (h.up hle) | val=>exact .val
theorem RL.at{S0 S:Hp}{v:V}{ls:List (List Nat)}{l:List Nat} (h:RL S0 S v ls){i:Nat} (hi:ls[i]? =some l):∃p w,(∀(j:IntKind) (K:V->Prop),cI 1 v (.int j (.ofNat i)) K=K p)/\(∀S',bP S S'->∀K:KV,aU p S' K=K w S')/\NL S0 S w l:=by
 cases h with
 | ml h=>exact h.at hi
 | @val t _=>
  have hlt:i<ls.length:=(dK.1 hi).1;refine⟨.nU t (ls.map fun l=> .list (iV l) l.length) (i*1),.list (.sub t (i*1)) (iV l) l.length,fun j K=>gW hlt,fun S' hle K=>?_,.val⟩;rw [jQ,tX];have e:(ls.map fun l=>Dt.list (iV l) l.length)[i]? =some (.list (iV l) l.length):=by rw [dJ,hi];rfl
  rw [cP e];rfl
theorem MN.base{S0 S1 S:Hp}{w:V}{l:List Nat} (h:MN S1 S w l) (hle:bP S0 S1):MN S0 S w l:=by
 cases h with
 | nil=>exact .nil
 | acc h0 h=>exact .acc (hle.none h0) h
 | own h0 h=>exact .own (hle.none h0) h
theorem MN.same{S0 S:Hp}{w:V}{l:List Nat} (h:MN S0 S w l):BY w=true:=by cases h<;>rfl
theorem MN.one{S0 S:Hp}{w:V}{l:List Nat} (h:MN S0 S w l):fV w=true:=by cases h<;>rfl
theorem ZY{t:TypeId}{v:V}{S:Hp}{K:KV} (h1:fV v=true) (hk:∀i,S i=none->K (.ptr i 0) (aJ S i (.row [v] t))):iE t v S K:=by
 unfold iE;have hc:∀{p:List V->Prop},wN v p=p [v]:=fun {p}=>by cases v<;>first | rfl | cases h1
 rw [hc];exact hk
theorem aDZ{a:Nat}{K:V->Prop}:Dc true (ni a) (ni a) K=K (ni a):=by
 show K (.int .i64 (max (Int.ofNat a) (Int.ofNat a)))=_;rw [Int.max_self]
section
variable{M n:Nat}{x:VE}{S S0:Hp}{K:KV}
theorem aNQ (hx:Deep PP bI gM M (n+1) x){v:V}{l:List Nat} (h:NV S v l){i:Nat} (hi:i<l.length) (hK:K (nu l[i]) S):x.call sD [v,ni i] S K:=by
 refine hx.call rfl fun y hy=>?_;rw [XP];unfold IB;obtain⟨p,hp,RK⟩:=h.at (i:=i) (aQ hi);rw [h.len,zW,bN (by omega),bC,hp,RK S (.refl S)];exact aL hK
theorem aNR (hx:Deep PP bI gM M (n+1) x){v:V}{ls:List (List Nat)} (h:RL S0 S v ls){i:Nat} (hi:i<ls.length) (hK:∀w,NL S0 S w ls[i]->K w S):x.call mP [v,ni i] S K:=by
 refine hx.call rfl fun y hy=>?_;rw [NB];unfold zK;obtain⟨p,w,hp,RK,hw⟩:=h.at (i:=i) (aQ hi);rw [h.len,zW,bN (by omega),bC,hp,RK S (.refl S)];exact aL (hK w hw)
theorem aJw (hx:Deep PP bI gM M (n+1) x){v w:V} (h1:fV v=true) (h2:fV w=true) (hK:∀b1 b2 S',S b1=none->S b2=none->b1≠b2->bP S S'->S' b1=some (.row [v] 51)->S' b2=some (.row [w] 51)->K (.func jP [] [.ptr b1 0,.ptr b2 0]) S'):x.call uB [v,w] S K:=by
 refine hx.call rfl fun y hy=>?_;rw [QO];unfold CW;refine ZY h1 fun b1 Dv=>ZY h2 fun b2 NN=>aL ?_;have dH:bP S (aJ S b1 (.row [v] 51)):= .aI Dv;have oX:b1≠b2:=fun e=>by rw [<-e,aB]at NN;cases NN
 exact hK b1 b2 _ Dv (dH.none NN) oX (dH.trans (.aI NN)) (by rw [aC oX];exact aB) aB
theorem aJx (hx:Deep PP bI gM M (n+1) x){v w:V} (h1:fV v=true) (h2:fV w=true) (hK:∀b1 b2 S',S b1=none->S b2=none->b1≠b2->bP S S'->S' b1=some (.row [v] 33)->S' b2=some (.row [w] 33)->K (.func fQ [] [.ptr b1 0,.ptr b2 0]) S'):x.call oO [v,w] S K:=by
 refine hx.call rfl fun y hy=>?_;rw [JC];unfold wD;refine ZY h1 fun b1 Dv=>ZY h2 fun b2 NN=>aL ?_;have dH:bP S (aJ S b1 (.row [v] 33)):= .aI Dv;have oX:b1≠b2:=fun e=>by rw [<-e,aB]at NN;cases NN
 exact hK b1 b2 _ Dv (dH.none NN) oX (dH.trans (.aI NN)) (by rw [aC oX];exact aB) aB
theorem aJy (hM:1000000<M) (hx:Deep PP bI gM M (n+3) x){l b1 b2:Nat}{va vb:V}{a b:List Nat} (hlen:b.length=a.length) (hl:a.length<1000000){Inv:Nat->Hp->Prop} (hI:∀i S,Inv i S->S b1=some (.row [va] 51)/\S b2=some (.row [vb] 51)/\NV S va a/\NV S vb b) (hv:BY vb=true)
 (step:∀(y:VE),Deep PP bI gM M (n+2) y->∀(i:Nat) (S:Hp) (h1:i<a.length) (h2:i<b.length) (K:KV),Inv i S->(∀S',Inv (i+1) S'->K (.bool true) S')->y.R l [nu a[i],nu b[i]] S K) (h0:Inv 0 S) (hK:∀S,Inv a.length S->K (.tuple []) S):x.call jP [.yield l,.ptr b1 0,.ptr b2 0] S K:=by
 refine hx.call rfl fun y hy=>?_;rw [NC];unfold zM;obtain⟨q1,q2,q3,q4⟩:=hI 0 S h0;rw [cW q1 rfl,q3.len,cW q2 rfl,q4.len,hlen,aDZ,hy.most]
 have:∀(r i m:Nat) (S:Hp),i+r=a.length->r<m->Inv i S->kN y m (.yield l) (.ptr b1 0) (.ptr b2 0) (ni a.length) (ni i) S K:=by
  intro r;induction r with
  | zero=>
   intro i m S hi hm h;obtain⟨m,rfl⟩:=bG (show m≠0 by omega);rw [uZ];unfold nV;refine aE ?_;rw [aO,jO (by omega),bC];have e:i=a.length:=by omega
   subst e;exact aL (hK S h)
  | succ r ih=>
   intro i m S hi hm h;obtain⟨m,rfl⟩:=bG (show m≠0 by omega);rw [uZ];unfold nV;refine aE ?_;obtain⟨q1,q2,q3,q4⟩:=hI i S h;rw [aO,yQ (by omega),bR,cW q1 rfl,cW q2 rfl];refine aNQ hy q3 (show i<a.length by omega) ?_;rw [cW q2 rfl,cK hv];refine aNQ hy q4 (show i<b.length by omega) ?_;refine step y hy i S _ _ _ h fun S' h'=>?_;rw [lR,eQ,bC,bD (by omega)];exact ih (i+1) m S' (by omega) (by omega) h'
 exact this a.length 0 M S (by omega) (by omega) h0
theorem aJz (hM:1000000<M) (hx:Deep PP bI gM M (n+3) x){l b1 b2:Nat}{va vb:V}{a b:List (List Nat)} (hlen:b.length=a.length) (hl:a.length<1000000){Inv:Nat->Hp->Prop}{Oa:Hp} (hI:∀i S,Inv i S->S b1=some (.row [va] 33)/\S b2=some (.row [vb] 33)/\RL Oa S va a/\RL Oa S vb b)
 (step:∀(y:VE),Deep PP bI gM M (n+2) y->∀(i:Nat) (S:Hp) (h1:i<a.length) (h2:i<b.length) (u w:V) (K:KV),Inv i S->NL Oa S u a[i]->NL Oa S w b[i]->(∀S',Inv (i+1) S'->K (.bool true) S')->y.R l [u,w] S K) (h0:Inv 0 S) (hK:∀S,Inv a.length S->K (.tuple []) S):x.call fQ [.yield l,.ptr b1 0,.ptr b2 0] S K:=by
 refine hx.call rfl fun y hy=>?_;rw [GO];unfold uC;obtain⟨q1,q2,q3,q4⟩:=hI 0 S h0;rw [cW q1 rfl,q3.len,cW q2 rfl,q4.len,hlen,aDZ,hy.most]
 have:∀(r i m:Nat) (S:Hp),i+r=a.length->r<m->Inv i S->iC y m (.yield l) (.ptr b1 0) (.ptr b2 0) (ni a.length) (ni i) S K:=by
  intro r;induction r with
  | zero=>
   intro i m S hi hm h;obtain⟨m,rfl⟩:=bG (show m≠0 by omega);rw [qC];unfold kT;refine aE ?_;rw [aO,jO (by omega),bC];have e:i=a.length:=by omega
   subst e;exact aL (hK S h)
  | succ r ih=>
   intro i m S hi hm h;obtain⟨m,rfl⟩:=bG (show m≠0 by omega);rw [qC];unfold kT;refine aE ?_;obtain⟨q1,q2,q3,q4⟩:=hI i S h;rw [aO,yQ (by omega),bR,cW q1 rfl,cW q2 rfl];refine aNR hy q3 (show i<a.length by omega) fun u hu=>?_;rw [cW q2 rfl,cK q4.same];refine aNR hy q4 (show i<b.length by omega) fun w hw=>?_;refine step y hy i S (by omega) (by omega) u w _ h hu hw fun S' h'=>?_;rw [lR,eQ,bC,bD (by omega)];exact ih (i+1) m S' (by omega) (by omega) h'
 exact this a.length 0 M S (by omega) (by omega) h0
end
def sX (f r:List Nat):List Nat:=List.zipWith Nl f r
def dY (fs rs:List (List Nat)):List (List Nat):=List.zipWith sX fs rs
section
variable{M n:Nat}{x:VE}{S S0:Hp}{K:KV}{two:Bool}
def loO (a b:Nat) (st:LoopState):Ob:= .loop [3,7] [.ptr a 0,.ptr b 0] 36 (EE PP aR [.r,.r,.l,.r,.d]) (EG PP aR [.r,.r,.l,.r,.d]) (yX PP aR [.r,.r,.l,.r,.d]) st none
def loI (a b:Nat) (st:LoopState):Ob:= .loop [3,10] [.ptr a 0,.ptr b 0] 36 (EE PP aR [.r,.r,.l,.r,.d,.d,.d,.r,.l,.r,.d]) (EG PP aR [.r,.r,.l,.r,.d,.d,.d,.r,.l,.r,.d]) (yX PP aR [.r,.r,.l,.r,.d,.d,.d,.r,.l,.r,.d]) st none
theorem FI{S1 S:Hp}{i:Nat}{o:Ob} (h:bP S1 S) (h0:S1 i=none):bP S1 (aJ S i o):=fun q p e=>by rw [aC (fun c=>by rw [c,h0]at e;cases e)];exact h q p e
structure aMy (S1:Hp) (bv l2 b3 b4 bp:Nat) (fa fb:V) (f r:List Nat) (i:Nat) (S:Hp):Prop where
 le:bP S1 S
 n1:S1 bv=none
 n2:S1 l2=none
 u:∃u,S bv=some (.row [u] 51)/\MN S1 S u ((sX f r).take i)
 lo:S l2=some (loI bp bv .ready)
 r3:S b3=some (.row [fa] 51)
 r4:S b4=some (.row [fb] 51)
 d1:bv≠l2
 d2:bv≠b3
 d3:bv≠b4
 d4:l2≠b3
 d5:l2≠b4
theorem MN.set{S1 S:Hp}{u:V}{l:List Nat} (h:MN S1 S u l){i:Nat}{o p:Ob} (hi:S i=some p) (h1:∀vs m,p≠ .gD vs 22 m) (h2:∀vs,p≠ .row vs 22):MN S1 (aJ S i o) u l:=by
 cases h with
 | nil=>exact .nil
 | acc h0 h=>exact .acc h0 (by rw [aC (fun c=>by rw [c,hi]at h;injection h with h;exact h1 _ _ h)];exact h)
 | own h0 h=>exact .own h0 (by rw [aC (fun c=>by rw [c,hi]at h;injection h with h;exact h2 _ h)];exact h)
theorem aB7{f r:List Nat}{i:Nat} (h1:i<f.length) (h2:i<r.length):(sX f r).take (i+1)=(sX f r).take i++[Nl f[i] r[i]]:=by
 have hl:i<(List.zipWith Nl f r).length:=by rw [rG];omega
 show(List.zipWith Nl f r).take (i+1)=(List.zipWith Nl f r).take i++[Nl f[i] r[i]];rw [KT,aQ hl,Oc];rfl
theorem aD0 (hM:1000000<M) (hx:Deep PP bI gM M (n+5) x){S1:Hp}{bv l2 b3 b4 bp:Nat}{fa fb:V}{f r:List Nat} (hf:LS f) (hr:LS r) (RY:f.length<100000) (Qu:S1 bp=some (.row (pv two) 29)){i:Nat}{S:Hp} (h1:i<f.length) (h2:i<r.length){K:KV} (h:aMy S1 bv l2 b3 b4 bp fa fb f r i S)
 (hK:∀S',aMy S1 bv l2 b3 b4 bp fa fb f r (i+1) S'->K (.bool true) S'):x.R l2 [nu f[i],nu r[i]] S K:=by
 refine hx.round fun y hy=>?_;refine QP (st:= .ready) (pe:=none) h.lo KI ?_;rw [KJ];unfold wE;refine XQ h.lo ?_;obtain⟨u,hu,mu⟩:=h.u;have hbz:aJ S l2 (.loop [3,10] [.ptr bp 0,.ptr bv 0] 36 (EE PP aR [.r,.r,.l,.r,.d,.d,.d,.r,.l,.r,.d]) (EG PP aR [.r,.r,.l,.r,.d,.d,.d,.r,.l,.r,.d]) (yX PP aR [.r,.r,.l,.r,.d,.d,.d,.r,.l,.r,.d]) .busy none)=aJ S l2 (loI bp bv .busy):=rfl;rw [hbz];have k1:bP S1 (aJ S l2 (loI bp bv .busy)):=FI h.le h.n2;have kl:aJ S l2 (loI bp bv .busy) l2=some (loI bp bv .busy):=aB;have ku:aJ S l2 (loI bp bv .busy) bv=some (.row [u] 51):=by rw [aC h.d1];exact hu
 have k3:aJ S l2 (loI bp bv .busy) b3=some (.row [fa] 51):=by rw [aC (aN h.d4)];exact h.r3
 have k4:aJ S l2 (loI bp bv .busy) b4=some (.row [fb] 51):=by rw [aC (aN h.d5)];exact h.r4
 have km:MN S1 (aJ S l2 (loI bp bv .busy)) u ((sX f r).take i):=mu.set h.lo (fun vs m e=>by cases e) (fun vs e=>by cases e);generalize aJ S l2 (loI bp bv .busy)=S2 at k1 kl ku k3 k4 km;have rb:=k1 _ _ Qu
 have all:∀{K:KV},bJ 12 (.ptr bp 0) S2 K=K (.agg (pv two)) S2:=fun {K}=>by
  unfold bJ;simp only [rb];rw [dG (by rw [BZ];omega),xS,mF (by rw [BZ];omega)]
 have lu:∀{K:KV},aU (.ptr bv 0) S2 K=K u S2:=cW ku rfl;have su:∀{p:Prop},aW u u p=p:=fun {p}=>cK km.same
 have b1:cF GK [(0,1,nu f[i]),(1,1,nu r[i])]=fun K:V->Prop=>K (.agg [nu f[i],nu r[i]]):=by
  funext K
  apply propext;constructor
  ·intro hv;exact hv.2.2.2.2
  ·intro hv;exact⟨rfl,by simp,rfl,by simp [aY],hv⟩
 rw [lu,all,b1];refine aJv hM hy (hf _ (cJ h1)) (hr _ (cJ h2)) ?_;simp only [lu,su];refine⟨⟨rfl,by simp,fun j hj=>trivial⟩,?_⟩;refine km.app k1 (by rw [mG];omega) fun w S3 l3 p3 m3=>?_;rw [<-aB7 h1 h2]at m3;have q:∀{j:Nat} {ob:Ob},S2 j=some ob->(∀vs m,ob≠ .gD vs 22 m)->S3 j=some ob:=fun e xP=>p3 _ _ e xP;have u3:=q ku (fun vs m e=>by cases e);rw [EC u3 (by simp) m3.one];have l4:aJ S3 bv (.row ([u].set 0 w) 51) l2=some (loI bp bv .busy):=by rw [aC (aN h.d1)];exact q kl (fun vs m e=>by cases e)
 refine XR l4 (hK _ ⟨FI (FI l3 h.n1) h.n2,h.n1,h.n2,⟨w,by rw [aC h.d1];exact aB,?_⟩,aB,?_,?_,h.d1,h.d2,h.d3,h.d4,h.d5⟩)
 ·exact(m3.set u3 (fun vs m e=>by cases e) (fun vs e=>by cases e)).set l4 (fun vs m e=>by cases e) (fun vs e=>by cases e)
 ·rw [aC (aN h.d4),aC (aN h.d2)];exact q k3 (fun vs m e=>by cases e)
 ·rw [aC (aN h.d5),aC (aN h.d3)];exact q k4 (fun vs m e=>by cases e)
end
theorem NL.set{S1 S:Hp}{u:V}{l:List Nat} (h:NL S1 S u l){i:Nat}{o p:Ob} (hi:S i=some p) (h1:∀vs m,p≠ .gD vs 22 m) (h2:∀vs,p≠ .row vs 22):NL S1 (aJ S i o) u l:=by
 cases h with
 | val=>exact .val
 | made h=>exact .made (h.set hi h1 h2)
theorem ML.set{S1 S:Hp}{u:V}{l:List (List Nat)} (h:ML S1 S u l){i:Nat}{o p:Ob} (hi:S i=some p) (h0:∀vs m,p≠ .gD vs 51 m) (h1:∀vs m,p≠ .gD vs 22 m) (h2:∀vs,p≠ .row vs 22):ML S1 (aJ S i o) u l:=by
 cases h with
 | nil=>exact .nil
 | acc q0 q hl hv=>exact .acc q0 (by rw [aC (fun c=>by rw [c,hi]at q;injection q with q;exact h0 _ _ q)];exact q) hl fun j l e=>by obtain⟨w,a,b⟩:=hv j l e;exact⟨w,a,b.set hi h1 h2⟩
section
variable{M n:Nat}{x:VE}{K:KV}{two:Bool}
structure aMz (SA:Hp) (bp bo b1 b2 l:Nat) (two:Bool) (vf vr:V) (fs rs:List (List Nat)) (i:Nat) (S:Hp):Prop where
 le:bP SA S
 n1:SA bo=none
 n2:SA l=none
 rp:S bp=some (.row (pv two) 29)
 u:∃u,S bo=some (.row [u] 33)/\ML SA S u ((dY fs rs).take i)
 lo:S l=some (loO bp bo .ready)
 r1:S b1=some (.row [vf] 33)
 r2:S b2=some (.row [vr] 33)
 d1:bo≠l
 d2:bo≠b1
 d3:bo≠b2
 d4:l≠b1
 d5:l≠b2
 d6:bo≠bp
 d7:l≠bp
theorem aD1{f r:List (List Nat)}{i:Nat} (h1:i<f.length) (h2:i<r.length):(dY f r).take (i+1)=(dY f r).take i++[sX f[i] r[i]]:=by
 have hl:i<(List.zipWith sX f r).length:=by rw [rG];omega
 show(List.zipWith sX f r).take (i+1)=(List.zipWith sX f r).take i++[sX f[i] r[i]];rw [KT,aQ hl,Oc];rfl
theorem gF{S:Hp}{i j:Nat}{o:Ob} (h1:S i=none) (h2:S j=some o):i≠j:=fun e=>by rw [e,h2]at h1;cases h1
theorem aD2 (hM:1000000<M) (hx:Deep PP bI gM M (n+10) x){SA O:Hp}{bp bo b1 b2 l:Nat}{vf vr:V}{fs rs:List (List Nat)} (hf:∀q∈fs,LS q) (hr:∀q∈rs,LS q) (RY:∀q∈fs,q.length<100000) (RO:fs.length<100000){i:Nat}{S:Hp} (h1:i<fs.length) (h2:i<rs.length) (heq:rs[i].length=fs[i].length){u w:V}{K:KV}
 (h:aMz SA bp bo b1 b2 l two vf vr fs rs i S) (hu:NL O S u fs[i]) (hw:NL O S w rs[i]) (hK:∀S',aMz SA bp bo b1 b2 l two vf vr fs rs (i+1) S'->K (.bool true) S'):x.R l [u,w] S K:=by
 have f64:=hf _ (cJ h1);have r64:=hr _ (cJ h2);have fl:=RY _ (cJ h1);refine hx.round fun y hy=>?_;refine QP (st:= .ready) (pe:=none) h.lo VL ?_;rw [VM];unfold EH;refine XQ h.lo ?_;obtain⟨v,hv,mv⟩:=h.u;have hbz:aJ S l (.loop [3,7] [.ptr bp 0,.ptr bo 0] 36 (EE PP aR [.r,.r,.l,.r,.d]) (EG PP aR [.r,.r,.l,.r,.d]) (yX PP aR [.r,.r,.l,.r,.d]) .busy none)=aJ S l (loO bp bo .busy):=rfl;rw [hbz];have k1:bP SA (aJ S l (loO bp bo .busy)):=FI h.le h.n2;have kl:aJ S l (loO bp bo .busy) l=some (loO bp bo .busy):=aB;have ko:aJ S l (loO bp bo .busy) bo=some (.row [v] 33):=by rw [aC h.d1];exact hv
 have kp:aJ S l (loO bp bo .busy) bp=some (.row (pv two) 29):=by rw [aC (aN h.d7)];exact h.rp
 have k3:aJ S l (loO bp bo .busy) b1=some (.row [vf] 33):=by rw [aC (aN h.d4)];exact h.r1
 have k4:aJ S l (loO bp bo .busy) b2=some (.row [vr] 33):=by rw [aC (aN h.d5)];exact h.r2
 have km:ML SA (aJ S l (loO bp bo .busy)) v ((dY fs rs).take i):=mv.set h.lo (fun vs m e=>by cases e) (fun vs m e=>by cases e) (fun vs e=>by cases e);have hu:=hu.set (o:=loO bp bo .busy) h.lo (fun vs m e=>by cases e) (fun vs e=>by cases e);have hw:=hw.set (o:=loO bp bo .busy) h.lo (fun vs m e=>by cases e) (fun vs e=>by cases e);generalize aJ S l (loO bp bo .busy)=S1 at k1 kl ko kp k3 k4 km hu hw;refine cB rfl fun bv hbv=>?_;have fF:bP S1 (aJ S1 bv (.row [.nil] 51)):= .aI hbv;have rv:aJ S1 bv (.row [.nil] 51) bv=some (.row [.nil] 51):=aB;generalize aJ S1 bv (.row [.nil] 51)=S2 at fF rv;have hu2:=hu.up fF;have hw2:=hw.up fF;refine aJw hy hu2.one hw2.one fun b3 b4 S3 n3 n4 d34 pK r3 r4=>?_;have aO9:=fF.trans pK;have l3:S3 l=some (loO bp bo .busy):=aO9 _ _ kl;have inl:∀{p:Prop},SY l S3 p=p:=fun {p}=>by unfold SY;rw [l3];rfl
 rw [inl];refine QQ fun l2 FF=>?_;have rv3:=pK _ _ rv;have hlo:aJ S3 l2 (.loop [3,10] [.ptr bp 0,.ptr bv 0] 36 (EE PP aR [.r,.r,.l,.r,.d,.d,.d,.r,.l,.r,.d]) (EG PP aR [.r,.r,.l,.r,.d,.d,.d,.r,.l,.r,.d]) (yX PP aR [.r,.r,.l,.r,.d,.d,.d,.r,.l,.r,.d]) .ready none)=aJ S3 l2 (loI bp bv .ready):=rfl;rw [hlo]
 have q0:aMy S1 bv l2 b3 b4 bp u w fs[i] rs[i] 0 (aJ S3 l2 (loI bp bv .ready)):=
  ⟨aO9.trans (.aI FF),hbv,aO9.none FF,⟨.nil,by rw [aC (aN (gF FF rv3))];exact rv3,.nil⟩,aB,by rw [aC (aN (gF FF r3))];exact r3,by rw [aC (aN (gF FF r4))];exact r4,
   aN (gF FF rv3),aN (gF n3 rv),aN (gF n4 rv),gF FF r3,gF FF r4⟩
 refine aJy (n:=n+6) hM hy heq (by omega) (Inv:=aMy S1 bv l2 b3 b4 bp u w fs[i] rs[i]) (fun j S q=>⟨q.r3,q.r4,(hu.up q.le).nv,(hw.up q.le).nv⟩) hw.same (fun z hz j S a b K q hk=>aD0 (n:=n+3) (two:=two) hM hz f64 r64 fl kp a b q hk) q0 fun S4 q4=>?_;obtain⟨u4,ru4,m4⟩:=q4.u;have aQ5:(sX fs[i] rs[i]).length=fs[i].length:=by unfold sX;rw [rG];omega
 rw [mF (by omega)]at m4;refine XS q4.lo (by simp) ?_;rw [Fy];have hex:∃ob,(∀vs m,ob≠ .gD vs 22 m)/\aJ S4 l2 (.loop [3,10] [.ptr bp 0,.ptr bv 0] 36 (EE PP aR [.r,.r,.l,.r,.d,.d,.d,.r,.l,.r,.d]) (EG PP aR [.r,.r,.l,.r,.d,.d,.d,.r,.l,.r,.d]) (yX PP aR [.r,.r,.l,.r,.d,.d,.d,.r,.l,.r,.d]) .exhausted none)=aJ S4 l2 ob:=⟨_,fun vs m e=>(by cases e),rfl⟩;obtain⟨ob,_,hex⟩:=hex;rw [hex];have FK:bP S1 (aJ S4 l2 ob):=FI q4.le q4.n2;have ru5:aJ S4 l2 ob bv=some (.row [u4] 51):=by rw [aC q4.d1];exact ru4
 have m5:MN S1 (aJ S4 l2 ob) u4 (sX fs[i] rs[i]):=m4.set q4.lo (fun vs m e=>by cases e) (fun vs e=>by cases e);generalize aJ S4 l2 ob=S5 at FK ru5 m5;rw [cW (FK _ _ ko) rfl,cW ru5 rfl];refine(km.up FK).app (k1.trans FK) (by rw [mG];omega) (.made (m5.base k1)) fun u6 S6 VP p6 m6 o6=>?_;rw [<-aD1 h1 h2]at m6;have q:∀{j:Nat} {o:Ob},S5 j=some o->(∀vs m,o≠ .gD vs 51 m)->S6 j=some o:=fun e xP=>p6 _ _ e xP;have o6':=q (FK _ _ ko) (fun vs m e=>by cases e);have l6:=q (FK _ _ kl) (fun vs m e=>by cases e);rw [EC o6' (by simp) o6];have l7:aJ S6 bo (.row ([v].set 0 u6) 33) l=some (loO bp bo .busy):=by rw [aC (aN h.d1)];exact l6
 refine XR l7 (hK _ ⟨FI (FI VP h.n1) h.n2,h.n1,h.n2,?_,⟨u6,by rw [aC h.d1];exact aB,?_⟩,aB,?_,?_,h.d1,h.d2,h.d3,h.d4,h.d5,h.d6,h.d7⟩)
 ·rw [aC (aN h.d7),aC (aN h.d6)];exact q (FK _ _ kp) (fun vs m e=>by cases e)
 ·exact(m6.set o6' (fun vs m e=>by cases e) (fun vs m e=>by cases e) (fun vs e=>by cases e)).set l7 (fun vs m e=>by cases e) (fun vs m e=>by cases e) (fun vs e=>by cases e)
 ·rw [aC (aN h.d4),aC (aN h.d2)];exact q (FK _ _ k3) (fun vs m e=>by cases e)
 ·rw [aC (aN h.d5),aC (aN h.d3)];exact q (FK _ _ k4) (fun vs m e=>by cases e)
theorem aJA (hM:1000000<M) (hx:Deep PP bI gM M (n+15) x){SA O:Hp}{vf vr:V}{fs rs:List (List Nat)} (hf:∀q∈fs,LS q) (hr:∀q∈rs,LS q) (RY:∀q∈fs,q.length<100000) (RO:fs.length<100000) (hlen:rs.length=fs.length) (heq:∀i (h1:i<fs.length) (h2:i<rs.length),rs[i].length=fs[i].length)
 (mf:RL O SA vf fs) (mr:RL O SA vr rs) (hK:∀u S',bP SA S'->ML SA S' u (dY fs rs)->bE u S' K):x.call aR [.agg (pv two),vf,vr] SA K:=by
 refine hx.call rfl fun y hy=>?_;rw [Ls];unfold UF;refine bX kC fun bp Qu=>?_;have dH:bP SA (aJ SA bp (.row (pv two) 29)):= .aI Qu;have rp:aJ SA bp (.row (pv two) 29) bp=some (.row (pv two) 29):=aB;generalize aJ SA bp (.row (pv two) 29)=S1 at dH rp;refine cB rfl fun bo hbo=>?_;have fF:bP S1 (aJ S1 bo (.row [.nil] 33)):= .aI hbo;have ro:aJ S1 bo (.row [.nil] 33) bo=some (.row [.nil] 33):=aB;generalize aJ S1 bo (.row [.nil] 33)=S2 at fF ro;refine aJx hy mf.one mr.one fun b1 b2 S3 n1 n2 d12 pK r1 r2=>?_;refine QQ fun l hl=>?_;have hlo:aJ S3 l (.loop [3,7] [.ptr bp 0,.ptr bo 0] 36 (EE PP aR [.r,.r,.l,.r,.d]) (EG PP aR [.r,.r,.l,.r,.d]) (yX PP aR [.r,.r,.l,.r,.d]) .ready none)=aJ S3 l (loO bp bo .ready):=rfl;rw [hlo];have ro3:=pK _ _ ro;have Lt:=pK _ _ (fF _ _ rp);have DC:=(dH.trans fF).trans pK
 have q0:aMz SA bp bo b1 b2 l two vf vr fs rs 0 (aJ S3 l (loO bp bo .ready)):=
  ⟨DC.trans (.aI hl),dH.none hbo,DC.none hl,by rw [aC (aN (gF hl Lt))];exact Lt,⟨.nil,by rw [aC (aN (gF hl ro3))];exact ro3,.nil⟩,aB,by rw [aC (aN (gF hl r1))];exact r1,by rw [aC (aN (gF hl r2))];exact r2,
   aN (gF hl ro3),aN (gF n1 ro),aN (gF n2 ro),gF hl r1,gF hl r2,gF hbo rp,gF hl Lt⟩
 refine aJz (n:=n+11) hM hy hlen (by omega) (Inv:=aMz SA bp bo b1 b2 l two vf vr fs rs) (Oa:=O) (fun j S q=>⟨q.r1,q.r2,mf.up q.le,mr.up q.le⟩) (fun z hz j S a b u w K q hu hw hk=>aD2 (n:=n+3) hM hz hf hr RY RO a b (heq j a b) q hu hw hk) q0 fun S4 q4=>?_;obtain⟨u4,ru4,m4⟩:=q4.u;have aQ5:(dY fs rs).length=fs.length:=by unfold dY;rw [rG];omega
 rw [mF (by omega)]at m4;refine XS q4.lo (by simp) ?_;rw [Fy];obtain⟨ob,hex⟩:∃ob,aJ S4 l (.loop [3,7] [.ptr bp 0,.ptr bo 0] 36 (EE PP aR [.r,.r,.l,.r,.d]) (EG PP aR [.r,.r,.l,.r,.d]) (yX PP aR [.r,.r,.l,.r,.d]) .exhausted none)=aJ S4 l ob:=⟨_,rfl⟩;rw [hex];have FK:bP SA (aJ S4 l ob):=FI q4.le q4.n2;have ru5:aJ S4 l ob bo=some (.row [u4] 33):=by rw [aC q4.d1];exact ru4
 have m5:ML SA (aJ S4 l ob) u4 (dY fs rs):=m4.set q4.lo (fun vs m e=>by cases e) (fun vs m e=>by cases e) (fun vs e=>by cases e);rw [cW ru5 rfl];exact hK u4 _ FK m5
theorem aO6 (hM:1000000<M) (hx:Deep PP bI gM M (n+15) x){SA O:Hp}{vf vr:V}{fs rs:List (List Nat)} (hf:∀q∈fs,LS q) (hr:∀q∈rs,LS q) (RY:∀q∈fs,q.length<100000) (RO:fs.length<100000) (hlen:rs.length=fs.length) (heq:∀i (h1:i<fs.length) (h2:i<rs.length),rs[i].length=fs[i].length)
 (mf:ML O SA vf fs) (mr:ML O SA vr rs) (hK:∀u S',bP SA S'->ML SA S' u (dY fs rs)->K u S'):x.call aR [.agg (pv two),vf,vr] SA K:=
 aJA hM hx hf hr RY RO hlen heq (.ml mf) (.ml mr) fun u S' h m=>aL (hK u S' h m)
theorem aMA (hM:1000000<M) (hx:Deep PP bI gM M (n+15) x){SA O:Hp}{vf vr:V}{fs rs:List (List Nat)} (hf:∀q∈fs,LS q) (hr:∀q∈rs,LS q) (RY:∀q∈fs,q.length<100000) (RO:fs.length<100000) (hlen:rs.length=fs.length) (heq:∀i (h1:i<fs.length) (h2:i<rs.length),rs[i].length=fs[i].length)
 (mf:RL O SA vf fs) (mr:RL O SA vr rs) (hK:∀t,K (.list t ((dY fs rs).map fun l=> .list (iV l) l.length) (dY fs rs).length) SA):x.call aR [.agg (pv two),vf,vr] SA K:=
 aJA hM hx hf hr RY RO hlen heq mf mr fun u S' h m=>gX h m.Cy hK
end
end Go.Am
namespace Go.Am
open Go.Mq
theorem MN.but{S1 S S':Hp}{u:V}{l:List Nat}{t:Nat} (h:MN S1 S u l) (hs:∀j o,j≠t->S j=some o->S' j=some o){p:Ob} (ht:S t=some p) (h1:∀vs m,p≠ .gD vs 22 m) (h2:∀vs,p≠ .row vs 22):MN S1 S' u l:=by
 cases h with
 | nil=>exact .nil
 | acc h0 h=>exact .acc h0 (hs _ _ (fun c=>by rw [c,ht]at h;injection h with h;exact h1 _ _ h) h)
 | own h0 h=>exact .own h0 (hs _ _ (fun c=>by rw [c,ht]at h;injection h with h;exact h2 _ h) h)
def qD (S0 S:Hp) (t:Nat):Hp:=fun i=>if i=t then S t else S0 i
theorem XT{S0 S:Hp}{t:Nat}:qD S0 S t t=S t:=aK rfl
theorem AP{S0 S:Hp}{t i:Nat} (h:i≠t):qD S0 S t i=S0 i:=aG h
theorem Jc{S0 S:Hp}{t:Nat} (h:bP (del S0 t) S):bP (qD S0 S t) S:=fun i o e=>by
 by_cases c:i=t
 ·rw [c,XT]at e;rw [c];exact e
 ·rw [AP c]at e;exact h i o (by unfold del;rw [aG c];exact e)
theorem SW{S:Hp}{i t:Nat} (h:i≠t):del S t i=S i:=aG h
section
variable{M n t d:Nat}{x:VE}{K:KV}{s:BitVec 64}{ah:List Nat}
theorem Wp{S:Hp}{two:Bool} (hx:Deep PP bI gM M (n+1) x) (hK:K (ni 2) S):x.call EI [.agg (pv two)] S K:=by
 refine hx.call rfl fun y hy=>?_;rw [Qy];unfold XU;refine bX kC fun b hb=>?_;rw [aV,cW (o:=7) aB rfl,aV,cW (o:=8) aB rfl,bD (by decide),Cz (by decide)];exact bL (.aI hb) hK
def aJB (S0 S:Hp) (t:Nat) (s:BitVec 64) (ah:List Nat) (d:Nat):Prop:=∃w,S t=some (.row [vb s,w,ni d] 140)/\Ah (del S0 t) w ah
theorem aQ6 (hM:2<M) (hx:Deep PP bI gM M (n+2) x){S0 S:Hp} (h:aJB S0 S t s ah d) (hle:bP (del S0 t) S) (hd:d<1000000) (hK:∀S' a s' PQ,Db S S' t->bP (del S0 t) S'->aJB S0 S' t s' PQ (d+1)->(∀k,drawn (k+1) ah s=a::drawn k PQ s')->a<11->K (nu a) S'):x.call dU [.ptr t 0,nu 11] S K:=by
 obtain⟨w,h1,h2⟩:=h
 have leT:∀{S':Hp},Db S S' t->bP (del S0 t) S':=fun {S'} b i o e=>by
  have hi:i≠t:=fun c=>by rw [c,LT]at e;cases e
  rw [b i hi];exact hle i o e
 cases ah with
 | nil=>
  refine aO8 hM hx ⟨w,h1,h2.up hle⟩ hd fun S' b tp=>hK S' _ _ _ b (leT b) ?_ (fun k=>rfl) (QN 1 [] s _ (.head _));obtain⟨w',q1,q2⟩:=tp;generalize hz:([]:List Nat)=z at q2;cases q2 with
  | nil=>exact⟨_,q1,.nil⟩
  | emp=>exact⟨_,q1,.emp⟩
  | aDY=>exact⟨_,q1,.aDY⟩
  | acc h h0=>subst hz;simp at h0
  | IN h h0 hv=>subst hz;simp at h0
 | cons a ah=>
  obtain⟨⟨p,hp,RK⟩,w',RO,hw'⟩:=h2.head;have Cu:Ah (del S0 t) w' ah:=hw' (.refl _);refine hx.call rfl fun y hy=>?_;rw [QM];unfold GN;refine aFM aNP ?_;have h1':aJ S t (.row [vb s,w,ni (d+1)] 140) t=some (.row [vb s,w,ni (d+1)] 140):=aB;have dH:bP (del S0 t) (aJ S t (.row [vb s,w,ni (d+1)] 140)):=FI hle LT;have hw1:Ah (aJ S t (.row [vb s,w,ni (d+1)] 140)) w (a::ah):=h2.up dH;obtain⟨⟨p1,hp1,aSS⟩,w1,aTu,aTv⟩:=hw1.head;rw [bC,cX,aV,cW h1 rfl,bD (by omega),cX,aV,EC h1 (by simp) rfl];show nB PP (.ptr t 0) (fun v7=>aS 1 v7 fun v8=>aU v8 (aJ S t (.row [vb s,w,ni (d+1)] 140)) _);rw [cX,aV,cW h1' rfl,hw1.len,SX,bF (by simp),bR,cX,aV,cW h1' rfl,hp1,aSS,cX,aV,cW h1' rfl]
  have aPa:∀{k:V->Prop},k w'->LW 22 1 w (some (ni 1)) none none (aJ S t (.row [vb s,w,ni (d+1)] 140)) k:=fun {k} hk=>by
   have hh:=RO (k:=k) hk;cases h2 with
   | acc h h0=>
    have hh':=dH _ _ h;unfold LW at hh ⊢;simp only [h]at hh;simp only [hh'];exact hh
   | IN h h0 hv=>
    have hh':=dH _ _ h;unfold LW at hh ⊢;simp only [h]at hh;simp only [hh'];exact hh
  refine aPa ?_;rw [cX,aV,EC h1' (by simp) Cu.one];refine aAk hy ?_;have bb:Db S (aJ (aJ S t (.row [vb s,w,ni (d+1)] 140)) t (.row ([vb s,w,ni (d+1)].set 1 w') 140)) t:=fun i hi=>by rw [eS,aC hi]
  refine aL (hK _ _ s ah bb (leT bb) ⟨w',by rw [eS];exact aB,Cu⟩ (fun k=>rfl) (gI _ (by decide)))
theorem MN.qD{S0 S:Hp}{v:V}{l:List Nat} (h:MN (del S0 t) S v l){p:Ob} (ht:S t=some p) (h1:∀vs m,p≠ .gD vs 22 m) (h2:∀vs,p≠ .row vs 22):MN (qD S0 S t) S v l:=by
 have go:∀{i:Nat} {o:Ob},del S0 t i=none->S i=some o->(∀vs m,p≠ .gD vs 22 m)->o≠p->Go.Am.qD S0 S t i=none:=fun {i o} h0 h _ oX=>by
  have hi:i≠t:=fun c=>by rw [c,ht]at h;injection h with h;exact oX h.symm
  rw [AP hi];rw [SW hi]at h0;exact h0
 cases h with
 | nil=>exact .nil
 | acc h0 h=>exact .acc (go h0 h h1 (fun e=>h1 _ _ e.symm)) h
 | own h0 h=>exact .own (go h0 h h1 (fun e=>h2 _ e.symm)) h
end
end Go.Am
namespace Go.Am
section
variable{S0 S S':Hp}{K:KV}{v w u:V}{l:List Nat}{ls:List (List Nat)}{t d:Nat}{s:BitVec 64}{ah:List Nat}
theorem ML.but (h:ML S0 S v ls) (hs:∀j o,j≠t->S j=some o->S' j=some o){vs:List V}{q:Nat} (ht:S t=some (.row vs q)) (hq:q≠22):ML S0 S' v ls:=by
 cases h with
 | nil=>exact .nil
 | acc h0 h hl hv=>
  refine .acc h0 (hs _ _ (fun c=>by rw [c,ht]at h;cases h) h) hl fun j l e=>?_;obtain⟨w,a,b⟩:=hv j l e;exact⟨w,a,b.but hs (fun vs m c=>by rw [ht]at c;cases c) (fun vs c=>by rw [ht]at c;injection c with c;injection c with c1 c2;exact hq c2)⟩
theorem ML.aQX (h:ML S0 S v ls) (hs:bP S0 S) (hl:ls.length<=1000000) (hw:NL S0 S w l)
 (hk:∀u S',bP S0 S'->(∀j o,S j=some o->(∀m,v≠ .acc j m)->S' j=some o)->ML S0 S' u (ls++[l])->(∀j m,u= .acc j m->S j=none\/∃m',v= .acc j m')->K u S'):aP 51 1 cU [(0,1,w)] S fun v2 S=>jY 51 1 24 v v2 S K:=by
 have hc:∀{p:List V->Prop},wN w p=p [w]:=fun {p}=>by
  have:=hw.one;cases w<;>first | rfl | cases this
 have hz:LR cU=some [.nil]:=rfl;unfold aP sC;rw [hz];show iN [(0,1,w)] [.nil] _;unfold iN;rw [hc];refine⟨rfl,by simp,?_⟩;unfold iN;intro j hj;have hj0:S0 j=none:=hs.none hj;have xO:bP S (aJ S j (.row [w] 51)):= .aI hj;show jY 51 1 24 v (.own j 0 1 1) (aJ S j (.row (aY 0 [w] [.nil]) 51)) K;have e:aY 0 [w] [V.nil]=[w]:=rfl;rw [e];refine LQ (m:=1) aB rfl ?_;refine⟨by simp [hw.one],?_⟩;have hwj:=hw.up xO;cases h with
 | nil=>
  refine⟨by decide,fun i hi=>?_⟩;have uR:bP (aJ S j (.row [w] 51)) (aJ (aJ S j (.row [w] 51)) i (.gD [w] 51 1)):= .aI hi;refine hk _ _ ((hs.trans xO).trans uR) (fun q o e _=>uR _ _ (xO _ _ e)) (.acc (ls:=[l]) ((hs.trans xO).none hi) aB rfl fun q l' e=>?_) fun q m e=>by injection e with e1 e2;subst e1;exact .inl (aJi hi).2
  match q,e with
  | 0,e=>injection e with e;subst e;exact⟨w,rfl,hwj.up uR⟩
  | q+1,e=>cases e
 | @acc i vs _ h0 h FF hv=>
  have oX:j≠i:=fun e=>by rw [e,h]at hj;cases hj
  have h':aJ S j (.row [w] 51) i=some (.gD vs 51 ls.length):=by rw [aC (aN oX)];exact h
  simp only [h'];refine⟨trivial,trivial,by omega,by omega,?_⟩;have el:ls.length+(0+1)=(ls++[l]).length:=by simp
  rw [el];have uR:∀q o,q≠i->S q=some o->aJ (aJ S j (.row [w] 51)) i (.gD (vs++[w]) 51 (ls++[l]).length) q=some o:=fun q o hq e=>by rw [aC hq];exact xO _ _ e
  have hn1:∀vs m,S i≠some (.gD vs 22 m):=fun vs m c=>by rw [h]at c;cases c
  have hn2:∀vs,S i≠some (.row vs 22):=fun vs c=>by rw [h]at c;cases c
  refine hk _ _ (fun q o e=>uR q o (fun c=>by rw [c,h0]at e;cases e) (hs _ _ e)) (fun q o e xP=>uR q o (fun c=>xP ls.length (by subst c;rfl)) e) (.acc h0 aB (by simp [FF]) fun q l' e=>?_) fun q m e=>by injection e with e1 e2;subst e1;exact .inr ⟨_,rfl⟩
  rcases BO q ls.length with hq | hq
  ·rw [gV hq]at e
   obtain⟨u,a,b⟩:=hv q l' e;exact⟨u,by rw [gV (by omega)];exact a,b.but uR hn1 hn2⟩
  ·have hq':q=ls.length:=by
    have:=(dK.1 e).1;simp at this;omega
   subst hq';simp at e;subst e;exact⟨w,by rw [kQ (by omega),FF];simp,hw.but uR hn1 hn2⟩
theorem ML.mI (h:ML S0 S v ls) (hw:∀m,u≠ .acc t m) (hs:∀j o,S j=some o->(∀m,w≠ .acc j m)->S' j=some o) (hd:∀j m m',v= .acc j m->w≠ .acc j m') (ho:∀j vs m,w= .acc j m->S j≠some (.gD vs 22 m)/\S j≠some (.row vs 22)) (hww:∀j m,w= .acc j m->∃vs n,S j=some (.gD vs 51 n)):ML S0 S' v ls:=by
 cases h with
 | nil=>exact .nil
 | acc h0 h hl hv=>
  refine .acc h0 (hs _ _ h (fun m=>hd _ _ m rfl)) hl fun j l e=>?_;obtain⟨w',a,b⟩:=hv j l e;refine⟨w',a,?_⟩;cases b with
  | val=>exact .val
  | made b=>
   refine .made ?_;cases b with
   | nil=>exact .nil
   | acc g0 g=>exact .acc g0 (hs _ _ g fun m c=>by obtain⟨vs,n,q⟩:=hww _ _ c;rw [q]at g;injection g with g;injection g with _ g _;cases g)
   | own g0 g=>exact .own g0 (hs _ _ g fun m c=>by obtain⟨vs,n,q⟩:=hww _ _ c;rw [q]at g;cases g)
theorem ML.ob (h:ML S0 S v ls):∀j m,v= .acc j m->S0 j=none/\∃vs n,S j=some (.gD vs 51 n):=by
 intro j m e;cases h with
 | nil=>cases e
 | acc h0 h hl hv=>injection e with e1 e2;subst e1;exact⟨h0,_,_,h⟩
theorem aMt (hw:fV w=true):aP 51 1 cU [(0,1,w)] S fun _ _=>True:=by
 have hc:∀{p:List V->Prop},wN w p=p [w]:=fun {p}=>by cases w<;>first | rfl | cases hw
 have hz:LR cU=some [.nil]:=rfl;unfold aP sC;rw [hz];show iN [(0,1,w)] [.nil] _;unfold iN;rw [hc];refine⟨rfl,by simp,?_⟩;unfold iN;exact fun _ _=>trivial
end
def fsR (T:Nat):List Nat->List Nat->List (List Nat)
 | [],_=>[]
 | x::l,D=>(x%11::D.take T)::fsR T l (D.drop (T+1+T))
def rsR (T:Nat):Nat->List Nat->List (List Nat)
 | 0,_=>[]
 | k+1,D=>(D.getD T 0%11::(D.drop (T+1)).take T)::rsR T k (D.drop (T+1+T))
theorem aSR{T a:Nat}{A B C:List Nat} (hA:A.length=T) (hB:B.length=T):(A++a::(B++C)).take T=A/\(A++a::(B++C)).getD T 0=a/\((A++a::(B++C)).drop (T+1)).take T=B/\(A++a::(B++C)).drop (T+1+T)=C:=by
 subst hA;have h1:(A++a::(B++C)).drop (A.length+1)=B++C:=by rw [<-By,List.drop_left];rfl
 refine⟨List.take_left,by simp,by rw [h1,<-hB,List.take_left],by rw [<-By,h1,<-hB,List.drop_left]⟩
section
variable{M n t:Nat}{x:VE}{K:KV}{two:Bool}
end
def pvs:List (Nat×Nat)->List V
 | []=>[]
 | p::l=>nu p.1::nu p.2::pvs l
def pds:List (Nat×Nat)->List Dt
 | []=>[]
 | p::l=>nd p.1::nd p.2::pds l
theorem Nk (l:List (Nat×Nat)):(pvs l).length=l.length*2:=by induction l with | nil=>rfl | cons a l ih=>show(pvs l).length+2=_;rw [ih,oN];omega
theorem aFD (l:List (Nat×Nat)):(pds l).length=l.length*2:=by induction l with | nil=>rfl | cons a l ih=>show(pds l).length+2=_;rw [ih,oN];omega
theorem aMu (l m:List (Nat×Nat)):pvs (l++m)=pvs l++pvs m:=by induction l with | nil=>rfl | cons a l ih=>show _::_::pvs (l++m)=_;rw [ih];rfl
theorem aQY{S0 S:Hp} (l:List (Nat×Nat)):∀(j:Nat) (v:V) (d:Dt),(pvs l)[j]? =some v->(pds l)[j]? =some d->Dx S0 S v d:=by
 induction l with
 | nil=>intro j v d a b;cases a
 | cons p l ih=>
  intro j v d a b
  match j with
  | 0=>injection a with a;injection b with b;subst a b;exact .int
  | 1=>injection a with a;injection b with b;subst a b;exact .int
  | j+2=>exact ih j v d a b
inductive PN (S0 S:Hp):V->List (Nat×Nat)->Prop
 | nil:PN S0 S .nil []
 | acc {i:Nat} {l:List (Nat×Nat)} (h0:S0 i=none) (h:S i=some (.gD (pvs l) 145 l.length)):PN S0 S (.acc i l.length) l
section
variable{S0 S1 S S':Hp}{K:KV}{v w:V}{l:List (Nat×Nat)}
theorem PN.one (h:PN S0 S v l):fV v=true:=by cases h<;>rfl
theorem PN.same (h:PN S0 S v l):BY v=true:=by cases h<;>rfl
theorem PN.up (h:PN S0 S v l) (hle:bP S S'):PN S0 S' v l:=by cases h with | nil=>exact .nil | acc h0 h=>exact .acc h0 (hle _ _ h)
theorem PN.base (h:PN S1 S v l) (hle:bP S0 S1):PN S0 S v l:=by cases h with | nil=>exact .nil | acc h0 h=>exact .acc (hle.none h0) h
theorem PN.but (h:PN S0 S v l){o:Nat} (hs:∀j p,j≠o->S j=some p->S' j=some p){vs:List V}{q:Nat} (ho:S o=some (.row vs q)):PN S0 S' v l:=by
 cases h with
 | nil=>exact .nil
 | acc h0 h=>exact .acc h0 (hs _ _ (fun c=>by rw [c,ho]at h;cases h) h)
theorem PN.Cy (h:PN S0 S v l):Dx S0 S v (.list (pds l) l.length):=by
 cases h with
 | nil=>exact .nil
 | acc h0 h=>exact .acc h h0 (by rw [Nk,aFD]) (aQY l)
theorem PN.app (h:PN S0 S v l) (hs:bP S0 S) (hl:l.length<=1000000){a b:Nat}
 (hk:∀u S',bP S0 S'->(∀j o,S j=some o->(∀vs m,o≠ .gD vs 145 m)->S' j=some o)->PN S0 S' u (l++[(a,b)])->K u S'):aP 145 1 GK [(0,2,.agg [nu a,nu b])] S fun v24 S=>jY 145 2 16 v v24 S K:=by
 refine HZ (z:=[nu 0,nu 0]) rfl rfl rfl rfl fun j hj=>?_;have hj0:S0 j=none:=hs.none hj;have xO:bP S (aJ S j (.row [nu a,nu b] 145)):= .aI hj;refine LQ (m:=1) aB rfl ?_;refine⟨rfl,?_⟩;cases h with
 | nil=>
  refine⟨by decide,fun i hi=>?_⟩;have uR:bP (aJ S j (.row [nu a,nu b] 145)) (aJ (aJ S j (.row [nu a,nu b] 145)) i (.gD [nu a,nu b] 145 1)):= .aI hi;exact hk _ _ ((hs.trans xO).trans uR) (fun q o e _=>uR _ _ (xO _ _ e)) (.acc (l:=[(a,b)]) ((hs.trans xO).none hi) aB)
 | @acc i _ h0 h=>
  have oX:j≠i:=fun e=>by rw [e,h]at hj;cases hj
  have h':aJ S j (.row [nu a,nu b] 145) i=some (.gD (pvs l) 145 l.length):=by rw [aC (aN oX)];exact h
  simp only [h'];refine⟨trivial,trivial,Nk l,by omega,?_⟩;have el:l.length+(0+1)=(l++[(a,b)]).length:=by simp
  rw [el];have uR:∀q o,q≠i->S q=some o->aJ (aJ S j (.row [nu a,nu b] 145)) i (.gD (pvs l++[nu a,nu b]) 145 (l++[(a,b)]).length) q=some o:=fun q o hq e=>by rw [aC hq];exact xO _ _ e
  exact hk _ _ (fun q o e=>uR q o (fun c=>by rw [c,h0]at e;cases e) (hs _ _ e)) (fun q o e xP=>uR q o (fun c=>by subst c;rw [h]at e;injection e with e;exact xP _ _ e.symm) e) (.acc h0 (by rw [aMu];exact aB))
theorem aJj{a b:Nat}:aP 145 1 GK [(0,2,.agg [nu a,nu b])] S fun _ _=>True:=HZ (z:=[nu 0,nu 0]) rfl rfl rfl rfl fun _ _=>trivial
theorem aJk{a b:Nat}{k:V->Prop}:cF GK [(0,1,nu a),(1,1,nu b)] k=k (.agg [nu a,nu b]):=propext ⟨fun h=>h.2.2.2.2,fun h=>⟨rfl,Nat.le_of_lt (Xm rfl),rfl,bO _,h⟩⟩
end
theorem ML.base{S0 S1 S:Hp}{w:V}{l:List (List Nat)} (h:ML S1 S w l) (hle:bP S0 S1):ML S0 S w l:=by
 cases h with
 | nil=>exact .nil
 | acc h0 q hl hv=>
  refine .acc (hle.none h0) q hl fun j l e=>?_;obtain⟨w,a,b⟩:=hv j l e;refine⟨w,a,?_⟩;cases b with
  | val=>exact .val
  | made b=>exact .made (b.base hle)
def shL (fs rs:List (List Nat)) (X:Nat):List (Nat×Nat):=List.zipWith (fun f r=>(ev 11 f X,ev 11 r X)) fs rs
theorem aJl{fs rs:List (List Nat)}{X i:Nat} (h1:i<fs.length) (h2:i<rs.length):(shL fs rs X).take (i+1)=(shL fs rs X).take i++[(ev 11 fs[i] X,ev 11 rs[i] X)]:=by
 have hl:i<(List.zipWith (fun f r=>(ev 11 f X,ev 11 r X)) fs rs).length:=by rw [rG];omega
 unfold shL;rw [KT,aQ hl,Oc];rfl
section
variable{M n:Nat}{x:VE}{K:KV}{two:Bool}
theorem aJm (hM:1000000<M) (hx:Deep PP bI gM M (n+2) x){A SLz O:Hp}{vf vr:V}{fs rs:List (List Nat)} (mf:ML A SLz vf fs) (mr:ML A SLz vr rs) (hf:∀q∈fs,LS q) (hr:∀q∈rs,LS q) (RY:∀q∈fs,q.length<1000) (hrl:∀q∈rs,q.length<1000) (hlen:rs.length=fs.length) (RO:fs.length<1000)
 {bp o N i m0:Nat} {ws:List V} (hN:N<1000) (hi:i<N) (hws:ws.length=N) (Qu:SLz bp=some (.row (pv two) 29)) (ho:SLz o=none) (hL:bP SLz O)
 (hK:∀S w,bP (del O o) S->S o=some (.row (ws.set i w) 82)->PN (del O o) S w (shL fs rs (i+1))->gN x m0 (.ptr bp 0) vf vr (.own o 0 N N) (ni N) (ni (i+1)) S K):
 ∀(r k m:Nat) (S:Hp) (w:V),k+r=fs.length->r<m->bP (del O o) S->S o=some (.row (ws.set i w) 82)->PN (del O o) S w ((shL fs rs (i+1)).take k)->
  jJ x m m0 (.ptr bp 0) vf vr (.own o 0 N N) (ni i) (ni N) (ni i) (ni fs.length) (ni k) S K:=by
 have hL':bP SLz (del O o):=fun j p e=>by
  have hj:j≠o:=fun c=>by rw [c,ho]at e;cases e
  rw [SW hj];exact hL j p e
 intro r;induction r with
 | zero=>
  intro k m S w hk hm hle hso hpn;obtain⟨m,rfl⟩:=bG (show m≠0 by omega);rw [tE];unfold mJ;refine aE ?_;rw [aO,jO (by omega),bC,bD (by omega)];have hl:(shL fs rs (i+1)).length<=k:=by unfold shL;rw [rG];omega
  rw [mF hl]at hpn;exact hK S w hle hso hpn
 | succ r ih=>
  intro k m S w hk hm hle hso hpn;obtain⟨m,rfl⟩:=bG (show m≠0 by omega);rw [tE];unfold mJ;refine aE ?_;have Za:k<fs.length:=by omega
  have vZ:k<rs.length:=by omega
  have hLS:=hL'.trans hle;have mf':=mf.up hLS;have mr':=mr.up hLS;obtain⟨p1,u1,hp1,Vt,q1⟩:=mf'.at (aQ Za);obtain⟨p2,u2,Kt,FF,q2⟩:=mr'.at (aQ vZ);have Vt:=fun K=>Vt S (.refl S) K;have FF:=fun K=>FF S (.refl S) K;have hb:=hLS _ _ Qu;have e1:(pv two)[1]? =some (nu 11):=rfl
  have hio:∀{k:V->Prop},cI 1 (.own o 0 N N) (ni i) k=k (.ptr o i):=fun {k}=>by
   show(i<N/\k (.ptr o (0+i*1)))=_;rw [jQ,dX];exact propext ⟨fun h=>h.2,fun h=>⟨hi,h⟩⟩
  have hlw:∀{K:KV},aU (.ptr o i) S K=K w S:=fun {K}=>cW hso (by rw [VQ (by omega)]);rw [aO,yQ Za,bR,hio,hlw,hp1,Vt,bD (by omega),Iy (by omega),aV,cW hb e1,Kt,FF,bD (by omega),Iy (by omega),aV,cW hb e1];refine aAf hM hx q1.nv (by have:=RY _ (cJ Za);omega) (hf _ (cJ Za)) (show i+1<18446744073709551616 by omega) qQ ?_;rw [cW hb e1,cM,FF,cK q2.same,hlw,cK hpn.same];refine aAf hM hx q2.nv (by have:=hrl _ (cJ vZ);omega) (hr _ (cJ vZ)) (show i+1<18446744073709551616 by omega) qQ ?_;rw [hlw,cK hpn.same,aJk,hlw,cK hpn.same];refine⟨aJj,?_⟩;refine hpn.app hle (by rw [mG];omega) fun u S2 fF k2 pn2=>?_;rw [hio,EC (k2 _ _ hso (fun vs m c=>by cases c)) (by rw [Bw];omega) pn2.one,List.set_set,bD (by omega)];refine ih (k+1) m _ u (by omega) (by omega) (FI fF LT) aB ?_;rw [aJl Za vZ];exact pn2.but (o:=o) (fun j p hj e=>by rw [aC hj];exact e) (k2 _ _ hso (fun vs m c=>by cases c))
structure aQZ (SLz:Hp) (o N:Nat) (fs rs:List (List Nat)) (i:Nat) (S:Hp) (ws:List V):Prop where
 le:bP SLz S
 row:S o=some (.row ws 82)
 len:ws.length=N
 done:∀j,j<i->∃w,ws[j]? =some w/\PN SLz S w (shL fs rs (j+1))
 todo:∀j,i<=j->j<N->ws[j]? =some .nil
theorem aHj (hM:1000000<M) (hx:Deep PP bI gM M (n+15) x){A SLz:Hp}{vf vr:V}{fs rs:List (List Nat)} (mf:ML A SLz vf fs) (mr:ML A SLz vr rs) (hf:∀q∈fs,LS q) (hr:∀q∈rs,LS q) (RY:∀q∈fs,q.length<1000) (hrl:∀q∈rs,q.length<1000) (hlen:rs.length=fs.length) (RO:fs.length<1000) (heq:∀i (h1:i<fs.length) (h2:i<rs.length),rs[i].length=fs[i].length)
 {bp o N:Nat} (hN:N<1000) (Qu:SLz bp=some (.row (pv two) 29)) (ho:SLz o=none)
 (hK:∀S ws u,aQZ SLz o N fs rs N S ws->ML SLz S u (dY fs rs)->bE (.tuple [.own o 0 N N,u,ni 0]) S K):
 ∀(r i m:Nat) (S:Hp) (ws:List V),i+r=N->r<m->aQZ SLz o N fs rs i S ws->gN x m (.ptr bp 0) vf vr (.own o 0 N N) (ni N) (ni i) S K:=by
 intro r;induction r with
 | zero=>
  intro i m S ws hi hm h;obtain⟨m,rfl⟩:=bG (show m≠0 by omega);rw [CQ];unfold tY;refine aE ?_;rw [aO,jO (by omega),bC,qB (h.le _ _ Qu),dG (by rw [BZ];omega),xS,mF (by rw [BZ];omega)];refine aO6 (n:=n) hM hx hf hr (fun q hq=>by have:=RY q hq;omega) (by omega) hlen heq (mf.up h.le) (mr.up h.le) fun u S2 fF m2=>?_;have e:i=N:=by omega
  subst e;have m2':=m2.base h.le;exact hK S2 ws u ⟨h.le.trans fF,fF _ _ h.row,h.len,fun j hj=>by obtain⟨w,a,b⟩:=h.done j hj;exact⟨w,a,b.up fF⟩,h.todo⟩ m2'
 | succ r ih=>
  intro i m S ws hi hm h;obtain⟨m,rfl⟩:=bG (show m≠0 by omega);rw [CQ];unfold tY;refine aE ?_;have hlt:i<N:=by omega
  rw [aO,yQ hlt,bR,(mf.up h.le).len,hx.most];have Tx:=h.todo i (bO _) hlt
  have aLL:ws.set i .nil=ws:=by
   apply xQ;intro j;rcases Nat.decEq i j with c | c
   ·rw [IP c]
   ·subst c;rw [VQ (by rw [h.len];exact hlt),Tx]
  refine aJm (n:=n+13) hM hx mf mr hf hr RY hrl hlen RO hN hlt h.len Qu ho h.le (fun S2 w fF so2 pn2=>?_) fs.length 0 M S .nil (by omega) (by omega) aAg (by rw [aLL];exact h.row) (by rw [Ok];exact .nil)
  have hL':bP SLz (del S o):=fun j p e=>by
   have hj:j≠o:=fun c=>by rw [c,ho]at e;cases e
   rw [SW hj];exact h.le j p e
  refine ih (i+1) m S2 (ws.set i w) (by omega) (by omega) ⟨hL'.trans fF,so2,by rw [Bw];exact h.len,fun j hj=>?_,fun j h1 h2=>by rw [IP (by omega)];exact h.todo j (by omega) h2⟩;by_cases c:j=i
  ·subst c
   exact⟨w,by rw [VQ (by rw [h.len];exact hlt)],pn2.base hL'⟩
  ·obtain⟨w',a,b⟩:=h.done j (by omega)
   exact⟨w',by rw [IP (aN c)];exact a,b.but (o:=o) (fun j p hj e=>fF j p (by rw [SW hj];exact e)) h.row⟩
theorem aFE (T:Nat):∀(l D:List Nat),(fsR T l D).length=l.length:=by
 intro l;induction l with
 | nil=>intro D;rfl
 | cons a l ih=>intro D;show(fsR T l _).length+1=_;rw [ih];rfl
theorem aFF (T:Nat):∀(k:Nat) (D:List Nat),(rsR T k D).length=k:=by
 intro k;induction k with
 | zero=>intro D;rfl
 | succ k ih=>intro D;show(rsR T k _).length+1=_;rw [ih]
theorem aFG{T:Nat}:∀(l D:List Nat),(T+1+T)*l.length<=D.length->(∀c∈D,c<11)->∀q∈fsR T l D,q.length=T+1/\∀c∈q,c<11:=by
 intro l;induction l with
 | nil=>intro D _ _ q hq;cases hq
 | cons a l ih=>
  intro D hD hc q hq;rw [oN,Cd]at hD;rcases cC.1 hq with rfl | hq
  ·refine⟨by simp;omega,fun c h=>?_⟩
   rcases cC.1 h with rfl | h
   ·exact gI _ (by decide)
   ·exact hc c (Bu h)
  ·exact ih _ (by rw [BL];omega) (fun c h=>hc c (VV h)) q hq
theorem aFH{T:Nat}:∀(k:Nat) (D:List Nat),(T+1+T)*k<=D.length->(∀c∈D,c<11)->∀q∈rsR T k D,q.length=T+1/\∀c∈q,c<11:=by
 intro k;induction k with
 | zero=>intro D _ _ q hq;cases hq
 | succ k ih=>
  intro D hD hc q hq;rw [Cd]at hD;rcases cC.1 hq with rfl | hq
  ·refine⟨by simp;omega,fun c h=>?_⟩
   rcases cC.1 h with rfl | h
   ·exact gI _ (by decide)
   ·exact hc c (VV (Bu h))
  ·exact ih _ (by rw [BL];omega) (fun c h=>hc c (VV h)) q hq
def shD (fs rs:List (List Nat)) (N:Nat):List Dt:=(List.range N).map fun i=> .list (pds (shL fs rs (i+1))) (shL fs rs (i+1)).length
def dO (l:List (List Nat)):List Dt:=l.map fun l=> .list (iV l) l.length
end
inductive GL (el:TypeId) (S0 S:Hp):V->List Dt->Prop
 | nil:GL el S0 S .nil []
 | acc {i:Nat} {vs:List V} {ds:List Dt} (h0:S0 i=none) (h:S i=some (.gD vs el ds.length)) (hl:vs.length=ds.length) (hv:∀(j:Nat) (d:Dt),ds[j]? =some d->∃t,vs[j]? =some (T t d)):GL el S0 S (.acc i ds.length) ds
theorem aNS (t:Tag) (d:Dt):fV (T t d)=true:=by cases d<;>rfl
theorem aFO{t:Tag}{d:Dt}{p:List V->Prop}:wN (T t d) p=p [T t d]:=by cases d<;>rfl
theorem aNT{S0 S:Hp} (t:Tag) (d:Dt):Dx S0 S (T t d) d:=by cases d<;>constructor
section
variable{el:TypeId}{S0 S S':Hp}{v:V}{ds:List Dt}
theorem GL.len (h:GL el S0 S v ds){K:V->Prop}:bK v K=K (ni ds.length):=by cases h<;>rfl
theorem GL.one (h:GL el S0 S v ds):fV v=true:=by cases h<;>rfl
theorem GL.same (h:GL el S0 S v ds):BY v=true:=by cases h<;>rfl
theorem GL.up (h:GL el S0 S v ds) (hle:bP S S'):GL el S0 S' v ds:=by
 cases h with
 | nil=>exact .nil
 | acc h0 h hl hv=>exact .acc h0 (hle _ _ h) hl hv
theorem GL.base{S1:Hp} (h:GL el S1 S v ds) (hle:bP S0 S1):GL el S0 S v ds:=by
 cases h with
 | nil=>exact .nil
 | acc h0 h hl hv=>exact .acc (hle.none h0) h hl hv
theorem GL.at (h:GL el S0 S v ds){i:Nat}{d:Dt} (hi:ds[i]? =some d):∃p t,(∀(j:IntKind) (K:V->Prop),cI 1 v (.int j (.ofNat i)) K=K p)/\(∀S',bP S S'->∀K:KV,aU p S' K=K (T t d) S'):=by
 have hlt:i<ds.length:=(dK.1 hi).1;cases h with
 | nil=>cases hi
 | @acc b vs _ h0 h hl hv=>
  obtain⟨t,a⟩:=hv i d hi;refine⟨.wM b ds.length (i*1),t,fun j K=>LP hlt,fun S' hle K=>?_⟩;rw [jQ];unfold aU;simp only [hle _ _ h,cP a,true_and]
theorem GL.Cy (h:GL el S0 S v ds):Dx S0 S v (.list ds ds.length):=by
 cases h with
 | nil=>exact .nil
 | acc h0 h hl hv=>
  refine .acc h h0 hl fun j v d x1 x2=>?_;obtain⟨t,q⟩:=hv j d x2;rw [x1]at q;injection q with q;subst q;exact aNT t d
theorem GL.set (h:GL el S0 S v ds){i:Nat}{o p:Ob} (hi:S i=some p) (h1:∀vs m,p≠ .gD vs el m):GL el S0 (aJ S i o) v ds:=by
 cases h with
 | nil=>exact .nil
 | acc h0 h hl hv=>exact .acc h0 (by rw [aC (fun c=>by rw [c,hi]at h;injection h with h;exact h1 _ _ h)];exact h) hl hv
theorem GL.but (h:GL el S0 S v ds) (hs:∀j vs m,S j=some (.gD vs el m)->S' j=some (.gD vs el m)):GL el S0 S' v ds:=by
 cases h with
 | nil=>exact .nil
 | acc h0 h hl hv=>exact .acc h0 (hs _ _ _ h) hl hv
theorem GL.mI{w:V}{es:List Dt}{e2:TypeId} (h:GL e2 S0 S w es) (hp:∀j o,S j=some o->(∀m,v≠ .acc j m)->S' j=some o) (ha:∀j m m',w= .acc j m->v≠ .acc j m'):GL e2 S0 S' w es:=by
 cases h with
 | nil=>exact .nil
 | acc h0 h hl hv=>exact .acc h0 (hp _ _ h fun m=>ha _ _ m rfl) hl hv
theorem GL.there (h:GL el S0 S v ds){j m:Nat} (e:v= .acc j m):∃vs n,S j=some (.gD vs el n):=by
 cases h with
 | nil=>cases e
 | acc h0 h hl hv=>injection e with e1 e2;subst e1;exact⟨_,_,h⟩
theorem GL.aQ8{b:Nat} (h:GL el S0 S v ds) (hs:bP S0 S) (hl:(ds.length+1)*b<=140737488355328/\ds.length+1<=140737488355328){z:Value}{zv:V} (hz:LR [z]=some [zv]){t:Tag}{d:Dt}{K:KV}
 (hk:∀u S',bP S0 S'->(∀j o,S j=some o->(∀m,v≠ .acc j m)->S' j=some o)->(∀j m,u= .acc j m->(∃m',v= .acc j m')\/S j=none)->GL el S0 S' u (ds++[d])->K u S'):aP el 1 [z] [(0,1,T t d)] S fun v2 S=>jY el 1 b v v2 S K:=by
 unfold aP sC;rw [hz];show iN [(0,1,T t d)] [zv] _;unfold iN;rw [aFO];refine⟨rfl,by simp,?_⟩;unfold iN;intro j hj;have xO:bP S (aJ S j (.row [T t d] el)):= .aI hj;show jY el 1 b v (.own j 0 1 1) (aJ S j (.row (aY 0 [T t d] [zv]) el)) K;have e:aY 0 [T t d] [zv]=[T t d]:=rfl;rw [e];refine LQ (m:=1) aB rfl ?_;refine⟨by simp [aNS],?_⟩;cases h with
 | nil=>
  refine⟨by have:=hl;rw [Xv]at this;exact this,fun i hi=>?_⟩;have uR:bP (aJ S j (.row [T t d] el)) (aJ (aJ S j (.row [T t d] el)) i (.gD [T t d] el 1)):= .aI hi;refine hk _ _ ((hs.trans xO).trans uR) (fun q o e _=>uR _ _ (xO _ _ e)) (fun q m e=> .inr (by injection e with e;subst e;exact xO.none hi)) (.acc (ds:=[d]) ((hs.trans xO).none hi) aB rfl fun q l' e=>?_)
  match q,e with
  | 0,e=>injection e with e;subst e;exact⟨t,rfl⟩
  | q+1,e=>cases e
 | @acc i vs _ h0 h FF hv=>
  have oX:j≠i:=fun e=>by rw [e,h]at hj;cases hj
  have h':aJ S j (.row [T t d] el) i=some (.gD vs el ds.length):=by rw [aC (aN oX)];exact h
  simp only [h'];refine⟨trivial,trivial,by omega,hl,?_⟩;have el':ds.length+(0+1)=(ds++[d]).length:=by simp
  rw [el'];have uR:∀q o,q≠i->S q=some o->aJ (aJ S j (.row [T t d] el)) i (.gD (vs++[T t d]) el (ds++[d]).length) q=some o:=fun q o hq e=>by rw [aC hq];exact xO _ _ e
  refine hk _ _ (fun q o e=>uR q o (fun c=>by rw [c,h0]at e;cases e) (hs _ _ e)) (fun q o e xP=>uR q o (fun c=>xP ds.length (by rw [c])) e) (fun q m e=> .inl (by injection e with e;subst e;exact⟨_,rfl⟩)) (.acc h0 aB (by simp [FF]) fun q l' e=>?_);rcases BO q ds.length with hq | hq
  ·rw [gV hq]at e
   obtain⟨u,a⟩:=hv q l' e;exact⟨u,by rw [gV (by omega)];exact a⟩
  ·have hq':q=ds.length:=by
    have:=(dK.1 e).1;simp at this;omega
   subst hq';simp at e;subst e;exact⟨t,by rw [kQ (by omega),FF];simp⟩
theorem GL.app (h:GL el S0 S v ds) (hs:bP S0 S) (hl:ds.length<=1000000){z:Value}{zv:V} (hz:LR [z]=some [zv]){b:Nat} (hb:b<=100){t:Tag}{d:Dt}{K:KV}
 (hk:∀u S',bP S0 S'->(∀j o,S j=some o->(∀m,v≠ .acc j m)->S' j=some o)->(∀j m,u= .acc j m->(∃m',v= .acc j m')\/S j=none)->GL el S0 S' u (ds++[d])->K u S'):aP el 1 [z] [(0,1,T t d)] S fun v2 S=>jY el 1 b v v2 S K:=by
 refine h.aQ8 hs ⟨?_,by omega⟩ hz hk;have:(ds.length+1)*b<=1000001*100:=Nat.mul_le_mul (by omega) hb;omega
end
theorem vc1{v:V}{p:List V->Prop} (h:fV v=true):wN v p=p [v]:=by cases v<;>first | rfl | cases h
inductive SL (el:TypeId) (S0 S:Hp):V->List Dt->Nat->Prop
 | nil:SL el S0 S .nil [] 0
 | acc {i n:Nat} {vs:List V} {ds:List Dt} (h0:S0 i=none) (h:S i=some (.gD vs el n)) (hl:vs.length=ds.length) (hv:∀(j:Nat) (d:Dt),ds[j]? =some d->∃t,vs[j]? =some (T t d)):SL el S0 S (.acc i n) ds n
section
variable{el:TypeId}{S0 S S':Hp}{v:V}{ds:List Dt}{n:Nat}
theorem SL.one (h:SL el S0 S v ds n):fV v=true:=by cases h<;>rfl
theorem SL.same (h:SL el S0 S v ds n):BY v=true:=by cases h<;>rfl
theorem SL.up (h:SL el S0 S v ds n) (hle:bP S S'):SL el S0 S' v ds n:=by
 cases h with
 | nil=>exact .nil
 | acc h0 h hl hv=>exact .acc h0 (hle _ _ h) hl hv
theorem SL.base{S1:Hp} (h:SL el S1 S v ds n) (hle:bP S0 S1):SL el S0 S v ds n:=by
 cases h with
 | nil=>exact .nil
 | acc h0 h hl hv=>exact .acc (hle.none h0) h hl hv
theorem SL.Cy (h:SL el S0 S v ds n):Dx S0 S v (.list ds n):=by
 cases h with
 | nil=>exact .nil
 | acc h0 h hl hv=>
  refine .acc h h0 hl fun j v d x1 x2=>?_;obtain⟨t,q⟩:=hv j d x2;rw [x1]at q;injection q with q;subst q;exact aNT t d
theorem SL.set (h:SL el S0 S v ds n){i:Nat}{o p:Ob} (hi:S i=some p) (h1:∀vs m,p≠ .gD vs el m):SL el S0 (aJ S i o) v ds n:=by
 cases h with
 | nil=>exact .nil
 | acc h0 h hl hv=>exact .acc h0 (by rw [aC (fun c=>by rw [c,hi]at h;injection h with h;exact h1 _ _ h)];exact h) hl hv
theorem SL.but (h:SL el S0 S v ds n) (hs:∀j vs m,S j=some (.gD vs el m)->S' j=some (.gD vs el m)):SL el S0 S' v ds n:=by
 cases h with
 | nil=>exact .nil
 | acc h0 h hl hv=>exact .acc h0 (hs _ _ _ h) hl hv
theorem SL.ne (h:SL el S0 S v ds n){b:Nat}{o:Ob} (hb:S b=some o) (ho:∀vs e m,o≠ .gD vs e m):∀m,v≠ .acc b m:=fun m e=>by
 cases h with
 | nil=>cases e
 | acc h0 h hl hv=>injection e with e;subst e;rw [h]at hb;injection hb with hb;exact ho _ _ _ hb.symm
def Lz (us:List V) (new:List Dt):Prop:=us.length=new.length/\∀(j:Nat) (d:Dt),new[j]? =some d->∃t,us[j]? =some (T t d)
theorem Lz.one{us:List V}{new:List Dt} (h:Lz us new):us.all fV=true:=by
 rw [dL];intro u hu;obtain⟨j,hj,rfl⟩:=Bv hu;have Yn:j<new.length:=by rw [<-h.1];exact hj
 obtain⟨t,q⟩:=h.2 j _ (aQ Yn);rw [aQ hj]at q;injection q with q;rw [q];exact aNS t _
theorem Lz.nil:Lz [] []:=⟨rfl,fun j d e=>by cases e⟩
theorem Lz.cons{us:List V}{new:List Dt} (t:Tag) (d:Dt) (h:Lz us new):Lz (T t d::us) (d::new):=⟨by simp [h.1],fun j e q=>by match j with | 0=>injection q with q;subst q;exact⟨t,rfl⟩ | j+1=>exact h.2 j e q⟩
theorem SL.app (h:SL el S0 S v ds n) (hs:bP S0 S) (hl:n<=1000000){k:Nat} (hk0:ds.length=n*k){zs:List Value}{zv us:List V}{new:List Dt} (hz:LR zs=some zv) (My:zv.length=k) (hu:Lz us new) (hul:new.length=k){b:Nat} (hb:b<=100){K:KV}
 (hk:∀u S',bP S0 S'->(∀j o,S j=some o->(∀m,v≠ .acc j m)->S' j=some o)->(∀j m,u= .acc j m->(∃m',v= .acc j m')\/S j=none)->SL el S0 S' u (ds++new) (n+1)->K u S'):aP el 1 zs [(0,k,.agg us)] S fun v2 S=>jY el k b v v2 S K:=by
 have aTc:us.length=k:=by rw [hu.1,hul]
 refine HZ hz My aTc hu.one fun j hj=>?_;have xO:bP S (aJ S j (.row us el)):= .aI hj;refine LQ (m:=1) aB (by rw [Nat.one_mul];omega) ?_;refine⟨hu.one,?_⟩;cases h with
 | nil=>
  refine⟨by rw [dX,Nat.one_mul];omega,fun i hi=>?_⟩;have uR:bP (aJ S j (.row us el)) (aJ (aJ S j (.row us el)) i (.gD us el 1)):= .aI hi;refine hk _ _ ((hs.trans xO).trans uR) (fun q o e _=>uR _ _ (xO _ _ e)) (fun q m e=> .inr (by injection e with e;subst e;exact xO.none hi)) (.acc ((hs.trans xO).none hi) aB (by rw [Bx];exact hu.1) fun q l' e=>?_);rw [Bx]at e;exact hu.2 q l' e
 | @acc i _ vs _ h0 h FF hv=>
  have oX:j≠i:=fun e=>by rw [e,h]at hj;cases hj
  have h':aJ S j (.row us el) i=some (.gD vs el n):=by rw [aC (aN oX)];exact h
  simp only [h']
  have hm:(n+(0+1))*b<=140737488355328/\n+(0+1)<=140737488355328:=by
   have:(n+(0+1))*b<=1000001*100:=Nat.mul_le_mul (by omega) hb;omega
  refine⟨trivial,trivial,by omega,hm,?_⟩;have uR:∀q o,q≠i->S q=some o->aJ (aJ S j (.row us el)) i (.gD (vs++us) el (n+(0+1))) q=some o:=fun q o hq e=>by rw [aC hq];exact xO _ _ e
  refine hk _ _ (fun q o e=>uR q o (fun c=>by rw [c,h0]at e;cases e) (hs _ _ e)) (fun q o e xP=>uR q o (fun c=>xP n (by rw [c])) e) (fun q m e=> .inl (by injection e with e;subst e;exact⟨_,rfl⟩)) (.acc h0 aB (by simp [FF,hu.1]) fun q l' e=>?_);rcases BO q ds.length with hq | hq
  ·rw [gV hq]at e
   obtain⟨u,a⟩:=hv q l' e;exact⟨u,by rw [gV (by omega)];exact a⟩
  ·rw [kQ hq]at e
   obtain⟨t,a⟩:=hu.2 _ _ e;exact⟨t,by rw [kQ (by omega),FF];exact a⟩
end
end Go.Am
namespace Go.Am
open Go.Proofs.JJ
theorem aPb{l:List (Nat×Nat)}:∀{i:Nat} {a b:Nat},l[i]? =some (a,b)->(pds l)[i*2]? =some (nd a)/\(pds l)[i*2+1]? =some (nd b):=by
 induction l with
 | nil=>intro i a b h;cases h
 | cons p l ih=>
  intro i a b h
  match i with
  | 0=>injection h with h;subst h;exact⟨rfl,rfl⟩
  | i+1=>
   have:=ih (i:=i) (a:=a) (b:=b) h;rw [show(i+1)*2=i*2+2 by omega];exact this
theorem aPc{α:Type}{l:List α}{o:Nat}{a b:α} (h1:l[o]? =some a) (h2:l[o+1]? =some b):o+2<=l.length/\(l.drop o).take 2=[a,b]:=by
 have hl:=(dK.1 h2).1;refine⟨by omega,?_⟩;rw [mE (show o<l.length by omega),Xn,mE hl,Xn,Ok];have e1:=aQ (show o<l.length by omega);have e2:=aQ hl;rw [h1]at e1;rw [h2]at e2;injection e1 with e1;injection e2 with e2;rw [<-e1,<-e2]
section
variable{M n:Nat}{x:VE}{S:Hp}{K:KV}{two:Bool}
theorem Deep.aQ7 (hx:Deep PP bI gM M (n+1) x){f:FuncId} (hf:gM f=none){args:List V} (h:∀y,Deep PP bI gM M n y->jU PP bI f y args S K):x.C f args S K:=by
 obtain⟨h1,h2,y,h3,h4,_⟩:=hx;rw [h4 f hf];exact h y h3
theorem lT{p:Nat} (rp:S p=some (.row (pv two) 29)){K:KV}:bJ 12 (.ptr p 0) S K=K (.agg (pv two)) S:=by
 rw [qB rp,dG (by rw [BZ];omega),xS,mF (by rw [BZ];omega)]
end
end Go.Am
namespace Go.Am
def Hn (x:VE) (a0:V) (S:Hp) (K:KV):Prop:=
 iE 42 a0 S fun v0 S=>
 cN vR 42 S fun v1 S=>
 aS 3 v0 fun v2=>
 aU v2 S fun v3 S=>
 aS 5 v0 fun v4=>
 aU v4 S fun v5 S=>
 x.call fN [v3] S fun v6 S=>
 aU v4 S fun v7 _=>
 aW v7 v5 (x.call eG [v5] S fun v8 S=>aS 3 v0 fun v9=>mB 1 v9 v6 S fun S=>aS 5 v0 fun v10=>mB 1 v10 v8 S fun S=>aS 4 v0 fun v11=>aU v11 S fun v12 S=>x.call kJ [v12,(.func cH [] [])] S fun sN S=>aS 4 v0 fun tO=>mB 1 tO sN S fun S=>aS 6 v0 fun zE=>aU zE S fun AM S=>x.call pN [AM,(.func uM [] [])] S fun wF S=>aS 6 v0 fun yR=>mB 1 yR wF S fun S=>bJ 7 v0 S fun wU S=>mB 7 v1 wU S fun S=>bJ 7 v1 S fun v20 _=>bE v20 S K)
theorem aAX (x:VE) (a0:V) (S:Hp) (K:KV):jU PP bI TO x [a0] S K=Hn x a0 S K:=by kernel_rfl
def YS (x:VE) (a0:V) (S:Hp) (K:KV):Prop:=
 iE 68 a0 S fun v0 S=>
 cN vS 68 S fun v1 S=>
 aS 1 v0 fun v2=>
 aU v2 S fun v3 S=>
 x.call kJ [v3,(.func cH [] [])] S fun v4 S=>
 aS 1 v0 fun v5=>
 mB 1 v5 v4 S fun S=>
 bJ 2 v0 S fun v6 S=>
 mB 2 v1 v6 S fun S=>
 bJ 2 v1 S fun v7 _=>
 bE v7 S K
theorem Sx (x:VE) (a0:V) (S:Hp) (K:KV):jU PP bI uM x [a0] S K=YS x a0 S K:=by kernel_rfl
def fS (x:VE) (m:Nat) (t1 t5 t8 t9 t10:V) (S:Hp) (K:KV):Prop:=dQ PP bI kJ x [.r,.r,.l,.r,.d] m [] [t1,t5,t8,t9,t10] S K
def AV (x:VE) (a0 a1:V) (S:Hp) (K:KV):Prop:=
 bK a0 fun v0=>
 fS x x.most a1 .nil a0 v0 (.int .i64 (.ofNat 0)) S K
theorem PO (x:VE) (a0 a1:V) (S:Hp) (K:KV):jU PP bI kJ x [a0,a1] S K=AV x a0 a1 S K:=by kernel_rfl
def mN (x:VE) (m0:Nat) (t1 t5 t8 t9 t10:V) (S:Hp) (K:KV):Prop:=
 cS S fun S=>
 aH PP .lss 3 t10 t9 fun v0=>
 iQ v0 (cI 1 t8 t10 fun v1=>aU v1 S fun v2 S=>lJ x t1 [v2] S fun v3 S=>aP 51 1 cU [(0,1,v3)] S fun v4 S=>jY 51 1 24 t5 v4 S fun v5 S=>aH PP .add 3 t10 (.int .i64 (.ofNat 1)) fun v6=>fS x m0 t1 v5 t8 t9 v6 S K) (bE t5 S K)
theorem tJ (x:VE) (m0:Nat) (t1 t5 t8 t9 t10:V) (S:Hp) (K:KV):fS x (m0+1) t1 t5 t8 t9 t10 S K=mN x m0 t1 t5 t8 t9 t10 S K:=by kernel_rfl
def gZ (x:VE) (m:Nat) (t1 t5 t8 t9 t10:V) (S:Hp) (K:KV):Prop:=dQ PP bI pN x [.r,.r,.l,.r,.d] m [] [t1,t5,t8,t9,t10] S K
def EZ (x:VE) (a0 a1:V) (S:Hp) (K:KV):Prop:=
 bK a0 fun v0=>
 gZ x x.most a1 .nil a0 v0 (.int .i64 (.ofNat 0)) S K
theorem TR (x:VE) (a0 a1:V) (S:Hp) (K:KV):jU PP bI pN x [a0,a1] S K=EZ x a0 a1 S K:=by kernel_rfl
def oD (x:VE) (m0:Nat) (t1 t5 t8 t9 t10:V) (S:Hp) (K:KV):Prop:=
 cS S fun S=>
 aH PP .lss 3 t10 t9 fun v0=>
 iQ v0 (cI 2 t8 t10 fun v1=>bJ 2 v1 S fun v2 S=>cN vS 68 S fun v3 S=>mB 2 v3 v2 S fun S=>bJ 2 v3 S fun v4 S=>lJ x t1 [v4] S fun v5 S=>aP 68 1 vS [(0,2,v5)] S fun v6 S=>jY 68 2 32 t5 v6 S fun v7 S=>aH PP .add 3 t10 (.int .i64 (.ofNat 1)) fun v8=>gZ x m0 t1 v7 t8 t9 v8 S K) (bE t5 S K)
theorem vF (x:VE) (m0:Nat) (t1 t5 t8 t9 t10:V) (S:Hp) (K:KV):gZ x (m0+1) t1 t5 t8 t9 t10 S K=oD x m0 t1 t5 t8 t9 t10 S K:=by kernel_rfl
def OH (x:VE) (a0 a1:V) (S:Hp) (K:KV):Prop:=
 iE 29 a0 S fun v0 S=>
 bJ 12 v0 S fun v1 S=>
 bJ 12 v0 S fun v2 S=>
 aS 6 v0 fun v3=>
 aU v3 S fun v4 S=>
 aH PP .add 3 v4 (.int .i64 (.ofNat 1)) fun v5=>
 x.call CE [v2] S fun v6 S=>
 aU v3 S fun v7 _=>
 aW v7 v4 (bJ 12 v0 S fun v8 _=>aW v8 v1 (x.call MP [v1,a1,v6,v5] S fun v9 S=>aU v3 S fun v10 _=>aW v10 v4 (bE v9 S K)))
theorem Hb (x:VE) (a0 a1:V) (S:Hp) (K:KV):jU PP bI xI x [a0,a1] S K=OH x a0 a1 S K:=by kernel_rfl
def YJ (x:VE) (a0 a1 a2 a3:V) (S:Hp) (K:KV):Prop:=
 iE 29 a0 S fun v0 S=>
 iE 3 a3 S fun v1 S=>
 bK a1 fun v2=>
 aH PP .eql 3 v2 a2 fun v3=>
 gK x true v3 a1 S fun v4 S=>gK x true v3 (.func GV [] [v1,v0]) S fun v5 S=>gL x true v3 (x.call dA [v4,v5] S) S fun v7 S=>gP x true v3 (VJ .not v7) S fun v9 S=>gQ x v3 v9 (.bool false) fun v10=>bE v10 S K
theorem Sk (x:VE) (a0 a1 a2 a3:V) (S:Hp) (K:KV):jU PP bI MP x [a0,a1,a2,a3] S K=YJ x a0 a1 a2 a3 S K:=by kernel_rfl
def RB (x:VE) (a0 a1 a2:V) (S:Hp) (K:KV):Prop:=
 bK a0 fun v0=>
 aU a1 S fun v1 S=>
 aH PP .neq 3 v0 v1 fun v2=>
 gK x false v2 a0 S fun v3 S=>gK x false v2 (.func CD [] [a2]) S fun v4 S=>gL x false v2 (x.call iL [v3,v4] S) S fun v6 S=>gQ x v2 (.bool true) v6 fun v7=>bE v7 S K
theorem Jq (x:VE) (a0 a1 a2:V) (S:Hp) (K:KV):jU PP bI GV x [a0,a1,a2] S K=RB x a0 a1 a2 S K:=by kernel_rfl
def MM (x:VE) (a0 a1:V) (S:Hp) (K:KV):Prop:=
 bJ 12 a1 S fun v0 S=>
 x.call TN [v0,a0] S fun v1 S=>
 VJ .not v1 fun v2=>
 bE v2 S K
theorem Dl (x:VE) (a0 a1:V) (S:Hp) (K:KV):jU PP bI CD x [a0,a1] S K=MM x a0 a1 S K:=by kernel_rfl
def MO (x:VE) (a0:V) (S:Hp) (K:KV):Prop:=
 iE 29 a0 S fun v0 S=>
 aS 7 v0 fun v1=>
 aU v1 S fun v2 S=>
 aS 8 v0 fun v3=>
 aU v3 S fun v4 S=>
 aH PP .add 3 v4 (.int .i64 (.ofNat 1)) fun v5=>
 aH PP .mul 3 v2 v5 fun v6=>
 bE v6 S K
theorem Dm (x:VE) (a0:V) (S:Hp) (K:KV):jU PP bI CE x [a0] S K=MO x a0 S K:=by kernel_rfl
def lW (x:VE) (m:Nat) (t2 t3 t7 t10 t11 t12:V) (S:Hp) (K:KV):Prop:=dQ PP bI pV x [.r,.r,.l,.r,.d] m [] [t2,t3,t7,t10,t11,t12] S K
def RC (x:VE) (a0 a1 a2:V) (S:Hp) (K:KV):Prop:=
 iE 29 a0 S fun v0 S=>
 bK a1 fun v1=>
 lW x x.most a2 v0 .nil a1 v1 (.int .i64 (.ofNat 0)) S K
theorem Jr (x:VE) (a0 a1 a2:V) (S:Hp) (K:KV):jU PP bI pV x [a0,a1,a2] S K=RC x a0 a1 a2 S K:=by kernel_rfl
def uK (x:VE) (m0:Nat) (t2 t3 t7 t10 t11 t12:V) (S:Hp) (K:KV):Prop:=
 cS S fun S=>
 aH PP .lss 3 t12 t11 fun v0=>
 iQ v0 (cI 1 t10 t12 fun v1=>aU v1 S fun v2 S=>bJ 12 t3 S fun v3 S=>x.call TM [v3,v2,t2] S fun v4 S=>aP 22 1 iK [(0,1,v4)] S fun v5 S=>jY 22 1 8 t7 v5 S fun v6 S=>aH PP .add 3 t12 (.int .i64 (.ofNat 1)) fun v7=>lW x m0 t2 t3 v6 t10 t11 v7 S K) (bE t7 S K)
theorem CZ (x:VE) (m0:Nat) (t2 t3 t7 t10 t11 t12:V) (S:Hp) (K:KV):lW x (m0+1) t2 t3 t7 t10 t11 t12 S K=uK x m0 t2 t3 t7 t10 t11 t12 S K:=by kernel_rfl
def kE (x:VE) (m:Nat) (t2 t3 t7 t10 t11 t12:V) (S:Hp) (K:KV):Prop:=dQ PP bI vU x [.r,.r,.l,.r,.d] m [] [t2,t3,t7,t10,t11,t12] S K
def MQ (x:VE) (a0 a1 a2:V) (S:Hp) (K:KV):Prop:=
 iE 29 a0 S fun v0 S=>
 bK a1 fun v1=>
 kE x x.most a2 v0 .nil a1 v1 (.int .i64 (.ofNat 0)) S K
theorem Dn (x:VE) (a0 a1 a2:V) (S:Hp) (K:KV):jU PP bI vU x [a0,a1,a2] S K=MQ x a0 a1 a2 S K:=by kernel_rfl
def rL (x:VE) (m0:Nat) (t2 t3 t7 t10 t11 t12:V) (S:Hp) (K:KV):Prop:=
 cS S fun S=>
 aH PP .lss 3 t12 t11 fun v0=>
 iQ v0 (cI 1 t10 t12 fun v1=>aU v1 S fun v2 S=>bJ 12 t3 S fun v3 S=>x.call pV [v3,v2,t2] S fun v4 S=>aP 51 1 cU [(0,1,v4)] S fun v5 S=>jY 51 1 24 t7 v5 S fun v6 S=>aH PP .add 3 t12 (.int .i64 (.ofNat 1)) fun v7=>kE x m0 t2 t3 v6 t10 t11 v7 S K) (bE t7 S K)
theorem zN (x:VE) (m0:Nat) (t2 t3 t7 t10 t11 t12:V) (S:Hp) (K:KV):kE x (m0+1) t2 t3 t7 t10 t11 t12 S K=rL x m0 t2 t3 t7 t10 t11 t12 S K:=by kernel_rfl
def xH (x:VE) (m:Nat) (t2 t3 t7 t8 t16 t17 VN:V) (S:Hp) (K:KV):Prop:=dQ PP bI TM x [.r,.r,.r,.l,.r,.d] m [] [t2,t3,t7,t8,t16,t17,VN] S K
def Si (x:VE) (a0 a1 a2:V) (S:Hp) (K:KV):Prop:=
 iE 29 a0 S fun v0 S=>
 bJ 12 v0 S fun v1 S=>
 x.call nL [v1,.nil] S fun v2 S=>
 aS 1 v0 fun v3=>
 aU v3 S fun v4 S=>
 x.call oI [(.int .u64 (.ofNat 1)),(.int .u64 (.ofNat 1)),v4] S fun v5 S=>
 bK a1 fun v6=>
 xH x x.most a2 v0 v2 v5 a1 v6 (.int .i64 (.ofNat 0)) S K
theorem aEH (x:VE) (a0 a1 a2:V) (S:Hp) (K:KV):jU PP bI TM x [a0,a1,a2] S K=Si x a0 a1 a2 S K:=by kernel_rfl
def CC (x:VE) (m0:Nat) (t2 t3 t7 t8 t16 t17 VN:V) (S:Hp) (K:KV):Prop:=
 cS S fun S=>
 aH PP .lss 3 VN t17 fun v0=>
 iQ v0 (cI 1 t16 VN fun v1=>aU v1 S fun v2 S=>bJ 12 t3 S fun v3 S=>bJ 12 t3 S fun v4 S=>x.call sW [v4,v2,t8] S fun v5 S=>bJ 12 t3 S fun v6 _=>aW v6 v3 (bJ 12 t3 S fun v7 _=>aW v7 v3 ((aP 22 2 iK [(0,1,t7),(1,1,v5)] S fun v8 S=>True)/\(aP 22 2 iK [(0,1,t7),(1,1,v5)] S fun v9 S=>x.call nL [v3,v9] S fun v10 S=>aS 1 t3 fun v11=>aU v11 S fun v12 S=>x.call oI [t8,t2,v12] S fun sN S=>aH PP .add 3 VN (.int .i64 (.ofNat 1)) fun tO=>xH x m0 t2 t3 v10 sN t16 t17 tO S K)))) (bE t7 S K)
theorem MK (x:VE) (m0:Nat) (t2 t3 t7 t8 t16 t17 VN:V) (S:Hp) (K:KV):xH x (m0+1) t2 t3 t7 t8 t16 t17 VN S K=CC x m0 t2 t3 t7 t8 t16 t17 VN S K:=by kernel_rfl
def Sj (x:VE) (a0 a1:V) (S:Hp) (K:KV):Prop:=
 iE 29 a0 S fun v0 S=>
 aH PP .geq 22 a1 (.int .u64 (.ofNat 1)) fun v1=>
 gK x true v1 a1 S fun v2 S=>gP x true v1 (aS 0 v0) S fun v4 S=>gL x true v1 (aU v4 S) S fun v6 S=>gP x true v1 (aH PP .lss 22 v2 v6) S fun v8 S=>gQ x v1 v8 (.bool false) fun v9=>gL x true v9 (bJ 12 v0 S) S fun v11 S=>gK x true v9 a1 S fun v12 S=>gP x true v9 (aS 1 v0) S fun tO S=>gL x true v9 (aU tO S) S fun AM S=>gL x true v9 (x.call sW [v11,v12,AM] S) S fun yR S=>gP x true v9 (aH PP .eql 22 yR (.int .u64 (.ofNat 1))) S fun v20 S=>gQ x v9 v20 (.bool false) fun v21=>bE v21 S K
theorem aEI (x:VE) (a0 a1:V) (S:Hp) (K:KV):jU PP bI TN x [a0,a1] S K=Sj x a0 a1 S K:=by kernel_rfl
end Go.Am
namespace Go.Am
open Go.Proofs.JJ
def atF (i:Nat):List Nat->Nat->Nat->Nat
 | [],x,_=>x
 | y::l,x,e=>atF i l (FJ [x,pw y e]) (e*i%11)
def atG (l:List Nat) (i:Nat):Nat:=atF i l (FJ []) (1*1%11)
theorem QT (l:List Nat):FJ l<23:=by
 have:∀(l:List Nat) (a:Nat),a<23->l.foldl (fun acc y=>acc*y%23) a<23:=by
  intro l;induction l with
  | nil=>intro a h;exact h
  | cons y l ih=>intro a h;exact ih _ (gI _ (by decide))
 exact this l _ (by decide)
theorem aRM{t:TypeId}{a b:Nat}{k:V->Prop}:aH PP .lss t (nu a) (nu b) k=k (.bool (decide (a<b))):=by rw [rT];congr 2;simp
theorem kD{op:KV->Prop}{S:Hp}{k:KV}:PF true (.bool false) op S k=k YA S:=rfl
section
variable{M n:Nat}{x:VE}{S:Hp}{K:KV}{two:Bool}
theorem aRN (hM:1000000<M) (hx:Deep PP bI gM M (n+3) x){v:V}{l:List Nat}{b:Nat}{S0:Hp}{i0:Nat} (hi0:FC i0) (hle:bP S0 S) (h:NV S v l) (VI:LS l) (hl:l.length<1000000) (hb:S b=some (.row (pv two) 29)){R:Nat} (hK:K (nu R) S0):
 ∀(r i m:Nat) (acc e:Nat) (S1:Hp),bP S S1->i+r=l.length->r<m->acc<23->e<11->atF i0 (l.drop i) acc e=R->xH x m (nu i0) (.ptr b 0) (nu acc) (nu e) v (ni l.length) (ni i) S1 K:=by
 intro r;induction r with
 | zero=>
  intro i m acc e S1 hs hi hm h6 h7 he;obtain⟨m,rfl⟩:=bG (show m≠0 by omega);rw [MK];unfold CC;refine uE S hs ?_;rw [aO,jO (by omega),bC];rw [pH (by omega)]at he;have he:acc=R:=he;rw [he];exact bL hle hK
 | succ r ih=>
  intro i m acc e S1 hs hi hm h6 h7 he;obtain⟨m,rfl⟩:=bG (show m≠0 by omega);rw [MK];unfold CC;refine uE S hs ?_;have hlt:i<l.length:=by omega
  obtain⟨p,hp,RK⟩:=h.at (i:=i) (aQ hlt);have all:∀{K:KV},bJ 12 (.ptr b 0) S K=K (.agg (pv two)) S:=lT hb;have same:∀{p:Prop},aW (.agg (pv two)) (.agg (pv two)) p=p:=fun {p}=>cK rfl;rw [aO,yQ hlt,bR,hp,RK S (.refl S)];simp only [all];refine Fx (two:=two) hx (VI _ (cJ hlt)) (show e<18446744073709551616 by omega) ?_;simp only [all,same];have p1:=aFN l[i] e;refine⟨Jb fun j hj=>trivial,Jb fun j hj=>?_⟩;have le:bP S (aJ S j (.row (oJ [acc,pw l[i] e]) 22)):= .aI hj;refine XN (two:=two) hM (n:=n+1) hx (.own (l:=[acc,pw l[i] e]) aB (fun i z h=>by rw [dX];exact IZ h) (by rw [oK];simp)) (fun z hz=>?_) (by simp) ?_
  ·rcases cC.1 hz with rfl | hz
   ·show z<18446744073709551616;omega
   ·rcases cC.1 hz with rfl | hz
    ·show pw l[i] e<18446744073709551616;omega
    ·cases hz
  ·rw [aV,cW (le _ _ hb) rfl]
   refine QL hx (show e<18446744073709551616 by omega) hi0 qQ ?_;rw [bD (by omega)];refine ih (i+1) m _ _ _ le (by omega) (by omega) (QT _) (gI _ (by decide)) ?_;rw [mE hlt]at he;exact he
theorem aTb (hM:1000000<M) (hx:Deep PP bI gM M (n+4) x){v:V}{l:List Nat}{i0:Nat} (hi0:FC i0) (h:NV S v l) (VI:LS l) (hl:l.length<1000000) (hK:K (nu (atG l i0)) S):x.call TM [.agg (pv two),v,nu i0] S K:=by
 refine hx.call rfl fun y hy=>?_;rw [aEH];unfold Si;refine bX kC fun b hb=>?_;have dH:bP S (aJ S b (.row (pv two) 29)):= .aI hb;have rb:aJ S b (.row (pv two) 29) b=some (.row (pv two) 29):=aB;generalize aJ S b (.row (pv two) 29)=S1 at dH rb;rw [lT rb];refine XN (two:=two) hM hy .nil (fun z hz=>by cases hz) (by simp) ?_;rw [aV,cW rb rfl];refine QL hy (by decide) (by decide) qQ ?_;rw [(h.up dH).len,hy.most];exact aRN (two:=two) hM hy hi0 dH (h.up dH) VI hl rb hK l.length 0 M _ _ S1 (.refl S1) (by omega) (by omega) (QT _) (by decide) rfl
def Aa (x:Nat):Bool:=decide (1<=x)&&(decide (x<23)&&decide (pw x 11=1))
theorem aRj (hM:1000000<M) (hx:Deep PP bI gM M (n+3) x){z:Nat} (hz:FC z) (hK:K (.bool (Aa z)) S):x.call TN [.agg (pv two),nu z] S K:=by
 refine hx.call rfl fun y hy=>?_;rw [aEI];unfold Sj gP gL gK gQ;refine bX kC fun b hb=>?_;have dH:bP S (aJ S b (.row (pv two) 29)):= .aI hb;have rb:aJ S b (.row (pv two) 29) b=some (.row (pv two) 29):=aB;generalize aJ S b (.row (pv two) 29)=S1 at dH rb;rw [aJs];by_cases h1:1<=z
 ·rw [bF h1]
  simp only [aF,aM,aV,cW (o:=0) rb rfl,aRM];by_cases h2:z<23
  ·rw [bF h2]
   simp only [dW,aM,lT rb,cW (o:=1) rb rfl];refine Fx (two:=two) hy hz (by decide) ?_;rw [aNL];refine bL dH ?_;have:Aa z=decide (pw z 11=1):=by unfold Aa;rw [bF h1,bF h2];rfl
   rw [<-this];exact hK
  ·rw [bN h2]
   simp only [dW,dS,kD];refine bL dH ?_;have:Aa z=false:=by unfold Aa;rw [bF h1,bN h2];rfl
   rw [this]at hK;exact hK
 ·rw [bN h1]
  simp only [aF,kD,dS];refine bL dH ?_;have:Aa z=false:=by unfold Aa;rw [bN h1];rfl
  rw [this]at hK;exact hK
end
section
variable{M n:Nat}{x:VE}{S S0:Hp}{K:KV}{two:Bool}
theorem aM8{v:V}{l:List Nat} (h:NV S v l) (hl:l.length<1000000){f:V}{p:Nat->Bool}
 (hf:∀a∈l,∀K:KV,K (.bool (p a)) S->lJ x f [nu a] S K) (hT:l.any p=true->∀j:Nat,K (ni j) S) (hF:l.any p=false->K (.int .i64 (.negSucc 0)) S):
 ∀(r i m:Nat),i+r=l.length->r<m->(l.drop i).any p=l.any p->eE x m v f (ni l.length) (ni i) S K:=by
 intro r;induction r with
 | zero=>
  intro i m hi hm he;obtain⟨m,rfl⟩:=bG (show m≠0 by omega);rw [lM];unfold fZ;refine aE ?_;rw [aO,jO (by omega),bC];rw [pH (by omega)]at he;exact aL (hF he.symm)
 | succ r ih=>
  intro i m hi hm he;obtain⟨m,rfl⟩:=bG (show m≠0 by omega);rw [lM];unfold fZ;refine aE ?_;have hlt:i<l.length:=by omega
  obtain⟨q,hq,RK⟩:=h.at (i:=i) (aQ hlt);rw [aO,yQ hlt,bR,hq,RK S (.refl S)];refine hf l[i] (cJ hlt) _ ?_;rw [mE hlt,Om]at he;cases hp:p l[i]with
  | true=>
   rw [hp,Oq]at he;rw [bR];exact aL (hT he.symm i)
  | false=>
   rw [hp,Bz]at he;rw [bC,bD (by omega)];exact ih (i+1) m (by omega) (by omega) he
theorem aM9 (hM:1000000<M) (hx:Deep PP bI gM M (n+2) x){v:V}{l:List Nat} (h:NV S v l) (hl:l.length<1000000){c:FuncId}{cs:List V}{p:Nat->Bool}
 (hf:∀y,Deep PP bI gM M n y->∀a∈l,∀K:KV,K (.bool (p a)) S->y.call c (nu a::cs) S K) (hK:K (.bool (l.any p)) S):x.call iL [v,.func c [] cs] S K:=by
 refine hx.call rfl fun y hy=>?_;rw [wV];unfold mX;refine hy.call rfl fun u hu=>?_;rw [zB];unfold oL;rw [h.len,hu.most];refine aM8 (x:=u) (f:= .func c [] cs) h hl (p:=p) (fun a ha K hk=>hf u hu a ha K hk) (fun e j=>?_) (fun e=>?_) l.length 0 M (by omega) (by omega) rfl
 ·rw [e]at hK
  rw [zW];exact aL (by rw [bF (BP j)];exact hK)
 ·rw [e]at hK
  rw [CR];exact aL hK
theorem aLa{v:V}{l:List (List Nat)} (h:RL S0 S v l) (hl:l.length<1000000){f:V}{p:List Nat->Bool}
 (hf:∀a∈l,∀w,NL S0 S w a->∀K:KV,K (.bool (p a)) S->lJ x f [w] S K) (hT:l.any p=true->∀j:Nat,K (ni j) S) (hF:l.any p=false->K (.int .i64 (.negSucc 0)) S):
 ∀(r i m:Nat),i+r=l.length->r<m->(l.drop i).any p=l.any p->cT x m v f (ni l.length) (ni i) S K:=by
 intro r;induction r with
 | zero=>
  intro i m hi hm he;obtain⟨m,rfl⟩:=bG (show m≠0 by omega);rw [iH];unfold eA;refine aE ?_;rw [aO,jO (by omega),bC];rw [pH (by omega)]at he;exact aL (hF he.symm)
 | succ r ih=>
  intro i m hi hm he;obtain⟨m,rfl⟩:=bG (show m≠0 by omega);rw [iH];unfold eA;refine aE ?_;have hlt:i<l.length:=by omega
  obtain⟨q,w,hq,RK,hw⟩:=h.at (i:=i) (aQ hlt);rw [aO,yQ hlt,bR,hq,RK S (.refl S)];refine hf l[i] (cJ hlt) w hw _ ?_;rw [mE hlt,Om]at he;cases hp:p l[i]with
  | true=>
   rw [hp,Oq]at he;rw [bR];exact aL (hT he.symm i)
  | false=>
   rw [hp,Bz]at he;rw [bC,bD (by omega)];exact ih (i+1) m (by omega) (by omega) he
theorem aCM (hM:1000000<M) (hx:Deep PP bI gM M (n+2) x){v:V}{l:List (List Nat)} (h:RL S0 S v l) (hl:l.length<1000000){c:FuncId}{cs:List V}{p:List Nat->Bool}
 (hf:∀y,Deep PP bI gM M n y->∀a∈l,∀w,NL S0 S w a->∀K:KV,K (.bool (p a)) S->y.call c (w::cs) S K) (hK:K (.bool (l.any p)) S):x.call dA [v,.func c [] cs] S K:=by
 refine hx.call rfl fun y hy=>?_;rw [qO];unfold iX;refine hy.call rfl fun u hu=>?_;rw [sH];unfold jV;rw [h.len,hu.most];refine aLa (x:=u) (f:= .func c [] cs) h hl (p:=p) (fun a ha w hw K hk=>hf u hu a ha w hw K hk) (fun e j=>?_) (fun e=>?_) l.length 0 M (by omega) (by omega) rfl
 ·rw [e]at hK
  rw [zW];exact aL (by rw [bF (BP j)];exact hK)
 ·rw [e]at hK
  rw [CR];exact aL hK
def qK (l:List (List Nat)):Bool:=decide (l.length=2)&& !(l.any fun c=> !decide (c.length=2) || c.any fun x=> !Aa x)
theorem aGj{t:TypeId}{a b:Nat}{k:V->Prop}:aH PP .neq t (ni a) (ni b) k=k (.bool (!decide (a=b))):=tZ
theorem wR{op:KV->Prop}{S:Hp}{k:KV}:PF false (.bool true) op S k=k YA S:=rfl
theorem aNa (hM:1000000<M) (hx:Deep PP bI gM M (n+4) x){b a:Nat} (ha:FC a) (rb:S b=some (.row (pv two) 29)) (hK:K (.bool (!Aa a)) S):x.call CD [nu a,.ptr b 0] S K:=by
 refine hx.call rfl fun y hy=>?_;rw [Dl];unfold MM;rw [lT rb];refine aRj (two:=two) hM hy ha ?_;exact aL hK
theorem aPN (hM:1000000<M) (hx:Deep PP bI gM M (n+7) x){w:V}{l:List Nat}{b c:Nat} (hw:NL S0 S w l) (VI:LS l) (rb:S b=some (.row (pv two) 29)) (rc:S c=some (.row [ni 2] 3)) (hK:K (.bool (!decide (l.length=2) || l.any fun x=> !Aa x)) S):x.call GV [w,.ptr c 0,.ptr b 0] S K:=by
 refine hx.call rfl fun y hy=>?_;rw [Jq];unfold RB gL gK gQ;rw [hw.nv.len,cW rc rfl,aGj];by_cases e:l.length=2
 ·rw [bF e]at hK ⊢
  simp only [aF,eQ,aM];refine aM9 (n:=n+4) hM hy hw.nv (by omega) (p:=fun x=> !Aa x) (fun u hu a ha K hk=>aNa (two:=two) hM hu (VI a ha) rb hk) ?_;exact aL hK
 ·rw [bN e]at hK ⊢
  simp only [aF,BN,wR];exact aL hK
theorem aPO (hx:Deep PP bI gM M (n+1) x) (hK:K (ni 2) S):x.call CE [.agg (pv two)] S K:=by
 refine hx.call rfl fun y hy=>?_;rw [Dm];unfold MO;refine bX kC fun b hb=>?_;rw [aV,cW (o:=7) aB rfl,aV,cW (o:=8) aB rfl,bD (by decide),Cz (by decide)];exact bL (.aI hb) hK
theorem aRO (hM:1000000<M) (hx:Deep PP bI gM M (n+10) x){v:V}{l:List (List Nat)} (h:RL S0 S v l) (VI:∀c∈l,LS c) (hK:K (.bool (qK l)) S):x.call MP [.agg (pv two),v,ni 2,ni 2] S K:=by
 refine hx.call rfl fun y hy=>?_;rw [Sk];unfold YJ gP gL gK gQ;refine bX kC fun b hb=>?_;have dH:bP S (aJ S b (.row (pv two) 29)):= .aI hb;have rb:aJ S b (.row (pv two) 29) b=some (.row (pv two) 29):=aB;generalize aJ S b (.row (pv two) 29)=S1 at dH rb;refine ZY rfl fun c hc=>?_;have fF:bP S1 (aJ S1 c (.row [ni 2] 3)):= .aI hc;have rc:aJ S1 c (.row [ni 2] 3) c=some (.row [ni 2] 3):=aB;generalize aJ S1 c (.row [ni 2] 3)=S2 at fF rc;have rb:=fF _ _ rb;have le:=dH.trans fF;rw [(h.up le).len,JA];by_cases e:l.length=2
 ·have e2:qK l= !(l.any fun c=> !decide (c.length=2) || c.any fun x=> !Aa x):=by unfold qK;rw [bF e];rfl
  rw [bF e];simp only [aF,aM];refine aCM (n:=n+7) hM hy (h.up le) (by omega) (p:=fun c=> !decide (c.length=2) || c.any fun x=> !Aa x) (fun u hu a ha w hw K hk=>aPN (two:=two) hM hu hw (VI a ha) rb rc hk) ?_;rw [e2]at hK;exact bL le hK
 ·have e2:qK l=false:=by unfold qK;rw [bN e];rfl
  rw [bN e];simp only [aF,kD];rw [e2]at hK;exact bL le hK
theorem aCN (hM:1000000<M) (hx:Deep PP bI gM M (n+11) x){v:V}{l:List (List Nat)} (h:RL S0 S v l) (VI:∀c∈l,LS c) (hK:K (.bool (qK l)) S):x.call xI [.agg (pv two),v] S K:=by
 refine hx.call rfl fun y hy=>?_;rw [Hb];unfold OH;refine bX kC fun b hb=>?_;have dH:bP S (aJ S b (.row (pv two) 29)):= .aI hb;have rb:aJ S b (.row (pv two) 29) b=some (.row (pv two) 29):=aB;generalize aJ S b (.row (pv two) 29)=S1 at dH rb;have all:∀{K:KV},bJ 12 (.ptr b 0) S1 K=K (.agg (pv two)) S1:=lT rb;have same:∀{p:Prop},aW (.agg (pv two)) (.agg (pv two)) p=p:=fun {p}=>cK rfl;have l6:∀{K:KV},aU (.ptr b 6) S1 K=K (ni 1) S1:=cW rb rfl;simp only [all,aV,l6];rw [show aH PP .add 3 (ni 1) (.int .i64 (.ofNat 1))=fun k=>k (ni 2)from by funext k;exact bD (by decide)];refine aPO (two:=two) hy ?_;simp only [all,same,l6,cM];refine aRO (two:=two) hM hy (h.up dH) VI ?_;simp only [l6,cM];exact bL dH hK
end
end Go.Am
namespace Go.Am
def nC (x:VE) (m:Nat) (t7 t8 t9 t26 t27:V) (S:Hp) (K:KV):Prop:=dQ PP bI MI x [.r,.r,.r,.r,.l,.r,.d] m [] [t7,t8,t9,t26,t27] S K
def Sh (x:VE) (a0 a1 a2:V) (S:Hp) (K:KV):Prop:=
 iE 29 a0 S fun v0 S=>
 aS 6 v0 fun v1=>
 aU v1 S fun v2 S=>
 aH PP .add 3 v2 (.int .i64 (.ofNat 1)) fun v3=>
 aH PP .mul 3 v3 v3 fun v4=>
 aH PP .sub 3 v4 (.int .i64 (.ofNat 1)) fun v5=>
 aS 1 v0 fun v6=>
 aU v6 S fun v7 S=>
 x.call wK [a1,v5,v7,a2] S fun v8 S=>
 vMk 51 24 cU v3 v3 S fun v9 S=>
 bK v9 fun v10=>
 nC x x.most v3 v8 v9 v10 (.int .i64 (.ofNat 0)) S K
theorem aEG (x:VE) (a0 a1 a2:V) (S:Hp) (K:KV):jU PP bI MI x [a0,a1,a2] S K=Sh x a0 a1 a2 S K:=by kernel_rfl
def AD (x:VE) (m0:Nat) (t7 t8 t9 t26 t27:V) (S:Hp) (K:KV):Prop:=
 cS S fun S=>
 aH PP .lss 3 t27 t26 fun v0=>
 iQ v0 (aH PP .mul 3 t27 t7 fun v1=>aH PP .add 3 t27 (.int .i64 (.ofNat 1)) fun v2=>aH PP .mul 3 v2 t7 fun v3=>aH PP .add 3 t27 (.int .i64 (.ofNat 1)) fun v4=>aH PP .mul 3 v4 t7 fun v5=>LW 22 1 t8 (some v1) (some v3) (some v5) S fun v6=>cI 1 t9 t27 fun v7=>mB 1 v7 v6 S fun S=>aH PP .add 3 t27 (.int .i64 (.ofNat 1)) fun v8=>nC x m0 t7 t8 t9 t26 v8 S K) (bE t9 S K)
theorem JS (x:VE) (m0:Nat) (t7 t8 t9 t26 t27:V) (S:Hp) (K:KV):nC x (m0+1) t7 t8 t9 t26 t27 S K=AD x m0 t7 t8 t9 t26 t27 S K:=by kernel_rfl
def qE (x:VE) (m:Nat) (t0 t1 t5 t11 t12:V) (S:Hp) (K:KV):Prop:=dQ PP bI sF x [.r,.r,.l,.r,.d] m [] [t0,t1,t5,t11,t12] S K
def Gg (x:VE) (a0 a1:V) (S:Hp) (K:KV):Prop:=
 bK a0 fun v0=>
 vMk 145 16 GK v0 v0 S fun v1 S=>
 bK v1 fun v2=>
 qE x x.most a0 a1 v1 v2 (.int .i64 (.ofNat 0)) S K
theorem aAo (x:VE) (a0 a1:V) (S:Hp) (K:KV):jU PP bI sF x [a0,a1] S K=Gg x a0 a1 S K:=by kernel_rfl
def zY (x:VE) (m0:Nat) (t0 t1 t5 t11 t12:V) (S:Hp) (K:KV):Prop:=
 cS S fun S=>
 aH PP .lss 3 t12 t11 fun v0=>
 iQ v0 (cI 1 t0 t12 fun v1=>aU v1 S fun v2 S=>cI 1 t1 t12 fun v3=>aU v3 S fun v4 S=>cF GK [(0,1,v2),(1,1,v4)] fun v5=>cI 2 t5 t12 fun v6=>mB 2 v6 v5 S fun S=>aH PP .add 3 t12 (.int .i64 (.ofNat 1)) fun v7=>qE x m0 t0 t1 t5 t11 v7 S K) (bE t5 S K)
theorem JL (x:VE) (m0:Nat) (t0 t1 t5 t11 t12:V) (S:Hp) (K:KV):qE x (m0+1) t0 t1 t5 t11 t12 S K=zY x m0 t0 t1 t5 t11 t12 S K:=by kernel_rfl
def NZ (x:VE) (a0 a1 a2:V) (S:Hp) (K:KV):Prop:=
 iE 29 a0 S fun v0 S=>
 cN cU 76 S fun v1 S=>
 x.call lI [a1,a2] S fun v2 S=>
 PH x v2 [3,7] [v0,v1] 23 (EE PP bQ [.r,.r,.l,.r,.d]) (EG PP bQ [.r,.r,.l,.r,.d]) (yX PP bQ [.r,.r,.l,.r,.d]) S fun pe S=>
 UJ pe (aU v1 S fun v4 S=>bE v4 S K) (bE .nil S K) (fun v3=>Bf v3 0 (aU v1 S fun v5 S=>bE v5 S K) (False))
theorem Ga (x:VE) (a0 a1 a2:V) (S:Hp) (K:KV):jU PP bI bQ x [a0,a1,a2] S K=NZ x a0 a1 a2 S K:=by kernel_rfl
def AS (x:VE) (l:Nat) (t3 t7 a0 a1:V) (S:Hp) (K:KV):Prop:=
 Be l S fun S=>
 aU t7 S fun v0 S=>
 bJ 12 t3 S fun v1 S=>
 x.call aR [v1,a0,a1] S fun v2 S=>
 aU t7 S fun v3 _=>
 aW v3 v0 (aU t7 S fun v4 _=>aW v4 v0 ((aP 33 1 cU [(0,1,v2)] S fun v5 S=>True)/\(aP 33 1 cU [(0,1,v2)] S fun v6 S=>jY 33 1 24 v0 v6 S fun v7 S=>mB 1 t7 v7 S fun S=>JR l .ready none true S K)))
theorem QS (x:VE) (l:Nat) (t3 t7 a0 a1:V) (S:Hp) (K:KV):YD PP bI x 23 (EE PP bQ [.r,.r,.l,.r,.d]) (EG PP bQ [.r,.r,.l,.r,.d]) (yX PP bQ [.r,.r,.l,.r,.d]) l [t3,t7] [a0,a1] S K=AS x l t3 t7 a0 a1 S K:=by kernel_rfl
theorem QR:[3,7]=Au bI 23 (yX PP bQ [.r,.r,.l,.r,.d]):=by kernel_rfl
def rD (x:VE) (a0 a1:V) (S:Hp) (K:KV):Prop:=
 iE 76 a0 S fun v0 S=>
 iE 76 a1 S fun v1 S=>
 bE (.func eI [] [v0,v1]) S K
theorem DD (x:VE) (a0 a1:V) (S:Hp) (K:KV):jU PP bI lI x [a0,a1] S K=rD x a0 a1 S K:=by kernel_rfl
def fG (x:VE) (m:Nat) (t0 t1 t2 t9 t10:V) (S:Hp) (K:KV):Prop:=dQ PP bI eI x [.r,.d] m [] [t0,t1,t2,t9,t10] S K
def pR (x:VE) (a0 a1 a2:V) (S:Hp) (K:KV):Prop:=
 aU a1 S fun v0 S=>
 bK v0 fun v1=>
 aU a2 S fun v2 S=>
 bK v2 fun v3=>
 Dc true v1 v3 fun v4=>
 fG x x.most a0 a1 a2 v4 (.int .i64 (.ofNat 0)) S K
theorem AQ (x:VE) (a0 a1 a2:V) (S:Hp) (K:KV):jU PP bI eI x [a0,a1,a2] S K=pR x a0 a1 a2 S K:=by kernel_rfl
def iR (x:VE) (m0:Nat) (t0 t1 t2 t9 t10:V) (S:Hp) (K:KV):Prop:=
 cS S fun S=>
 aH PP .lss 3 t10 t9 fun v0=>
 iQ v0 (aU t1 S fun v1 S=>aU t2 S fun v2 S=>x.call jK [v1,t10] S fun v3 S=>aU t2 S fun v4 _=>aW v4 v2 (x.call jK [v2,t10] S fun v5 S=>lJ x t0 [v3,v5] S fun v6 S=>VJ .not v6 fun v7=>iQ v7 (bE (.tuple []) S K) (aH PP .add 3 t10 (.int .i64 (.ofNat 1)) fun v8=>fG x m0 t0 t1 t2 t9 v8 S K))) (bE (.tuple []) S K)
theorem nE (x:VE) (m0:Nat) (t0 t1 t2 t9 t10:V) (S:Hp) (K:KV):fG x (m0+1) t0 t1 t2 t9 t10 S K=iR x m0 t0 t1 t2 t9 t10 S K:=by kernel_rfl
def uD (x:VE) (a0 a1:V) (S:Hp) (K:KV):Prop:=
 bK a0 fun v0=>
 aH PP .geq 3 a1 v0 fun v1=>
 iQ v1 (bE .nil S K) (cI 1 a0 a1 fun v2=>aU v2 S fun v3 S=>bE v3 S K)
theorem GP (x:VE) (a0 a1:V) (S:Hp) (K:KV):jU PP bI jK x [a0,a1] S K=uD x a0 a1 S K:=by kernel_rfl
def Kx (x:VE) (a0 a1 a2:V) (S:Hp) (K:KV):Prop:=
 iE 22 a1 S fun v0 S=>
 iE 22 a2 S fun v1 S=>
 x.call EJ [a0] S fun v2 S=>
 vMk 22 8 iK v2 v2 S fun v3 S=>
 cN cU 51 S fun v4 S=>
 mB 1 v4 v3 S fun S=>
 x.call JD [a0] S fun v5 S=>
 PH x v5 [4,5,7] [v0,v1,v4] 25 (EE PP cL [.r,.r,.l,.r,.d]) (EG PP cL [.r,.r,.l,.r,.d]) (yX PP cL [.r,.r,.l,.r,.d]) S fun pe S=>
 UJ pe (aU v4 S fun v7 S=>bE v7 S K) (bE .nil S K) (fun v6=>Bf v6 0 (aU v4 S fun v8 S=>bE v8 S K) (False))
theorem aCa (x:VE) (a0 a1 a2:V) (S:Hp) (K:KV):jU PP bI cL x [a0,a1,a2] S K=Kx x a0 a1 a2 S K:=by kernel_rfl
def LZ (x:VE) (l:Nat) (t4 t5 t7 a0 a1:V) (S:Hp) (K:KV):Prop:=
 Be l S fun S=>
 aU t7 S fun v0 S=>
 aU t4 S fun v1 S=>
 aU t5 S fun v2 S=>
 x.call yE [a1,v1,v2] S fun v3 S=>
 aU t7 S fun v4 _=>
 aW v4 v0 (cI 1 v0 a0 fun v5=>mB 1 v5 v3 S fun S=>JR l .ready none true S K)
theorem Gf (x:VE) (l:Nat) (t4 t5 t7 a0 a1:V) (S:Hp) (K:KV):YD PP bI x 25 (EE PP cL [.r,.r,.l,.r,.d]) (EG PP cL [.r,.r,.l,.r,.d]) (yX PP cL [.r,.r,.l,.r,.d]) l [t4,t5,t7] [a0,a1] S K=LZ x l t4 t5 t7 a0 a1 S K:=by kernel_rfl
theorem Ge:[4,5,7]=Au bI 25 (yX PP cL [.r,.r,.l,.r,.d]):=by kernel_rfl
def sE (x:VE) (m:Nat) (t1 t2 t7 t13 t14 t15:V) (S:Hp) (K:KV):Prop:=dQ PP bI nX x [.r,.r,.l,.r,.d] m [] [t1,t2,t7,t13,t14,t15] S K
def Ky (x:VE) (a0 a1 a2:V) (S:Hp) (K:KV):Prop:=
 bK a0 fun v0=>
 vMk 22 8 iK v0 v0 S fun v1 S=>
 bK a0 fun v2=>
 sE x x.most a1 a2 v1 a0 v2 (.int .i64 (.ofNat 0)) S K
theorem aCb (x:VE) (a0 a1 a2:V) (S:Hp) (K:KV):jU PP bI nX x [a0,a1,a2] S K=Ky x a0 a1 a2 S K:=by kernel_rfl
def CB (x:VE) (m0:Nat) (t1 t2 t7 t13 t14 t15:V) (S:Hp) (K:KV):Prop:=
 cS S fun S=>
 aH PP .lss 3 t15 t14 fun v0=>
 iQ v0 (cI 1 t13 t15 fun v1=>aU v1 S fun v2 S=>x.call yE [v2,t1,t2] S fun v3 S=>cI 1 t7 t15 fun v4=>mB 1 v4 v3 S fun S=>aH PP .add 3 t15 (.int .i64 (.ofNat 1)) fun v5=>sE x m0 t1 t2 t7 t13 t14 v5 S K) (bE t7 S K)
theorem MA (x:VE) (m0:Nat) (t1 t2 t7 t13 t14 t15:V) (S:Hp) (K:KV):sE x (m0+1) t1 t2 t7 t13 t14 t15 S K=CB x m0 t1 t2 t7 t13 t14 t15 S K:=by kernel_rfl
def vO (x:VE) (m:Nat) (t3 t6 t7 t8:V) (S:Hp) (K:KV):Prop:=dQ PP bI EJ x [.r,.r,.l,.r,.d] m [] [t3,t6,t7,t8] S K
def Gc (x:VE) (a0:V) (S:Hp) (K:KV):Prop:=
 bK a0 fun v0=>
 vO x x.most (.int .i64 (.ofNat 0)) a0 v0 (.int .i64 (.ofNat 0)) S K
theorem aAn (x:VE) (a0:V) (S:Hp) (K:KV):jU PP bI EJ x [a0] S K=Gc x a0 S K:=by kernel_rfl
def zX (x:VE) (m0:Nat) (t3 t6 t7 t8:V) (S:Hp) (K:KV):Prop:=
 cS S fun S=>
 aH PP .lss 3 t8 t7 fun v0=>
 iQ v0 (cI 1 t6 t8 fun v1=>aU v1 S fun v2 S=>bK v2 fun v3=>Dc true t3 v3 fun v4=>aH PP .add 3 t8 (.int .i64 (.ofNat 1)) fun v5=>vO x m0 v4 t6 t7 v5 S K) (bE t3 S K)
theorem JK (x:VE) (m0:Nat) (t3 t6 t7 t8:V) (S:Hp) (K:KV):vO x (m0+1) t3 t6 t7 t8 S K=zX x m0 t3 t6 t7 t8 S K:=by kernel_rfl
def UH (x:VE) (a0:V) (S:Hp) (K:KV):Prop:=
 iE 33 a0 S fun v0 S=>
 aU v0 S fun v1 S=>
 x.call Bl [v1] S fun v2 S=>
 cN [.nilFunc] 272 S fun v3 S=>
 mB 1 v3 v2 S fun S=>
 bE (.func lU [] [v0,v3]) S K
theorem Lv (x:VE) (a0:V) (S:Hp) (K:KV):jU PP bI JD x [a0] S K=UH x a0 S K:=by kernel_rfl
def nW (x:VE) (m:Nat) (t0 t1 t2 t8 t9:V) (S:Hp) (K:KV):Prop:=dQ PP bI lU x [.r,.d] m [] [t0,t1,t2,t8,t9] S K
def jL (x:VE) (m:Nat) (m0:Nat) (t0 t1 t2 t4 t5 t8 t9 t13 t14:V) (S:Hp) (K:KV):Prop:=dQ PP bI lU x [.r,.d,.d,.r,.r,.l,.d,.r,.r,.l,.r,.d] m [m0] [t0,t1,t2,t4,t5,t8,t9,t13,t14] S K
def OA (x:VE) (a0 a1 a2:V) (S:Hp) (K:KV):Prop:=
 aU a1 S fun v0 S=>
 x.call EJ [v0] S fun v1 S=>
 nW x x.most a0 a1 a2 v1 (.int .i64 (.ofNat 0)) S K
theorem Gd (x:VE) (a0 a1 a2:V) (S:Hp) (K:KV):jU PP bI lU x [a0,a1,a2] S K=OA x a0 a1 a2 S K:=by kernel_rfl
def wO (x:VE) (m0:Nat) (t0 t1 t2 t8 t9:V) (S:Hp) (K:KV):Prop:=
 cS S fun S=>
 aH PP .lss 3 t9 t8 fun v0=>
 iQ v0 (aU t1 S fun v1 S=>bK v1 fun v2=>jL x x.most m0 t0 t1 t2 t9 .nil t8 t9 v2 (.int .i64 (.ofNat 0)) S K) (bE (.tuple []) S K)
theorem FL (x:VE) (m0:Nat) (t0 t1 t2 t8 t9:V) (S:Hp) (K:KV):nW x (m0+1) t0 t1 t2 t8 t9 S K=wO x m0 t0 t1 t2 t8 t9 S K:=by kernel_rfl
def mK (x:VE) (m1:Nat) (m0:Nat) (t0 t1 t2 t4 t5 t8 t9 t13 t14:V) (S:Hp) (K:KV):Prop:=
 cS S fun S=>
 aH PP .lss 3 t14 t13 fun v0=>
 iQ v0 (aU t2 S fun v1 S=>lJ x v1 [t14,t4] S fun v2 S=>aP 22 1 iK [(0,1,v2)] S fun v3 S=>jY 22 1 8 t5 v3 S fun v4 S=>aH PP .add 3 t14 (.int .i64 (.ofNat 1)) fun v5=>jL x m1 m0 t0 t1 t2 t4 v4 t8 t9 t13 v5 S K) (lJ x t0 [t4,t5] S fun v6 S=>VJ .not v6 fun v7=>iQ v7 (bE (.tuple []) S K) (aH PP .add 3 t9 (.int .i64 (.ofNat 1)) fun v8=>nW x m0 t0 t1 t2 t8 v8 S K))
theorem tF (x:VE) (m1:Nat) (m0:Nat) (t0 t1 t2 t4 t5 t8 t9 t13 t14:V) (S:Hp) (K:KV):jL x (m1+1) m0 t0 t1 t2 t4 t5 t8 t9 t13 t14 S K=mK x m1 m0 t0 t1 t2 t4 t5 t8 t9 t13 t14 S K:=by kernel_rfl
def Ay (x:VE) (a0:V) (S:Hp) (K:KV):Prop:=
 iE 33 a0 S fun v0 S=>
 bE (.func kO [] [v0]) S K
theorem Up (x:VE) (a0:V) (S:Hp) (K:KV):jU PP bI Bl x [a0] S K=Ay x a0 S K:=by kernel_rfl
def UG (x:VE) (a0 a1 a2:V) (S:Hp) (K:KV):Prop:=
 aU a2 S fun v0 S=>
 cI 1 v0 a0 fun v1=>
 aU v1 S fun v2 S=>
 bK v2 fun v3=>
 aH PP .geq 3 a1 v3 fun v4=>
 iQ v4 (bE (.int .u64 (.ofNat 0)) S K) (aU a2 S fun v5 S=>cI 1 v5 a0 fun v6=>aU v6 S fun v7 S=>cI 1 v7 a1 fun v8=>aU v8 S fun v9 S=>bE v9 S K)
theorem Lu (x:VE) (a0 a1 a2:V) (S:Hp) (K:KV):jU PP bI kO x [a0,a1,a2] S K=UG x a0 a1 a2 S K:=by kernel_rfl
end Go.Am
namespace Go.Am
open Go.Proofs.JJ
def pA (n:Nat) (l:List Nat):List (List Nat):=(List.range n).map fun i=>(l.drop (i*n)).take n
theorem Jd (n:Nat) (l:List Nat):(pA n l).length=n:=by unfold pA;simp
theorem aJC (l:List Nat) (k:Nat):(iV l).drop k=iV (l.drop k):=by unfold iV;rw [List.map_drop]
theorem aJD (l:List Nat) (k:Nat):(iV l).take k=iV (l.take k):=by unfold iV;rw [List.map_take]
section
variable{M n:Nat}{x:VE}{S:Hp}{K:KV}{two:Bool}{t d:Nat}{s:BitVec 64}{ah:List Nat}
def tQ (two:Bool):Nat:=(tT two+1)*(tT two+1)-1
end
end Go.Am
namespace Go.Am
def mD (l:List (List (List Nat))):List Dt:=l.map fun m=> .list (dO m) m.length
theorem SZ (l:List (List (List Nat))):(mD l).length=l.length:=mH _
theorem aB8{l:List (List (List Nat))}{i:Nat}{m:List (List Nat)} (h:l[i]? =some m):(mD l)[i]? =some (.list (dO m) m.length):=by unfold mD;rw [dJ,h];rfl
theorem aAm (l m:List (List (List Nat))):mD (l++m)=mD l++mD m:=RQ
def tL (fs bs:List (List (List Nat))):List (List (List Nat)):=List.zipWith dY fs bs
theorem aHm{f r:List (List (List Nat))}{i:Nat} (h1:i<f.length) (h2:i<r.length):(tL f r).take (i+1)=(tL f r).take i++[dY f[i] r[i]]:=by
 have hl:i<(List.zipWith dY f r).length:=by rw [rG];omega
 show(List.zipWith dY f r).take (i+1)=(List.zipWith dY f r).take i++[dY f[i] r[i]];rw [KT,aQ hl,Oc];rfl
section
variable{M n:Nat}{x:VE}{S S0:Hp}{K:KV}{two:Bool}
theorem aNU (hx:Deep PP bI gM M (n+1) x){v:V}{ls:List (List (List Nat))} (h:GL 33 S0 S v (mD ls)){i:Nat} (hi:i<ls.length) (hK:∀t,K (.list t (dO ls[i]) ls[i].length) S):x.call jK [v,ni i] S K:=by
 refine hx.call rfl fun y hy=>?_;rw [GP];unfold uD;obtain⟨p,t,hp,RK⟩:=h.at (aB8 (aQ hi));rw [h.len,SZ,zW,bN (by omega),bC,hp,RK S (.refl S)];exact aL (hK t)
theorem aJE (hx:Deep PP bI gM M (n+1) x){v w:V} (h1:fV v=true) (h2:fV w=true) (hK:∀b1 b2 S',S b1=none->S b2=none->b1≠b2->bP S S'->S' b1=some (.row [v] 76)->S' b2=some (.row [w] 76)->K (.func eI [] [.ptr b1 0,.ptr b2 0]) S'):x.call lI [v,w] S K:=by
 refine hx.call rfl fun y hy=>?_;rw [DD];unfold rD;refine ZY h1 fun b1 Dv=>ZY h2 fun b2 NN=>aL ?_;have dH:bP S (aJ S b1 (.row [v] 76)):= .aI Dv;have oX:b1≠b2:=fun e=>by rw [<-e,aB]at NN;cases NN
 exact hK b1 b2 _ Dv (dH.none NN) oX (dH.trans (.aI NN)) (by rw [aC oX];exact aB) aB
theorem aJF (hM:1000000<M) (hx:Deep PP bI gM M (n+3) x){l b1 b2:Nat}{va vb:V}{a b:List (List (List Nat))} (hlen:b.length=a.length) (hl:a.length<1000000){Inv:Nat->Hp->Prop}{Oa:Hp} (hI:∀i S,Inv i S->S b1=some (.row [va] 76)/\S b2=some (.row [vb] 76)/\GL 33 Oa S va (mD a)/\GL 33 Oa S vb (mD b))
 (step:∀(y:VE),Deep PP bI gM M (n+2) y->∀(i:Nat) (S:Hp) (h1:i<a.length) (h2:i<b.length) (t1 t2:Tag) (K:KV),Inv i S->(∀S',Inv (i+1) S'->K (.bool true) S')->y.R l [.list t1 (dO a[i]) a[i].length,.list t2 (dO b[i]) b[i].length] S K) (h0:Inv 0 S) (hK:∀S,Inv a.length S->K (.tuple []) S):x.call eI [.yield l,.ptr b1 0,.ptr b2 0] S K:=by
 refine hx.call rfl fun y hy=>?_;rw [AQ];unfold pR;obtain⟨q1,q2,q3,q4⟩:=hI 0 S h0;rw [cW q1 rfl,q3.len,cW q2 rfl,q4.len,SZ,SZ,hlen,aDZ,hy.most]
 have:∀(r i m:Nat) (S:Hp),i+r=a.length->r<m->Inv i S->fG y m (.yield l) (.ptr b1 0) (.ptr b2 0) (ni a.length) (ni i) S K:=by
  intro r;induction r with
  | zero=>
   intro i m S hi hm h;obtain⟨m,rfl⟩:=bG (show m≠0 by omega);rw [nE];unfold iR;refine aE ?_;rw [aO,jO (by omega),bC];have e:i=a.length:=by omega
   subst e;exact aL (hK S h)
  | succ r ih=>
   intro i m S hi hm h;obtain⟨m,rfl⟩:=bG (show m≠0 by omega);rw [nE];unfold iR;refine aE ?_;obtain⟨q1,q2,q3,q4⟩:=hI i S h;rw [aO,yQ (by omega),bR,cW q1 rfl,cW q2 rfl];refine aNU hy q3 (show i<a.length by omega) fun t1=>?_;rw [cW q2 rfl,cK q4.same];refine aNU hy q4 (show i<b.length by omega) fun t2=>?_;refine step y hy i S (by omega) (by omega) t1 t2 _ h fun S' h'=>?_;rw [lR,eQ,bC,bD (by omega)];exact ih (i+1) m S' (by omega) (by omega) h'
 exact this a.length 0 M S (by omega) (by omega) h0
def loM (a b:Nat) (st:LoopState):Ob:= .loop [3,7] [.ptr a 0,.ptr b 0] 23 (EE PP bQ [.r,.r,.l,.r,.d]) (EG PP bQ [.r,.r,.l,.r,.d]) (yX PP bQ [.r,.r,.l,.r,.d]) st none
structure aMB (SA:Hp) (bp bo b1 b2 l:Nat) (two:Bool) (vf vr:V) (fs rs:List (List (List Nat))) (i:Nat) (S:Hp):Prop where
 le:bP SA S
 n1:SA bo=none
 n2:SA l=none
 rp:S bp=some (.row (pv two) 29)
 u:∃u,S bo=some (.row [u] 76)/\GL 33 SA S u (mD ((tL fs rs).take i))
 lo:S l=some (loM bp bo .ready)
 r1:S b1=some (.row [vf] 76)
 r2:S b2=some (.row [vr] 76)
 d1:bo≠l
 d2:bo≠b1
 d3:bo≠b2
 d4:l≠b1
 d5:l≠b2
 d6:bo≠bp
 d7:l≠bp
def Sq (f r:List (List Nat)):Prop:=(∀q∈f,LS q)/\(∀q∈r,LS q)/\(∀q∈f,q.length<100000)/\f.length<100000/\r.length=f.length/\∀i (h1:i<f.length) (h2:i<r.length),r[i].length=f[i].length
theorem aB9 (hM:1000000<M) (hx:Deep PP bI gM M (n+16) x){SA:Hp}{bp bo b1 b2 l:Nat}{vf vr:V}{fs rs:List (List (List Nat))} (RO:fs.length<100000){i:Nat}{S:Hp} (h1:i<fs.length) (h2:i<rs.length) (hsq:Sq fs[i] rs[i]){t1 t2:Tag}{K:KV}
 (h:aMB SA bp bo b1 b2 l two vf vr fs rs i S) (hK:∀S',aMB SA bp bo b1 b2 l two vf vr fs rs (i+1) S'->K (.bool true) S'):x.R l [.list t1 (dO fs[i]) fs[i].length,.list t2 (dO rs[i]) rs[i].length] S K:=by
 obtain⟨s1,s2,s3,s4,s5,s6⟩:=hsq;refine hx.round fun y hy=>?_;refine QP (st:= .ready) (pe:=none) h.lo QR ?_;rw [QS];unfold AS;refine XQ h.lo ?_;obtain⟨v,hv,mv⟩:=h.u;have hbz:aJ S l (.loop [3,7] [.ptr bp 0,.ptr bo 0] 23 (EE PP bQ [.r,.r,.l,.r,.d]) (EG PP bQ [.r,.r,.l,.r,.d]) (yX PP bQ [.r,.r,.l,.r,.d]) .busy none)=aJ S l (loM bp bo .busy):=rfl;rw [hbz];have k1:bP SA (aJ S l (loM bp bo .busy)):=FI h.le h.n2;have kl:aJ S l (loM bp bo .busy) l=some (loM bp bo .busy):=aB;have ko:aJ S l (loM bp bo .busy) bo=some (.row [v] 76):=by rw [aC h.d1];exact hv
 have kp:aJ S l (loM bp bo .busy) bp=some (.row (pv two) 29):=by rw [aC (aN h.d7)];exact h.rp
 have k3:aJ S l (loM bp bo .busy) b1=some (.row [vf] 76):=by rw [aC (aN h.d4)];exact h.r1
 have k4:aJ S l (loM bp bo .busy) b2=some (.row [vr] 76):=by rw [aC (aN h.d5)];exact h.r2
 have km:GL 33 SA (aJ S l (loM bp bo .busy)) v (mD ((tL fs rs).take i)):=mv.set h.lo (fun vs m e=>by cases e);generalize aJ S l (loM bp bo .busy)=S1 at k1 kl ko kp k3 k4 km
 have lp:bJ 12 (.ptr bp 0) S1=fun K=>K (.agg (pv two)) S1:=by
  funext K
  rw [qB kp,dG (by rw [BZ];omega),xS,mF (by rw [BZ];omega)]
 rw [cW ko rfl,lp];refine aMA (n:=n) (O:=S1) hM hy s1 s2 s3 s4 s5 s6 .val .val fun t3=>?_;have sv:∀{q:Prop},aW v v q=q:=fun {q}=>cK km.same;rw [cW ko rfl,sv,cW ko rfl,sv];have hT:∀{K:KV},(∀j,S1 j=none->K (.own j 0 1 1) (aJ S1 j (.row [.list t3 (dO (dY fs[i] rs[i])) (dY fs[i] rs[i]).length] 33)))->aP 33 1 cU [(0,1,.list t3 (dO (dY fs[i] rs[i])) (dY fs[i] rs[i]).length)] S1 K:=fun {K} hk=>⟨rfl,by simp,hk⟩;refine⟨hT fun _ _=>trivial,?_⟩;refine km.app (t:=t3) (d:= .list (dO (dY fs[i] rs[i])) (dY fs[i] rs[i]).length) (z:= .slice none 0 0) (zv:= .nil) k1 (by rw [SZ,mG];omega) rfl (by decide) fun u6 S6 VP p6 w6 m6=>?_;have e6:mD ((tL fs rs).take i)++[.list (dO (dY fs[i] rs[i])) (dY fs[i] rs[i]).length]=mD ((tL fs rs).take (i+1)):=by rw [aHm h1 h2,aAm];rfl
 rw [e6]at m6
 have q:∀{j:Nat} {o:Ob},S1 j=some o->(∀vs m,o≠ .gD vs 33 m)->S6 j=some o:=fun {j o} e xP=>p6 _ _ e fun m c=>by
  obtain⟨vs,n,e2⟩:=km.there c;rw [e]at e2;injection e2 with e2;exact xP _ _ e2
 have o6':=q ko (fun vs m e=>by cases e);have l6:=q kl (fun vs m e=>by cases e);rw [EC o6' (by simp) m6.one];have l7:aJ S6 bo (.row ([v].set 0 u6) 76) l=some (loM bp bo .busy):=by rw [aC (aN h.d1)];exact l6
 refine XR l7 (hK _ ⟨FI (FI VP h.n1) h.n2,h.n1,h.n2,?_,⟨u6,by rw [aC h.d1];exact aB,?_⟩,aB,?_,?_,h.d1,h.d2,h.d3,h.d4,h.d5,h.d6,h.d7⟩)
 ·rw [aC (aN h.d7),aC (aN h.d6)];exact q kp (fun vs m e=>by cases e)
 ·exact(m6.set o6' (fun vs m e=>by cases e)).set l7 (fun vs m e=>by cases e)
 ·rw [aC (aN h.d4),aC (aN h.d2)];exact q k3 (fun vs m e=>by cases e)
 ·rw [aC (aN h.d5),aC (aN h.d3)];exact q k4 (fun vs m e=>by cases e)
theorem aJG (hM:1000000<M) (hx:Deep PP bI gM M (n+20) x){SA O:Hp}{vf vr:V}{fs rs:List (List (List Nat))} (RO:fs.length<100000) (hlen:rs.length=fs.length) (hsq:∀i (h1:i<fs.length) (h2:i<rs.length),Sq fs[i] rs[i])
 (mf:GL 33 O SA vf (mD fs)) (mr:GL 33 O SA vr (mD rs)) (hK:∀t,K (.list t (mD (tL fs rs)) (tL fs rs).length) SA):x.call bQ [.agg (pv two),vf,vr] SA K:=by
 refine hx.call rfl fun y hy=>?_;rw [Ga];unfold NZ;refine bX kC fun bp Qu=>?_;have dH:bP SA (aJ SA bp (.row (pv two) 29)):= .aI Qu;have rp:aJ SA bp (.row (pv two) 29) bp=some (.row (pv two) 29):=aB;generalize aJ SA bp (.row (pv two) 29)=S1 at dH rp;refine cB rfl fun bo hbo=>?_;have fF:bP S1 (aJ S1 bo (.row [.nil] 76)):= .aI hbo;have ro:aJ S1 bo (.row [.nil] 76) bo=some (.row [.nil] 76):=aB;generalize aJ S1 bo (.row [.nil] 76)=S2 at fF ro;refine aJE hy mf.one mr.one fun b1 b2 S3 n1 n2 d12 pK r1 r2=>?_;refine QQ fun l hl=>?_;have hlo:aJ S3 l (.loop [3,7] [.ptr bp 0,.ptr bo 0] 23 (EE PP bQ [.r,.r,.l,.r,.d]) (EG PP bQ [.r,.r,.l,.r,.d]) (yX PP bQ [.r,.r,.l,.r,.d]) .ready none)=aJ S3 l (loM bp bo .ready):=rfl;rw [hlo];have ro3:=pK _ _ ro;have Lt:=pK _ _ (fF _ _ rp);have DC:=(dH.trans fF).trans pK
 have q0:aMB SA bp bo b1 b2 l two vf vr fs rs 0 (aJ S3 l (loM bp bo .ready)):=
  ⟨DC.trans (.aI hl),dH.none hbo,DC.none hl,by rw [aC (aN (gF hl Lt))];exact Lt,⟨.nil,by rw [aC (aN (gF hl ro3))];exact ro3,.nil⟩,aB,by rw [aC (aN (gF hl r1))];exact r1,by rw [aC (aN (gF hl r2))];exact r2,
   aN (gF hl ro3),aN (gF n1 ro),aN (gF n2 ro),gF hl r1,gF hl r2,gF hbo rp,gF hl Lt⟩
 refine aJF (n:=n+16) hM hy hlen (by omega) (Inv:=aMB SA bp bo b1 b2 l two vf vr fs rs) (Oa:=O) (fun j S q=>⟨q.r1,q.r2,mf.up q.le,mr.up q.le⟩) (fun z hz j S a b t1 t2 K q hk=>aB9 (n:=n+2) hM hz RO a b (hsq j a b) q hk) q0 fun S4 q4=>?_;obtain⟨u4,ru4,m4⟩:=q4.u;have aQ5:(tL fs rs).length=fs.length:=by unfold tL;rw [rG];omega
 rw [mF (by omega)]at m4;refine XS q4.lo (by simp) ?_;rw [Fy];obtain⟨ob,hex⟩:∃ob,aJ S4 l (.loop [3,7] [.ptr bp 0,.ptr bo 0] 23 (EE PP bQ [.r,.r,.l,.r,.d]) (EG PP bQ [.r,.r,.l,.r,.d]) (yX PP bQ [.r,.r,.l,.r,.d]) .exhausted none)=aJ S4 l ob:=⟨_,rfl⟩;rw [hex];have FK:bP SA (aJ S4 l ob):=FI q4.le q4.n2;have ru5:aJ S4 l ob bo=some (.row [u4] 76):=by rw [aC q4.d1];exact ru4
 have m5:GL 33 SA (aJ S4 l ob) u4 (mD (tL fs rs)):=m4.set q4.lo (fun vs m e=>by cases e);rw [cW ru5 rfl];have fz:=m5.Cy;rw [SZ]at fz;exact gX FK fz hK
end
end Go.Am
namespace Go.Am
open Go.Proofs.JJ
def Qz (m:List (List Nat)):Nat:=m.foldl (fun n l=>max n l.length) 0
theorem aMC{k:Nat}:∀(m:List (List Nat)) (n:Nat),(∀q∈m,q.length=k)->n<=k->0<m.length->m.foldl (fun n l=>max n l.length) n=k:=by
 intro m;induction m with
 | nil=>intro n _ _ h;cases h
 | cons a m ih=>
  intro n h hn _;have ha:a.length=k:=h a List.mem_cons_self;rw [Oi,ha,Nat.max_eq_right hn];cases m with
  | nil=>rfl
  | cons b m=>exact ih k (fun q hq=>h q (List.mem_cons_of_mem _ hq)) (bO _) (by simp)
theorem aQ9{a b:Nat}{K:V->Prop}:Dc true (ni a) (ni b) K=K (ni (max a b)):=by
 show K (.int .i64 (max (Int.ofNat a) (Int.ofNat b)))=_
 congr 2
 simp only [VU];omega
theorem aPd{m:List (List Nat)}{i:Nat}{l:List Nat} (h:m[i]? =some l):(dO m)[i]? =some (.list (iV l) l.length):=by unfold dO;rw [dJ,h];rfl
section
variable{M n:Nat}{x:VE}{S S0:Hp}{K:KV}{two:Bool}
theorem aFP{O:Tag}{m:List (List Nat)}{i:Nat} (h:i<m.length){K:KV}:aU (.nU O (dO m) i) S K=K (.list (.sub O i) (iV m[i]) m[i].length) S:=by
 rw [tX,cP (aPd (aQ h))];rfl
theorem aD3{O:Tag}{cs:List Dt}{c i:Nat} (h:i<c){k:V->Prop}:cI 1 (.list O cs c) (ni i) k=k (.nU O cs i):=by rw [gW h,jQ]
theorem aJH (hM:1000000<M) (hx:Deep PP bI gM M (n+1) x){O:Tag}{m:List (List Nat)} (hl:m.length<100000) (hK:K (ni (Qz m)) S):x.call EJ [.list O (dO m) m.length] S K:=by
 refine hx.call rfl fun y hy=>?_;rw [aAn];unfold Gc;rw [eU,hy.most]
 have go:∀(k i q a:Nat),i+k=m.length->k<q->(m.drop i).foldl (fun n l=>max n l.length) a=Qz m->vO y q (ni a) (.list O (dO m) m.length) (ni m.length) (ni i) S K:=by
  intro k;induction k with
  | zero=>
   intro i q a hi hq he;obtain⟨q,rfl⟩:=bG (show q≠0 by omega);rw [JK];unfold zX;refine aE ?_;rw [aO,bN (by omega),bC];rw [Xl (by omega)]at he;have he:a=Qz m:=he;rw [he];exact aL hK
  | succ k ih=>
   intro i q a hi hq he;obtain⟨q,rfl⟩:=bG (show q≠0 by omega);rw [JK];unfold zX;refine aE ?_;have JI:i<m.length:=by omega
   rw [aO,bF JI,bR,aD3 JI,aFP JI,eU,aQ9,bD (by omega)];refine ih (i+1) q _ (by omega) (by omega) ?_;rw [mE JI]at he;exact he
 exact go m.length 0 M 0 (by omega) (by omega) rfl
def TA (m:List (List Nat)) (j:Nat):List Nat:=m.map fun l=>l.getD j 0
theorem aJI (hx:Deep PP bI gM M (n+1) x){O:Tag}{m:List (List Nat)}{br:Nat} (hb:S br=some (.row [.list O (dO m) m.length] 33)){i j:Nat} (hi:i<m.length) (hj:j<m[i].length) (hK:K (nu m[i][j]) S):x.call kO [ni i,ni j,.ptr br 0] S K:=by
 refine hx.call rfl fun y hy=>?_;rw [Lu];unfold UG;rw [cW hb rfl,aD3 hi,aFP hi,eU,zW,bN (by omega),bC,cW hb rfl,aD3 hi,aFP hi,aD3 hj,tX,cP (aAd (aQ hj))];exact aL hK
theorem aPe (hx:Deep PP bI gM M (n+2) x){O:Tag}{m:List (List Nat)} (hK:∀S' b0 b3 br,bP S S'->S b0=none->S b3=none->S br=none->S' b0=some (.row [.list O (dO m) m.length] 33)->S' b3=some (.row [.func kO [] [.ptr br 0]] 272)->S' br=some (.row [.list O (dO m) m.length] 33)->K (.func lU [] [.ptr b0 0,.ptr b3 0]) S'):x.call JD [.list O (dO m) m.length] S K:=by
 refine hx.call rfl fun y hy=>?_;rw [Lv];unfold UH;refine ZY rfl fun b0 hb0=>?_;have dH:bP S (aJ S b0 (.row [.list O (dO m) m.length] 33)):= .aI hb0;have r0:aJ S b0 (.row [.list O (dO m) m.length] 33) b0=some (.row [.list O (dO m) m.length] 33):=aB;generalize aJ S b0 (.row [.list O (dO m) m.length] 33)=S1 at dH r0;rw [cW r0 rfl];refine hy.call rfl fun z hz=>?_;rw [Up];unfold Ay;refine ZY rfl fun br hbr=>aL ?_;have fF:bP S1 (aJ S1 br (.row [.list O (dO m) m.length] 33)):= .aI hbr;have rr:aJ S1 br (.row [.list O (dO m) m.length] 33) br=some (.row [.list O (dO m) m.length] 33):=aB;generalize aJ S1 br (.row [.list O (dO m) m.length] 33)=S2 at fF rr;refine cB (l:=[.Je]) rfl fun b3 hb3=>?_;refine NX (i:=b3) aB rfl (by decide) ?_;rw [eS];have pK:bP S2 (aJ S2 b3 (.row [.func kO [] [.ptr br 0]] 272)):= .aI hb3;exact aL (hK _ b0 b3 br ((dH.trans fF).trans pK) hb0 ((dH.trans fF).none hb3) (dH.none hbr) (pK _ _ (fF _ _ r0)) aB (pK _ _ rr))
theorem aMD (hM:1000000<M) (hx:Deep PP bI gM M (n+3) x){O:Tag}{m:List (List Nat)}{l b0 b3 br k:Nat} (hl:m.length<100000) (hk:Qz m=k) (hkk:k<100000) (hw:∀i (h:i<m.length),k<=m[i].length){Inv:Nat->Hp->Prop} (hup:∀i S S',Inv i S->bP S S'->Inv i S')
 (hI:∀i S,Inv i S->S b0=some (.row [.list O (dO m) m.length] 33)/\S b3=some (.row [.func kO [] [.ptr br 0]] 272)/\S br=some (.row [.list O (dO m) m.length] 33))
 (step:∀(y:VE),Deep PP bI gM M (n+2) y->∀(j:Nat) (S0 S:Hp) (hj:j<k) (c:V) (K:KV),Inv j S->MN S0 S c (TA m j)->(∀S',Inv (j+1) S'->K (.bool true) S')->y.R l [ni j,c] S K) (h0:Inv 0 S) (hK:∀S,Inv k S->K (.tuple []) S):x.call lU [.yield l,.ptr b0 0,.ptr b3 0] S K:=by
 refine hx.call rfl fun y hy=>?_;rw [Gd];unfold OA;obtain⟨q1,q2,q3⟩:=hI 0 S h0;rw [cW q1 rfl];refine aJH (n:=n+1) hM hy hl ?_;rw [hk,hy.most]
 have inner:∀(r i q m0 j:Nat) (S0 S:Hp) (c:V),j<k->i+r=m.length->r<q->Inv j S0->bP S0 S->MN S0 S c ((TA m j).take i)->(∀S' c,Inv j S'->MN S0 S' c (TA m j)->lJ y (.yield l) [ni j,c] S' fun v6 S=>VJ .not v6 fun v7=>iQ v7 (bE (.tuple []) S K) (aH PP .add 3 (ni j) (.int .i64 (.ofNat 1)) fun v8=>nW y m0 (.yield l) (.ptr b0 0) (.ptr b3 0) (ni k) v8 S K))->
  jL y q m0 (.yield l) (.ptr b0 0) (.ptr b3 0) (ni j) c (ni k) (ni j) (ni m.length) (ni i) S K:=by
  intro r;induction r with
  | zero=>
   intro i q m0 j S0 S c hj hi hq h hle mc aJJ;obtain⟨q,rfl⟩:=bG (show q≠0 by omega);rw [tF];unfold mK;refine aE ?_;rw [aO,jO (by omega),bC];rw [mF (by unfold TA;rw [mH];omega)]at mc;exact aJJ S c (hup _ _ _ h hle) mc
  | succ r ih=>
   intro i q m0 j S0 S c hj hi hq h hle mc aJJ;obtain⟨q,rfl⟩:=bG (show q≠0 by omega);rw [tF];unfold mK;refine aE ?_;have JI:i<m.length:=by omega
   obtain⟨p1,p2,p3⟩:=hI j S (hup _ _ _ h hle);have Tt:j<m[i].length:=DJ hj (hw i JI);rw [aO,yQ JI,bR,cW p2 rfl];show y.call kO [ni i,ni j,.ptr br 0] S _;refine aJI hy p3 JI Tt ?_;refine mc.app hle (by rw [mG];omega) fun w S' le' k' mw=>?_;rw [bD (by omega)]
   have e:(TA m j).take i++[m[i][j]]=(TA m j).take (i+1):=by
    rw [KT]
    congr 1
    unfold TA;rw [dJ,aQ JI];simp [List.getD,aQ Tt]
   rw [e]at mw;exact ih (i+1) q m0 j S0 S' w hj (by omega) (by omega) h le' mw aJJ
 have outer:∀(r j q:Nat) (S:Hp),j+r=k->r<q->Inv j S->nW y q (.yield l) (.ptr b0 0) (.ptr b3 0) (ni k) (ni j) S K:=by
  intro r;induction r with
  | zero=>
   intro j q S hj hq h;obtain⟨q,rfl⟩:=bG (show q≠0 by omega);rw [FL];unfold wO;refine aE ?_;rw [aO,jO (by omega),bC];have e:j=k:=by omega
   subst e;exact aL (hK S h)
  | succ r ih=>
   intro j q S hj hq h;obtain⟨q,rfl⟩:=bG (show q≠0 by omega);rw [FL];unfold wO;refine aE ?_;have hjk:j<k:=by omega
   obtain⟨p1,p2,p3⟩:=hI j S h;rw [aO,yQ hjk,bR,cW p1 rfl,eU,hy.most];refine inner m.length 0 M q j S S .nil hjk (by omega) (by omega) h (.refl _) .nil fun S' c h' mc=>?_;show y.R l [ni j,c] S' _;refine step y hy j S S' hjk c _ h' mc fun S'' h''=>?_;rw [lR,eQ,bC,bD (by omega)];exact ih (j+1) q S'' (by omega) (by omega) h''
 exact outer k 0 M S (by omega) (by omega) h0
end
def Uq (m:List (List Nat)) (X:Nat):List Nat:=(List.range (Qz m)).map fun j=>ev 11 (TA m j) X
def Jf (m:List (List Nat)) (Y:Nat):List Nat:=m.map fun l=>ev 11 l Y
section
variable{M n:Nat}{x:VE}{S S0:Hp}{K:KV}{two:Bool}
def loR (a b c:Nat) (st:LoopState):Ob:= .loop [4,5,7] [.ptr a 0,.ptr b 0,.ptr c 0] 25 (EE PP cL [.r,.r,.l,.r,.d]) (EG PP cL [.r,.r,.l,.r,.d]) (yX PP cL [.r,.r,.l,.r,.d]) st none
structure aD4 (SA:Hp) (bx bq bo l r k b0 b3 br:Nat) (O:Tag) (m:List (List Nat)) (X i:Nat) (S:Hp):Prop where
 le:bP SA S
 nr:SA r=none
 nl:SA l=none
 rx:S bx=some (.row [nu X] 22)
 rq:S bq=some (.row [nu 11] 22)
 ro:S bo=some (.row [.own r 0 k k] 51)
 rr:∃us,us.length=k/\(∀j,j<i->us[j]? =some (ev 11 (TA m j) X))/\S r=some (.row (oJ us) 22)
 lo:S l=some (loR bx bq bo .ready)
 r0:S b0=some (.row [.list O (dO m) m.length] 33)
 r3:S b3=some (.row [.func kO [] [.ptr br 0]] 272)
 r4:S br=some (.row [.list O (dO m) m.length] 33)
 d:r≠l/\r≠bx/\r≠bq/\r≠bo/\r≠b0/\r≠b3/\r≠br/\l≠bx/\l≠bq/\l≠bo/\l≠b0/\l≠b3/\l≠br
theorem aD4.up{SA:Hp}{bx bq bo l r k b0 b3 br:Nat}{O:Tag}{m:List (List Nat)}{X i:Nat}{S S':Hp} (h:aD4 SA bx bq bo l r k b0 b3 br O m X i S) (hle:bP S S'):aD4 SA bx bq bo l r k b0 b3 br O m X i S':=by
 obtain⟨us,u1,u2,u3⟩:=h.rr;exact⟨h.le.trans hle,h.nr,h.nl,hle _ _ h.rx,hle _ _ h.rq,hle _ _ h.ro,⟨us,u1,u2,hle _ _ u3⟩,hle _ _ h.lo,hle _ _ h.r0,hle _ _ h.r3,hle _ _ h.r4,h.d⟩
theorem aJK (hM:1000000<M) (hx:Deep PP bI gM M (n+3) x){SA:Hp}{bx bq bo l r k b0 b3 br:Nat}{O:Tag}{m:List (List Nat)}{X j:Nat} (hX:FC X) (hm:∀q∈m,LS q) (VH:m.length<100000) (hj:j<k){Sc S:Hp}{c:V}{K:KV} (h:aD4 SA bx bq bo l r k b0 b3 br O m X j S) (mc:MN Sc S c (TA m j))
 (hK:∀S',aD4 SA bx bq bo l r k b0 b3 br O m X (j+1) S'->K (.bool true) S'):x.R l [ni j,c] S K:=by
 obtain⟨d1,d2,d3,d4,d5,d6,d7,d8,d9,d10,d11,d12,d13⟩:=h.d;refine hx.round fun y hy=>?_;refine QP (st:= .ready) (pe:=none) h.lo Ge ?_;rw [Gf];unfold LZ;refine XQ h.lo ?_;obtain⟨us,u1,u2,u3⟩:=h.rr;have hbz:aJ S l (.loop [4,5,7] [.ptr bx 0,.ptr bq 0,.ptr bo 0] 25 (EE PP cL [.r,.r,.l,.r,.d]) (EG PP cL [.r,.r,.l,.r,.d]) (yX PP cL [.r,.r,.l,.r,.d]) .busy none)=aJ S l (loR bx bq bo .busy):=rfl;rw [hbz];have k1:bP SA (aJ S l (loR bx bq bo .busy)):=FI h.le h.nl;have kl:aJ S l (loR bx bq bo .busy) l=some (loR bx bq bo .busy):=aB;have kx:aJ S l (loR bx bq bo .busy) bx=some (.row [nu X] 22):=by rw [aC (aN d8)];exact h.rx
 have kq:aJ S l (loR bx bq bo .busy) bq=some (.row [nu 11] 22):=by rw [aC (aN d9)];exact h.rq
 have ko:aJ S l (loR bx bq bo .busy) bo=some (.row [.own r 0 k k] 51):=by rw [aC (aN d10)];exact h.ro
 have kr:aJ S l (loR bx bq bo .busy) r=some (.row (oJ us) 22):=by rw [aC d1];exact u3
 have k0:aJ S l (loR bx bq bo .busy) b0=some (.row [.list O (dO m) m.length] 33):=by rw [aC (aN d11)];exact h.r0
 have k3:aJ S l (loR bx bq bo .busy) b3=some (.row [.func kO [] [.ptr br 0]] 272):=by rw [aC (aN d12)];exact h.r3
 have k4:aJ S l (loR bx bq bo .busy) br=some (.row [.list O (dO m) m.length] 33):=by rw [aC (aN d13)];exact h.r4
 have km:MN Sc (aJ S l (loR bx bq bo .busy)) c (TA m j):=mc.set h.lo (fun vs m e=>by cases e) (fun vs e=>by cases e);generalize aJ S l (loR bx bq bo .busy)=S1 at k1 kl kx kq ko kr k0 k3 k4 km;rw [cW ko rfl,cW kx rfl,cW kq rfl]
 have c64:LS (TA m j):=fun z hz=>by
  unfold TA at hz;obtain⟨l,hl,rfl⟩:=kS.1 hz;by_cases hjl:j<l.length
  ·rw [sP,aQ hjl];exact hm l hl _ (cJ _)
  ·rw [sP,FT (by omega)];show 0<18446744073709551616;decide
 refine aAf (n:=n) hM hy km.nv (by unfold TA;rw [mH];omega) c64 hX qQ ?_;rw [cW ko rfl,cK (by rfl)];refine⟨hj,?_⟩;rw [dX,jQ];refine NX kr rfl (by rw [oK];omega) ?_;have es:aY j [nu (ev 11 (TA m j) X)] (oJ us)=oJ (us.set j (ev 11 (TA m j) X)):=by rw [GM (by rw [oK];omega),aFL]
 rw [es];have l7:aJ S1 r (.row (oJ (us.set j (ev 11 (TA m j) X))) 22) l=some (loR bx bq bo .busy):=by rw [aC (aN d1)];exact kl
 have oth:∀{i:Nat} {ob:Ob} {o2:Ob},i≠r->i≠l->S1 i=some ob->aJ (aJ S1 r (.row (oJ (us.set j (ev 11 (TA m j) X))) 22)) l o2 i=some ob:=fun {i ob o2} h1 h2 e=>by rw [aC h2,aC h1];exact e
 refine XR l7 (hK _ ⟨FI (FI k1 h.nr) h.nl,h.nr,h.nl,oth (aN d2) (aN d8) kx,oth (aN d3) (aN d9) kq,oth (aN d4) (aN d10) ko,⟨us.set j (ev 11 (TA m j) X),by rw [Bw];exact u1,fun i hi=>?_,by rw [aC d1];exact aB⟩,aB,oth (aN d5) (aN d11) k0,oth (aN d6) (aN d12) k3,oth (aN d7) (aN d13) k4,h.d⟩);by_cases Tt:i=j
 ·subst Tt;rw [VQ (by omega)]
 ·rw [IP (aN Tt)];exact u2 i (by omega)
theorem aPf (hM:1000000<M) (hx:Deep PP bI gM M (n+8) x){O:Tag}{m:List (List Nat)}{X k:Nat} (hX:FC X) (hm:∀q∈m,LS q) (VH:m.length<100000) (hk:Qz m=k) (hk0:0<k) (hkk:k<1000) (hw:∀i (h:i<m.length),k<=m[i].length)
 (hK:∀t,K (.list t (iV (Uq m X)) k) S):x.call cL [.list O (dO m) m.length,nu X,nu 11] S K:=by
 refine hx.call rfl fun y hy=>?_;rw [aCa];unfold Kx;refine ZY rfl fun bx hbx=>?_;have dH:bP S (aJ S bx (.row [nu X] 22)):= .aI hbx;have rx:aJ S bx (.row [nu X] 22) bx=some (.row [nu X] 22):=aB;generalize aJ S bx (.row [nu X] 22)=S1 at dH rx;refine ZY rfl fun bq hbq=>?_;have fF:bP S1 (aJ S1 bq (.row [nu 11] 22)):= .aI hbq;have rq:aJ S1 bq (.row [nu 11] 22) bq=some (.row [nu 11] 22):=aB;generalize aJ S1 bq (.row [nu 11] 22)=S2 at fF rq;refine aJH (n:=n+6) hM hy VH ?_;rw [hk];refine⟨bO _,by omega,by omega,fun r hr=>?_⟩
 have hz:(List.replicate k [nu 0]).flatten=oJ (List.replicate k 0):=by
  unfold oJ;rw [List.map_replicate];clear hk hk0 hkk hw hK;induction k with
  | zero=>rfl
  | succ k ih=>rw [IQ,OT,ih,IQ];rfl
 have pK:bP S2 (aJ S2 r (.row (oJ (List.replicate k 0)) 22)):= .aI hr;have rr:aJ S2 r (.row (oJ (List.replicate k 0)) 22) r=some (.row (oJ (List.replicate k 0)) 22):=aB;show cN cU 51 (aJ S2 r (.row (List.replicate k [nu 0]).flatten 22)) _;rw [hz];generalize aJ S2 r (.row (oJ (List.replicate k 0)) 22)=S3 at pK rr;refine cB (l:=[.nil]) rfl fun bo hbo=>?_;refine NX (i:=bo) aB rfl (by decide) ?_;rw [eS];have HI:bP S3 (aJ S3 bo (.row (aY 0 [.own r 0 k k] [.nil]) 51)):= .aI hbo;have ro:aJ S3 bo (.row (aY 0 [.own r 0 k k] [.nil]) 51) bo=some (.row [.own r 0 k k] 51):=aB;generalize aJ S3 bo (.row (aY 0 [.own r 0 k k] [.nil]) 51)=S4 at HI ro;refine aPe (n:=n+5) hy fun S5 b0 b3 br FK n0 n3 n4 r0 r3 r4=>?_;refine QQ fun l hl=>?_;have hlo:aJ S5 l (.loop [4,5,7] [.ptr bx 0,.ptr bq 0,.ptr bo 0] 25 (EE PP cL [.r,.r,.l,.r,.d]) (EG PP cL [.r,.r,.l,.r,.d]) (yX PP cL [.r,.r,.l,.r,.d]) .ready none)=aJ S5 l (loR bx bq bo .ready):=rfl;rw [hlo];have x4:=HI _ _ (pK _ _ (fF _ _ rx));have q4:=HI _ _ (pK _ _ rq);have Nm:=HI _ _ rr;have x5:=FK _ _ x4;have q5:=FK _ _ q4;have o5:=FK _ _ ro;have rr5:=FK _ _ Nm;have aRa:=dH.trans fF;have DC:=(aRa.trans pK).trans (HI.trans FK);have up:∀{i:Nat} {ob:Ob},S5 i=some ob->aJ S5 l (loR bx bq bo .ready) i=some ob:=fun {i ob} e=>by rw [aC (aN (gF hl e))];exact e
 have aST:aD4 S bx bq bo l r k b0 b3 br O m X 0 (aJ S5 l (loR bx bq bo .ready)):=
  ⟨DC.trans (.aI hl),aRa.none hr,DC.none hl,up x5,up q5,up o5,⟨List.replicate k 0,by rw [OQ],fun j hj=>by omega,up rr5⟩,aB,up r0,up r3,up r4,
   aN (gF hl rr5),(gF hr (fF _ _ rx)),(gF hr rq),aN (gF hbo rr),aN (gF n0 Nm),aN (gF n3 Nm),aN (gF n4 Nm),gF hl x5,gF hl q5,gF hl o5,gF hl r0,gF hl r3,gF hl r4⟩
 show y.call lU [.yield l,.ptr b0 0,.ptr b3 0] _ _;refine aMD (n:=n+4) hM hy VH hk (by omega) hw (Inv:=aD4 S bx bq bo l r k b0 b3 br O m X) (fun i S S' h hle=>h.up hle) (fun i S h=>⟨h.r0,h.r3,h.r4⟩) (fun z hz j S0 S' hj c K h mc xE=>aJK (n:=n+3) hM hz hX hm VH hj h mc xE) aST fun S6 h6=>?_;obtain⟨us,u1,u2,u3⟩:=h6.rr;obtain⟨d1,d2,d3,d4,d5,d6,d7,d8,d9,d10,d11,d12,d13⟩:=h6.d;refine XS h6.lo (by simp) ?_;rw [Fy];obtain⟨ob,hex⟩:∃ob,aJ S6 l (.loop [4,5,7] [.ptr bx 0,.ptr bq 0,.ptr bo 0] 25 (EE PP cL [.r,.r,.l,.r,.d]) (EG PP cL [.r,.r,.l,.r,.d]) (yX PP cL [.r,.r,.l,.r,.d]) .exhausted none)=aJ S6 l ob:=⟨_,rfl⟩;rw [hex];have le7:bP S (aJ S6 l ob):=FI h6.le h6.nl;have ro7:aJ S6 l ob bo=some (.row [.own r 0 k k] 51):=by rw [aC (aN d10)];exact h6.ro
 have rr7:aJ S6 l ob r=some (.row (oJ us) 22):=by rw [aC d1];exact u3
 have eus:us=Uq m X:=by
  refine xQ fun j=>?_;unfold Uq;rw [dJ,hk];by_cases hj:j<k
  ·rw [u2 j hj,VW hj];rfl
  ·rw [FT (by omega),FT (by simp;omega)];rfl
 rw [cW ro7 rfl];refine gX le7 (cs:=iV (Uq m X)) (n:=k) (.own rr7 h6.nr (bO _) (by rw [HH,<-eus,oK,u1];omega) fun j v d x1 x2=>?_) hK;rw [eus,dX]at x1;unfold oJ at x1;unfold iV at x2;rw [dJ]at x1 x2;cases e:(Uq m X)[j]? with
 | none=>rw [e]at x1;cases x1
 | some c=>rw [e]at x1 x2;injection x1 with x1;injection x2 with x2;subst x1 x2;exact .int
end
theorem aRb{k:Nat}:(List.replicate k [nu 0]).flatten=oJ (List.replicate k 0):=by
 unfold oJ;rw [List.map_replicate];induction k with
 | zero=>rfl
 | succ k ih=>rw [IQ,OT,ih,IQ];rfl
section
variable{M n:Nat}{x:VE}{S S0:Hp}{K:KV}{two:Bool}
theorem aJL{S':Hp}{r:Nat}{l:List Nat} (le:bP S' S) (hn:S' r=none) (hr:S r=some (.row (oJ l) 22)) (hK:∀t,K (.list t (iV l) l.length) S'):bE (.own r 0 l.length l.length) S K:=by
 refine gX le (cs:=iV l) (n:=l.length) (.own hr hn (bO _) (by rw [HH,oK];omega) fun j v d x1 x2=>?_) hK;rw [dX]at x1;unfold oJ at x1;unfold iV at x2;rw [dJ]at x1 x2;cases e:l[j]? with
 | none=>rw [e]at x1;cases x1
 | some c=>rw [e]at x1 x2;injection x1 with x1;injection x2 with x2;subst x1 x2;exact .int
theorem aJM (hM:1000000<M) (hx:Deep PP bI gM M (n+4) x){O:Tag}{m:List (List Nat)}{Y:Nat} (hY:FC Y) (hm:∀q∈m,LS q) (VH:m.length<1000) (hmq:∀q∈m,q.length<100000)
 (hK:∀t,K (.list t (iV (Jf m Y)) m.length) S):x.call nX [.list O (dO m) m.length,nu Y,nu 11] S K:=by
 refine hx.call rfl fun y hy=>?_;rw [aCb];unfold Ky;rw [eU,hy.most];refine⟨bO _,by omega,by omega,fun r hr=>?_⟩;show sE y M (nu Y) (nu 11) (.own r 0 m.length m.length) (.list O (dO m) m.length) (ni m.length) (ni 0) (aJ S r (.row (List.replicate m.length [nu 0]).flatten 22)) K;rw [aRb];have Du:(Jf m Y).length=m.length:=by unfold Jf;rw [mH]
 have go:∀(k i q:Nat) (S1:Hp) (us:List Nat),i+k=m.length->k<q->bP S S1->S1 r=some (.row (oJ us) 22)->us.length=m.length->us.take i=(Jf m Y).take i->sE y q (nu Y) (nu 11) (.own r 0 m.length m.length) (.list O (dO m) m.length) (ni m.length) (ni i) S1 K:=by
  intro k;induction k with
  | zero=>
   intro i q S1 us hi hq le rr hus he;obtain⟨q,rfl⟩:=bG (show q≠0 by omega);rw [MA];unfold CB;refine aE ?_;rw [aO,jO (by omega),bC];rw [mF (by omega),mF (by omega)]at he;subst he;have:=aJL (K:=K) le hr rr (fun t=>by rw [Du];exact hK t);rw [Du]at this;exact this
  | succ k ih=>
   intro i q S1 us hi hq le rr hus he;obtain⟨q,rfl⟩:=bG (show q≠0 by omega);rw [MA];unfold CB;refine aE ?_;have JI:i<m.length:=by omega
   rw [aO,yQ JI,bR,aD3 JI,aFP JI];refine aAf (n:=n+1) hM hy .list (by have:=hmq _ (cJ JI);omega) (hm _ (cJ JI)) hY qQ ?_;refine⟨JI,?_⟩;rw [dX,jQ];refine NX rr rfl (by rw [oK];omega) ?_;rw [GM (by rw [oK];omega),aFL,bD (by omega)];refine ih (i+1) q _ (us.set i (ev 11 m[i] Y)) (by omega) (by omega) (fun j o e=>by rw [aC (fun c=>by rw [c,hr]at e;cases e)];exact le _ _ e) aB (by rw [Bw];exact hus) ?_
   have e1:(us.set i (ev 11 m[i] Y)).take (i+1)=us.take i++[ev 11 m[i] Y]:=by
    rw [KT,List.take_set_of_le (bO i),VQ (by omega)];rfl
   have e2:(Jf m Y).take (i+1)=(Jf m Y).take i++[ev 11 m[i] Y]:=by
    rw [KT];unfold Jf;rw [dJ,aQ JI];rfl
   rw [e1,e2,he]
 exact go m.length 0 M _ (List.replicate m.length 0) (by omega) (by omega) (.aI hr) aB (by rw [OQ]) rfl
theorem aME{l:List (Nat×Nat)}:∀{i a b:Nat},i<l.length->aY (i*2) [nu a,nu b] (pvs l)=pvs (l.set i (a,b)):=by
 induction l with
 | nil=>intro i a b h;cases h
 | cons p l ih=>
  intro i a b h;cases i with
  | zero=>rfl
  | succ i=>
   have:=ih (i:=i) (a:=a) (b:=b) (by simpa using h);rw [List.set_cons_succ];show aY ((i+1)*2) [nu a,nu b] (nu p.1::nu p.2::pvs l)=nu p.1::nu p.2::pvs (l.set i (a,b));rw [<-this];unfold aY;rw [show(i+1)*2=i*2+1+1 by omega,Xn,Xn,show i*2+1+1+[nu a,nu b].length=i*2+[nu a,nu b].length+1+1 by omega,List.drop_succ_cons,List.drop_succ_cons];rfl
theorem aJN (hx:Deep PP bI gM M (n+1) x) (hM:1000000<M){O1 O2z:Tag}{a b:List Nat} (hlen:b.length=a.length) (hl:a.length<1000) (hK:∀t,K (.list t (pds (List.zip a b)) a.length) S):x.call sF [.list O1 (iV a) a.length,.list O2z (iV b) a.length] S K:=by
 refine hx.call rfl fun y hy=>?_;rw [aAo];unfold Gg;rw [eU];refine⟨bO _,by omega,by omega,fun r hr=>?_⟩
 have hz:(List.replicate a.length [nu 0,nu 0]).flatten=pvs (List.replicate a.length (0,0)):=by
  generalize a.length=k;induction k with
  | zero=>rfl
  | succ k ih=>rw [IQ,OT,ih,IQ];rfl
 show qE y y.most (.list O1 (iV a) a.length) (.list O2z (iV b) a.length) (.own r 0 a.length a.length) (ni a.length) (ni 0) (aJ S r (.row (List.replicate a.length [nu 0,nu 0]).flatten 145)) K;rw [hz,hy.most];have My:(List.zip a b).length=a.length:=by rw [List.length_zip];omega
 have go:∀(k i q:Nat) (S1:Hp) (us:List (Nat×Nat)),i+k=a.length->k<q->bP S S1->S1 r=some (.row (pvs us) 145)->us.length=a.length->us.take i=(List.zip a b).take i->qE y q (.list O1 (iV a) a.length) (.list O2z (iV b) a.length) (.own r 0 a.length a.length) (ni a.length) (ni i) S1 K:=by
  intro k;induction k with
  | zero=>
   intro i q S1 us hi hq le rr hus he;obtain⟨q,rfl⟩:=bG (show q≠0 by omega);rw [JL];unfold zY;refine aE ?_;rw [aO,jO (by omega),bC];rw [mF (by omega),mF (by omega)]at he;subst he;exact gX le (cs:=pds (List.zip a b)) (n:=a.length) (.own rr hr (bO _) (by rw [Nk,aFD];omega) fun j v d x1 x2=>aQY _ j v d (by rw [dX]at x1;exact x1) x2) hK
  | succ k ih=>
   intro i q S1 us hi hq le rr hus he;obtain⟨q,rfl⟩:=bG (show q≠0 by omega);rw [JL];unfold zY;refine aE ?_;have JI:i<a.length:=by omega
   have Ui:i<b.length:=by omega
   rw [aO,yQ JI,bR,aD3 JI,tX,cP (aAd (aQ JI)),aD3 JI,tX,cP (aAd (aQ Ui))];show cF GK [(0,1,nu a[i]),(1,1,nu b[i])] _;rw [aJk];refine⟨JI,?_⟩
   have hst:∀{k:Hp->Prop},k (aJ S1 r (.row (aY (i*2) [nu a[i],nu b[i]] (pvs us)) 145))->mB 2 (.ptr r (i*2)) (.agg [nu a[i],nu b[i]]) S1 k:=fun {k} hk=>by
    unfold mB;simp only [rr];refine⟨rfl,rfl,by rw [Nk];show i*2+2<=_;omega,hk⟩
   rw [dX];refine hst ?_;rw [aME (by omega),bD (by omega)];refine ih (i+1) q _ (us.set i (a[i],b[i])) (by omega) (by omega) (fun j o e=>by rw [aC (fun c=>by rw [c,hr]at e;cases e)];exact le _ _ e) aB (by rw [Bw];exact hus) ?_;have hi3:i<(List.zip a b).length:=by omega
   have e1:(us.set i (a[i],b[i])).take (i+1)=us.take i++[(a[i],b[i])]:=by
    rw [KT,List.take_set_of_le (bO i),VQ (by omega)];rfl
   have e2:(List.zip a b).take (i+1)=(List.zip a b).take i++[(a[i],b[i])]:=by
    rw [KT,aQ hi3,List.getElem_zip];rfl
   rw [e1,e2,he]
 exact go a.length 0 M _ (List.replicate a.length (0,0)) (by omega) (by omega) (.aI hr) aB (by rw [OQ]) rfl
end
end Go.Am
