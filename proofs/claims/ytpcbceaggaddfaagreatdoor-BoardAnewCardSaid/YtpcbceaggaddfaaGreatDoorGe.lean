/- The program, and tables of its functions' live temporaries (written by a program). -/
import Derived.Test.YtpcbceaggaddfaaGreatDoorGd
import Derived.Test.YtpcbceaggaddfaaGreatDoorChecked
import GoSem.Core.World
import Derived.WalkKit
import Derived.OwnWalk
import Derived.Shelf.Abstract
import Derived.RangeFuncNested
import Derived.RangeFuncBound
import Derived.RangeFuncCalls
import Derived.RangeFuncLeaves
import Derived.Shelf.RegionOpen
import Derived.OwnWalkIn
import Derived.TacticsInMore
import Derived.LoopNIn
import Derived.LoopIn
import Derived.Maps.AppendAt
import Derived.Shelf.SlSortCmp.NoneTotal
import Derived.Shelf.SlicesG.Cmp
import Derived.RegionCalls
import Derived.StillTailTactics
import Derived.Sort.Grow
import Derived.Test.YtpcbceaggaddfaaGreatDoorGb
import Derived.Shelf.Sort.Plain
import Derived.Shelf.Slices.In.SortNone
import Derived.Ground.Names2Prog
import Derived.Shelf.Spec.SlicesInsertGrow
import Derived.Shelf.Slices.CompactS

noncomputable section
set_option maxRecDepth 100000
set_option linter.unusedVariables false
namespace Go.Am
abbrev PP:Program:=Go.Proofs.Tryz.prog
abbrev qH:FuncId:=5
abbrev KI:FuncId:=6
abbrev DE:FuncId:=7
abbrev xA:FuncId:=8
abbrev mJ:FuncId:=10
abbrev vS:FuncId:=11
abbrev sQ:FuncId:=13
abbrev xO:FuncId:=14
abbrev AJ:FuncId:=15
abbrev FQ:FuncId:=19
abbrev vT:FuncId:=20
abbrev nZ:FuncId:=21
abbrev oA:FuncId:=22
abbrev vU:FuncId:=24
abbrev vV:FuncId:=25
abbrev sR:FuncId:=26
abbrev Fl:FuncId:=27
abbrev SS:FuncId:=28
abbrev gK:FuncId:=29
abbrev qI:FuncId:=30
abbrev NG:FuncId:=31
abbrev aJ:FuncId:=32
abbrev sS:FuncId:=33
abbrev bV:FuncId:=34
abbrev dY:FuncId:=35
abbrev qJ:FuncId:=36
abbrev NH:FuncId:=42
abbrev pG:FuncId:=43
abbrev eK:FuncId:=44
abbrev pH:FuncId:=45
abbrev dG:FuncId:=46
abbrev cM:FuncId:=47
abbrev CR:FuncId:=49
abbrev EH:FuncId:=50
abbrev FR:FuncId:=51
abbrev qK:FuncId:=52
abbrev fL:FuncId:=66
abbrev RH:FuncId:=68
abbrev mU:FuncId:=69
abbrev lP:FuncId:=70
abbrev JI:FuncId:=71
abbrev JJ:FuncId:=72
abbrev JK:FuncId:=73
abbrev JL:FuncId:=74
abbrev JM:FuncId:=75
abbrev JN:FuncId:=76
abbrev JO:FuncId:=77
abbrev FS:FuncId:=78
abbrev FT:FuncId:=79
abbrev FU:FuncId:=80
abbrev FV:FuncId:=81
abbrev FW:FuncId:=82
abbrev qL:FuncId:=83
abbrev cA:FuncId:=84
abbrev rP:FuncId:=85
abbrev AK:FuncId:=86
abbrev fQ:FuncId:=87
abbrev pA:FuncId:=88
abbrev kH:FuncId:=89
abbrev mK:FuncId:=90
abbrev kC:FuncId:=91
abbrev AL:FuncId:=96
abbrev fU:FuncId:=97
abbrev vG:FuncId:=101
abbrev eT:FuncId:=102
abbrev kI:FuncId:=103
abbrev qM:FuncId:=104
abbrev dO:FuncId:=109
abbrev oI:FuncId:=110
abbrev pB:FuncId:=111
abbrev bN:FuncId:=112
abbrev DF:FuncId:=113
abbrev mV:FuncId:=114
abbrev sU:FuncId:=115
abbrev wM:FuncId:=116
abbrev jE:FuncId:=117
abbrev bC:FuncId:=118
abbrev mC:FuncId:=119
abbrev oB:FuncId:=120
abbrev mW:FuncId:=121
abbrev kJ:FuncId:=122
abbrev iN:FuncId:=123
abbrev cI:FuncId:=151
abbrev iB:FuncId:=152
abbrev dK:FuncId:=153
abbrev cJ:FuncId:=154
abbrev jF:FuncId:=155
abbrev lG:FuncId:=156
abbrev jS:FuncId:=157
abbrev bU:FuncId:=162
abbrev kK:FuncId:=163
abbrev lH:FuncId:=164
abbrev fM:FuncId:=165
abbrev jG:FuncId:=166
abbrev rQ:FuncId:=167
abbrev pC:FuncId:=168
abbrev jN:FuncId:=169
abbrev kL:FuncId:=170
abbrev gU:FuncId:=193
abbrev oJ:FuncId:=208
abbrev oC:FuncId:=209
abbrev iC:FuncId:=210
abbrev kU:FuncId:=212
def fT:FuncId->pR:=aOI [(3,⟨bL [(25,[0,2,3,9,12,14,15],[0,2,3,9,12,14,15],[8]),(16,[0,2,3,9,12,14,15],[0,14],[8]),(9,[0,2,3,9,11,12,13],[0,2,3,9,12],[8])],bM [(22,[0,2,3,9,12,14,15])]⟩),(4,⟨bL [(24,[1,5,7,9,10,14],[1,5,7,9],[]),(20,[1,5,7,9,10,13],[1,5,7,9,10],[]),(16,[1,5,7,9,10,11,12],[1,5,7,9,10],[]),(10,[1,5,7,9],[],[4])],bM []⟩),(5,⟨bL [(8,[0,1,5,7],[],[4])],bM [(25,[0,1,5,7,8,11])]⟩),(14,⟨bL [(4,[0,1,5],[],[4])],bM []⟩),(15,⟨bL [(7,[0,3,4,5],[0,3,4],[]),(3,[0,3,4],[3],[])],bM []⟩),(19,⟨bL [(4,[2,3,5],[],[4])],bM []⟩),(20,⟨bL [(9,[1,2,3,6],[2,3],[]),(5,[1,2,3,4,5],[1,2,3],[])],bM []⟩),(22,⟨bL [(5,[0,3,16,17,18],[3],[])],bM []⟩),(23,⟨bL [(13,[3,4,6,7],[3,4,6,7],[]),(10,[3,4,6],[4],[]),(5,[0,3,4,5],[3,4],[])],bM [(11,[3,4,6]),(6,[0,3,4,5]),(4,[0,3,4])]⟩),(24,⟨bL [(20,[5,8,130,131,132],[5,8],[6,7]),(14,[3,5,8,84,85,86],[5,8],[6,7])],bM [(13,[3,5,8])]⟩),(25,⟨bL [(4,[0,1,5],[],[4])],bM []⟩),(28,⟨bL [],bM [(7,[1,3,4,5,6])]⟩),(32,⟨bL [(22,[0,11,148,149],[11],[]),(12,[0,1,11,13,88,89,90,94,95,96],[0,1,11,88,89,90],[]),(9,[0,1,11,88,89,90],[0,1,11],[])],bM [(20,[0,1,11]),(5,[0,1,2,3,4])]⟩),(34,⟨bL [(5,[0,1,5,6],[0,5],[])],bM [(6,[0,1,5,6])]⟩),(38,⟨bL [(4,[0,3,5],[0,3],[4])],bM []⟩),(41,⟨bL [(6,[0,4,5,6],[0,4,5],[])],bM [(7,[0,4,5,6])]⟩),(45,⟨bL [(5,[3,12,13,14],[3],[])],bM []⟩),(47,⟨bL [(9,[0,3,4,5],[0,3],[]),(4,[0,3],[0],[2])],bM [(10,[0,3,4,5])]⟩),(48,⟨bL [(7,[0,3,4,5],[0,3,4,5],[]),(3,[0,3,4],[3],[])],bM [(4,[0,3,4])]⟩),(49,⟨bL [(5,[1,4,79,80,81],[1,4],[2,3])],bM []⟩),(51,⟨bL [(4,[2,3,5],[],[4])],bM []⟩),(52,⟨bL [],bM [(8,[0,1,2,7])]⟩),(63,⟨bL [(12,[0,3,6,16,17,36,37],[0,3,16,17],[]),(5,[0,3,16,17],[],[2])],bM []⟩),(84,⟨bL [(2,[0,1,7,8],[],[4])],bM []⟩),(87,⟨bL [(2,[0,1,7,8],[],[4])],bM []⟩),(88,⟨bL [(4,[1,2,18,19,20],[],[])],bM []⟩),(91,⟨bL [(8,[0,3,6,7,27,28,29],[0,3,6,7],[]),(6,[0,3,6,7],[7],[])],bM [(5,[0,3,6])]⟩),(93,⟨bL [(11,[0,29,30,31],[],[2]),(4,[0,3],[0],[2])],bM []⟩),(95,⟨bL [(40,[0,17,22],[0,17],[]),(30,[0,1,17,18,19,20],[0,1,17,18,19],[]),(27,[0,1,17,18,19],[0,1,17],[]),(10,[0,1,2,3,4,13,14],[0,1,2,3,4],[])],bM [(41,[0,17,22]),(37,[0,1,17]),(31,[0,1,17,18,19,20]),(26,[0,1,17,18]),(11,[0,1,2,3,4,13,14]),(7,[0,1,2,3,4])]⟩),(96,⟨bL [(4,[0,1,5],[],[4])],bM []⟩),(98,⟨bL [(2,[0,1,2,3,8,9],[],[])],bM [(17,[0,1,2,3,8,9,10,11]),(15,[0,1,2,3,8,9,10,11,12]),(10,[0,1,2,3,8,9,10])]⟩),(100,⟨bL [(2,[0,1,5],[],[4])],bM []⟩),(103,⟨bL [(3,[3,7,8,9],[3],[])],bM []⟩),(106,⟨bL [(4,[0,1,2,7],[7],[])],bM [(8,[0,1,2,7])]⟩),(109,⟨bL [(2,[0,1,7,8],[],[4])],bM []⟩),(112,⟨bL [(9,[0,3,4,5],[0,3],[]),(4,[0,3],[0],[2])],bM [(10,[0,3,4,5])]⟩),(114,⟨bL [],bM [(3,[1,3])]⟩),(115,⟨bL [(5,[0,2,8,37,38,39],[0,2,8],[])],bM []⟩),(117,⟨bL [(2,[0,14,15,16],[],[4,5])],bM []⟩),(118,⟨bL [(1000003,[2,4,5],[],[])],bM []⟩),(1400003,⟨bL [(1000000,[2,4,5],[],[])],bM []⟩),(123,⟨bL [],bM [(4,[0,6,7])]⟩),(125,⟨bL [(9,[1,6,7,8],[],[4]),(2,[0,1,5,6],[0,1,5,6],[])],bM []⟩),(127,⟨bL [(2,[0,1,5],[0,1],[4])],bM []⟩),(129,⟨bL [(2,[0,1,5],[],[4])],bM []⟩),(130,⟨bL [(4,[0,1,2,6,7,8,9],[0,1,2,6,7,8],[])],bM [(16,[0,2,6,8]),(5,[0,1,2,6,7,8,9]),(11,[0,1,2,6,7,8,9,10])]⟩),(132,⟨bL [],bM [(15,[0,1,2,7])]⟩),(133,⟨bL [(2,[0,1,2,7],[7],[6])],bM []⟩),(137,⟨bL [(3,[3,6,7,8],[3],[2])],bM []⟩),(140,⟨bL [(4,[0,1,2,6,7],[0,1,2,6],[]),(1,[0,1,2,6],[],[])],bM []⟩),(141,⟨bL [(8,[0,6,7,10],[],[]),(4,[0,6,7,8,9],[0,6,7,8],[])],bM []⟩),(142,⟨bL [(5,[0,1,6,7,8,9],[],[])],bM [(10,[0,1,6,7,8,9,10])]⟩),(143,⟨bL [],bM [(12,[9,11]),(11,[0,9,10,11,12])]⟩),(144,⟨bL [(2,[0,6,7],[],[])],bM []⟩),(145,⟨bL [(20,[0,1,2,7,8,10],[0,1,2,7,8],[]),(14,[0,1,2,7,8,9],[0,1,2,7,8],[]),(5,[0,1,2,7,8],[0,1,2,7,8],[]),(3,[0,1,2,7,8],[],[6])],bM [(4,[0,1,2,7,8]),(18,[0,1,2,7,8])]⟩),(147,⟨bL [(5,[0,1,9,10],[0,1,9,10],[]),(3,[0,1,9,10],[0,1,9,10],[]),(3,[0,1,9,10],[9],[])],bM []⟩),(148,⟨bL [(15,[0,1,10,11],[0,1,10,11],[]),(13,[0,1,10,11],[0,1,10,11],[]),(13,[0,1,10,11],[0,1,11],[]),(5,[0,1,10,11],[0,1,10,11],[]),(3,[0,1,10,11],[0,1,10,11],[])],bM []⟩),(149,⟨bL [],bM [(7,[0,2]),(4,[0,2])]⟩),(150,⟨bL [],bM [(10,[0,2]),(7,[0,2]),(4,[0,2])]⟩),(161,⟨bL [(2,[0,1,2,3,8,9],[],[])],bM [(17,[0,1,2,3,8,9,10,11]),(15,[0,1,2,3,8,9,10,11,12]),(10,[0,1,2,3,8,9,10])]⟩),(162,⟨bL [(3,[0,1,2,8,9,10],[0,1,2,8,9],[])],bM []⟩),(170,⟨bL [],bM [(4,[0,1])]⟩),(173,⟨bL [(2,[0,1,2,7],[7],[])],bM [(5,[0,1,2,7])]⟩),(179,⟨bL [(3,[0,1,2,7,8],[7],[])],bM [(4,[0,1,2,7,8])]⟩),(181,⟨bL [(12,[0,1,2,8,12],[0,1,2],[6,7]),(3,[0,1,2,8,9],[0,1,2,8],[6,7])],bM []⟩),(184,⟨bL [(1,[0,6],[],[])],bM []⟩),(187,⟨bL [(1,[0,2,3,8],[],[])],bM [(5,[0,2,3,8,9])]⟩),(193,⟨bL [],bM [(8,[2,49])]⟩),(194,⟨bL [(6,[1,5,6,21],[6],[])],bM [(11,[1,5,6,8,21])]⟩),(196,⟨bL [(24,[2,8,9,10,14,15,16,17,18],[2,8,14,15,17,18],[]),(17,[2,8,9,10,11,13,14,15,16],[2,8,9,10,11,13,14,15],[])],bM [(28,[2,8,14,15,17,18]),(21,[2,8,9,10,11,13,14,15]),(5,[0,1,2]),(3,[0,1,2])]⟩),(197,⟨bL [(4,[0,1,2,6,7],[0,1,2,6],[]),(1,[0,1,2,6],[],[])],bM []⟩),(198,⟨bL [(8,[0,6,7,10],[],[]),(4,[0,6,7,8,9],[0,6,7,8],[])],bM []⟩),(199,⟨bL [(5,[0,1,6,7,8,9],[],[])],bM [(10,[0,1,6,7,8,9,10])]⟩),(200,⟨bL [],bM [(12,[9,11]),(11,[0,9,10,11,12])]⟩),(201,⟨bL [(2,[0,6,7],[],[])],bM []⟩),(202,⟨bL [(20,[0,1,2,7,8,10],[0,1,2,7,8],[]),(14,[0,1,2,7,8,9],[0,1,2,7,8],[]),(5,[0,1,2,7,8],[0,1,2,7,8],[]),(3,[0,1,2,7,8],[],[6])],bM [(4,[0,1,2,7,8]),(18,[0,1,2,7,8])]⟩),(204,⟨bL [(5,[0,1,9,10],[0,1,9,10],[]),(3,[0,1,9,10],[0,1,9,10],[]),(3,[0,1,9,10],[9],[])],bM []⟩),(205,⟨bL [(15,[0,1,10,11],[0,1,10,11],[]),(13,[0,1,10,11],[0,1,10,11],[]),(13,[0,1,10,11],[0,1,11],[]),(5,[0,1,10,11],[0,1,10,11],[]),(3,[0,1,10,11],[0,1,10,11],[])],bM []⟩),(210,⟨bL [(1,[0,1,3],[],[])],bM []⟩),(212,⟨bL [(2,[0,1,7,8],[],[4])],bM []⟩),(213,⟨bL [(5,[1,2,5,6],[5],[])],bM []⟩),(216,⟨bL [(5,[0,3,5,6],[0,3,5,6],[])],bM []⟩),(219,⟨bL [(3,[0,1,5,6],[5],[])],bM [(4,[0,1,5,6])]⟩),(220,⟨bL [(1000003,[2],[],[])],bM []⟩),(1130003,⟨bL [(1000000,[2],[],[])],bM []⟩),(221,⟨bL [(2,[0,1,2,3,4,10,11],[],[])],bM [(17,[0,1,2,3,4,10,11,12,13]),(15,[0,1,2,3,4,10,11,12,13,14]),(10,[0,1,2,3,4,10,11,12])]⟩),(224,⟨bL [(1,[0,2,3,8],[],[])],bM [(5,[0,2,3,8,9])]⟩),(231,⟨bL [(2,[0,1,2,6,8],[6],[6,7])],bM []⟩),(232,⟨bL [(3,[0,1,2,3,9,10],[9],[])],bM [(4,[0,1,2,3,9,10])]⟩),(233,⟨bL [(4,[0,1,2,3,8,9],[0,1,2,3,8],[]),(1,[0,1,2,3,8],[],[])],bM []⟩),(234,⟨bL [(8,[0,3,8,9,12],[],[]),(4,[0,3,8,9,10,11],[0,3,8,9,10],[])],bM []⟩),(235,⟨bL [(5,[0,1,8,9,10,11],[],[])],bM [(10,[0,1,8,9,10,11,12])]⟩),(236,⟨bL [],bM [(12,[11,13]),(11,[0,3,11,12,13,14])]⟩),(237,⟨bL [(2,[0,8,9],[],[])],bM []⟩),(238,⟨bL [(20,[0,1,2,3,9,10,12],[0,1,2,3,9,10],[]),(14,[0,1,2,3,9,10,11],[0,1,2,3,9,10],[]),(5,[0,1,2,3,9,10],[0,1,2,3,9,10],[]),(3,[0,1,2,3,9,10],[],[8])],bM [(4,[0,1,2,3,9,10]),(18,[0,1,2,3,9,10])]⟩),(239,⟨bL [(5,[0,1,4,11,12],[0,1,4,11,12],[]),(3,[0,1,4,11,12],[0,1,4,11,12],[]),(3,[0,1,4,11,12],[11],[])],bM []⟩),(240,⟨bL [(15,[0,1,4,12,13],[0,1,4,12,13],[]),(13,[0,1,4,12,13],[0,1,4,12,13],[]),(13,[0,1,4,12,13],[0,1,13],[]),(5,[0,1,4,12,13],[0,1,4,12,13],[]),(3,[0,1,4,12,13],[0,1,4,12,13],[])],bM []⟩),(242,⟨bL [(1,[0,2,3],[],[])],bM []⟩),(243,⟨bL [(1,[0,2,3,4,10],[],[])],bM [(5,[0,2,3,4,10,11])]⟩)]
abbrev HK:=Hp->KV->Prop
abbrev nS:List Value:=[(.int .u8 (.ofNat 0)),(.int .i64 (.ofNat 0)),(.int .i64 (.ofNat 0)),(.int .i64 (.ofNat 0)),(.int .i64 (.ofNat 0)),(.int .i64 (.ofNat 0)),(.int .i64 (.ofNat 0)),(.int .i64 (.ofNat 0)),(.int .i64 (.ofNat 0)),(.string ⟨⟨[]⟩⟩),(.slice none 0 0)]
abbrev tR:List Value:=[(.int .i64 (.ofNat 0)),(.int .i64 (.ofNat 0)),(.int .u8 (.ofNat 0)),(.int .i64 (.ofNat 0)),(.string ⟨⟨[]⟩⟩)]
abbrev NI:List Value:=[(.int .i64 (.ofNat 0)),(.string ⟨⟨[]⟩⟩)]
abbrev WJ:List Value:=[(.int .i64 (.ofNat 0))]
abbrev WK:List Value:=[(.int .i64 (.ofNat 0)),(.int .i64 (.ofNat 0)),(.int .i64 (.ofNat 0)),(.int .i64 (.ofNat 0)),(.int .i64 (.ofNat 0)),(.int .i64 (.ofNat 0)),(.int .i64 (.ofNat 0)),(.string ⟨⟨[]⟩⟩),(.string ⟨⟨[]⟩⟩),(.int .i64 (.ofNat 0)),(.int .i64 (.ofNat 0)),(.bool false),(.bool false),(.string ⟨⟨[]⟩⟩),(.slice none 0 0)]
abbrev Dg:List Value:=[(.int .i64 (.ofNat 0)),(.string ⟨⟨[]⟩⟩),(.bool false),(.int .i64 (.ofNat 0)),(.int .i64 (.ofNat 0)),(.int .i64 (.ofNat 0)),(.int .i64 (.ofNat 0)),(.int .i64 (.ofNat 0)),(.int .i64 (.ofNat 0)),(.int .i64 (.ofNat 0)),(.string ⟨⟨[]⟩⟩),(.string ⟨⟨[]⟩⟩),(.int .i64 (.ofNat 0)),(.int .i64 (.ofNat 0)),(.bool false),(.bool false),(.string ⟨⟨[]⟩⟩),(.slice none 0 0),(.slice none 0 0),(.slice none 0 0)]
abbrev Mn:List Value:=[(.int .i64 (.ofNat 0)),(.int .i64 (.ofNat 0)),(.int .u8 (.ofNat 0))]
abbrev aC5:List Value:=[(.int .i64 (.ofNat 0)),(.int .i64 (.ofNat 0)),(.int .i64 (.ofNat 0)),(.int .i64 (.ofNat 0)),(.int .i64 (.ofNat 0)),(.int .i64 (.ofNat 0)),(.int .i64 (.ofNat 0)),(.int .i64 (.ofNat 0)),(.int .i64 (.ofNat 0)),(.int .i64 (.ofNat 0)),(.int .i64 (.ofNat 0)),(.int .i64 (.ofNat 0))]
abbrev aC6:List Value:=[(.int .u64 (.ofNat 0)),(.int .u64 (.ofNat 0)),(.int .u64 (.ofNat 0)),(.int .u64 (.ofNat 0)),(.int .i64 (.ofNat 0)),(.int .i64 (.ofNat 0)),(.int .i64 (.ofNat 0)),(.int .i64 (.ofNat 0)),(.int .i64 (.ofNat 0)),(.int .i64 (.ofNat 0)),(.int .i64 (.ofNat 0)),(.int .i64 (.ofNat 0))]
abbrev aC7:List Value:=[(.int .u64 (.ofNat 0)),(.int .u64 (.ofNat 0)),(.int .u64 (.ofNat 0)),(.int .u64 (.ofNat 0)),(.int .i64 (.ofNat 0)),(.int .i64 (.ofNat 0)),(.int .i64 (.ofNat 0)),(.int .i64 (.ofNat 0)),(.int .i64 (.ofNat 0)),(.int .i64 (.ofNat 0)),(.int .i64 (.ofNat 0)),(.int .i64 (.ofNat 0)),(.int .i64 (.ofNat 0)),(.int .i64 (.ofNat 0)),(.string ⟨⟨[]⟩⟩),(.pointer none),(.slice none 0 0),(.slice none 0 0)]
def gQ(x:VE)(a b c:V)(k:V->Prop):Prop:=fY x.most (QY a b c k)
def gM(n:Nat)(p:V)(k:V->Prop):Prop:=jI PP p λp=>bF n p k
def gG(n:Nat)(p:V)(S:Hp)(k:KV):Prop:=bF n p λp=>bJ p S k
def gN(n:Nat)(p:V)(S:Hp)(k:KV):Prop:=jI PP p λp=>bF n p λp=>bJ p S k
def gCf(x:VE)(v u p:V)(S:Hp)(k:Prop):Prop:=fY x.most (AE false v u (λk=>bJ p S λa _=>aT a u k) k)
def gCt(x:VE)(v u p:V)(S:Hp)(k:Prop):Prop:=fY x.most (AE true v u (λk=>bJ p S λa _=>aT a u k) k)
def wF(x:VE)(v u:V)(S:Hp)(k:KV):Prop:=fY x.most (eL false v (λk=>k u S) S k)
def BD(x:VE)(v u:V)(S:Hp)(k:KV):Prop:=fY x.most (eL true v (λk=>k u S) S k)
def uM(x:VE)(v:V)(op:KV->Prop)(S:Hp)(k:KV):Prop:=fY x.most (eL false v (λk=>op λu S=>k u S) S k)
def ST(x:VE)(v:V)(op:KV->Prop)(S:Hp)(k:KV):Prop:=fY x.most (eL true v (λk=>op λu S=>k u S) S k)
def jK(x:VE)(v:V)(op:(V->Prop)->Prop)(S:Hp)(k:KV):Prop:=fY x.most (eL false v (λk=>op λu=>k u S) S k)
def rW(x:VE)(v:V)(op:(V->Prop)->Prop)(S:Hp)(k:KV):Prop:=fY x.most (eL true v (λk=>op λu=>k u S) S k)
def zE(x:VE)(v:V)(n:Nat)(p:V)(S:Hp)(k:KV):Prop:=jK x v (bF n p) S λa S=>uM x v (bJ a S) S k
def Av(x:VE)(v:V)(n:Nat)(p:V)(S:Hp)(k:KV):Prop:=rW x v (bF n p) S λa S=>ST x v (bJ a S) S k
def XG(x:VE)(v:V)(n:Nat)(p:V)(op:BinOp)(t:TypeId)(c:V)(S:Hp)(k:KV):Prop:=jK x v (bF n p) S λa S=>uM x v (bJ a S) S λa S=>jK x v (aD PP op t a c) S λj S=>gQ x v (.bool true) j λr=>k r S
def Vk(x:VE)(v:V)(n:Nat)(p:V)(op:BinOp)(t:TypeId)(c:V)(S:Hp)(k:KV):Prop:=rW x v (bF n p) S λa S=>ST x v (bJ a S) S λa S=>rW x v (aD PP op t a c) S λj S=>gQ x v j (.bool false) λr=>k r S
def gEf(x:VE)(v:V)(n:Nat)(p q:V)(op:BinOp)(t:TypeId)(S:Hp)(k:KV):Prop:=jK x v (bF n p) S λa S=>uM x v (bJ a S) S λa S=>jK x v (bF n q) S λc S=>uM x v (bJ c S) S λc S=>jK x v (aD PP op t a c) S λj S=>gQ x v (.bool true) j λr=>k r S
def Xj(x:VE)(v:V)(n:Nat)(p q:V)(op:BinOp)(t:TypeId)(S:Hp)(k:KV):Prop:=rW x v (bF n p) S λa S=>ST x v (bJ a S) S λa S=>rW x v (bF n q) S λc S=>ST x v (bJ c S) S λc S=>rW x v (aD PP op t a c) S λj S=>gQ x v j (.bool false) λr=>k r S
abbrev LD(i o:Nat)(S:Hp)(v:V):Prop:=∀{K:KV},bJ (.ptr i o) S K=K v S
abbrev LB(op:BinOp)(t:TypeId)(a b v:V):Prop:=∀{k:V->Prop},aD PP op t a b k=k v
theorem KJ{q k:Nat}(h:q<k):∃n,k=n+1:=⟨k-1,(Nat.succ_pred_eq_of_pos (Nat.lt_of_le_of_lt (gF q) h)).symm⟩
end Go.Am
namespace Go.Proofs.Lg
open Go
structure Vt where
 fr:Int
 rd:Int
 kd:Int
 va:Int
 tx:ByteArray
 deriving Inhabited
def qW(v:Vt):Value:= .agg #[.int .i64 v.fr,.int .i64 v.rd,.int .u8 v.kd,.int .i64 v.va,.string v.tx]
def dec:Value->Vt
 | .agg ⟨[.int _ a,.int _ b,.int _ c,.int _ d,.string s]⟩=>⟨a,b,c,d,s⟩
 | _=>default
def dv(e:MapEntry):Vt:=dec e.val
def zD(p:Vt->Bool)(l:List Vt)(f:Nat):Nat:=(l.filter λv=>p v&&v.fr==(f:Int)).length
def mem(p:Vt->Bool)(n:Nat)(l:List Vt):Nat:=((List.range (n+1)).filter λf=>zD p l f != 0).length
theorem aHS{p:Vt->Bool}{l m:List Vt}(h:l.Perm m)(f:Nat):zD p l f=zD p m f:=(h.filter _).length_eq
theorem aHN{p:Vt->Bool}{l m:List Vt}(h:l.Perm m)(n:Nat):mem p n l=mem p n m:=by
 unfold mem;congr 2;funext f;rw [aHS h]
theorem aMT(p:Vt->Bool)(l:List Vt)(f:Nat):zD p l f<=l.length:=List.length_filter_le _ _
theorem aMU(p:Vt->Bool)(n:Nat)(l:List Vt):mem p n l<=n+1:=by
 unfold mem;have:=List.length_filter_le (λf=>zD p l f != 0) (List.range (n+1));simpa using this
theorem aD7(p:Vt->Bool)(f:Nat):zD p [] f=0:=rfl
theorem aKr(p:Vt->Bool)(n:Nat):mem p n []=0:=by
 unfold mem;simp [aD7]
theorem aCB{p:Vt->Bool}{v:Vt}(h:p v=false)(l:List Vt)(f:Nat):zD p (l++[v]) f=zD p l f:=by
 unfold zD;simp [List.filter_append,h]
theorem aMV{p:Vt->Bool}{v:Vt}(h:p v=false)(n:Nat)(l:List Vt):mem p n (l++[v])=mem p n l:=by
 unfold mem;congr 2;funext f;rw [aCB h]
theorem Lm{p:Vt->Bool}{v:Vt}(h:p v=true){f:Nat}(hf:v.fr=(f:Int))(l:List Vt):zD p (l++[v]) f=zD p l f+1:=by
 unfold zD;simp [List.filter_append,h,hf]
theorem Ct{p:Vt->Bool}{v:Vt}{f g:Nat}(hf:v.fr=(f:Int))(hg:g≠f)(l:List Vt):zD p (l++[v]) g=zD p l g:=by
 unfold zD;have:((f:Int)==(g:Int))=false:=by simp;omega
 simp [List.filter_append,hf,this]
theorem Gx{L:List Nat}(hn:L.Nodup){f:Nat}(hf:f∈L){q q':Nat->Bool}(hq:q f=false)(hq':q' f=true)(ho:∀x,x≠f->q' x=q x):(L.filter q').length=(L.filter q).length+1:=by
 induction L with
 | nil=>cases hf
 | cons a L ih=>
  simp only [List.nodup_cons]at hn;by_cases ha:a=f
  ·subst ha
   have:L.filter q'=L.filter q:=List.filter_congr λx hx=>ho x (λe=>hn.1 (e▸hx));simp [hq,hq',this]
  ·have hf':f∈L:=by
    rcases List.mem_cons.1 hf with h | h
    ·exact absurd h.symm ha
    ·exact h
   simp only [List.filter_cons,ho a ha];cases q a<;>simp [ih hn.2 hf']
theorem aKs{p:Vt->Bool}{v:Vt}(h:p v=true){n f:Nat}(hf:v.fr=(f:Int))(hn:f<=n){l:List Vt}(h0:zD p l f=0):mem p n (l++[v])=mem p n l+1:=by
 unfold mem;refine Gx (List.nodup_range) (f:=f) (by simp;omega) (by simp [h0]) (by simp [Lm h hf]) λx hx=>by rw [Ct hf hx]
theorem aKt{p:Vt->Bool}{v:Vt}{n f:Nat}(hf:v.fr=(f:Int)){l:List Vt}(h0:zD p l f≠0):mem p n (l++[v])=mem p n l:=by
 unfold mem;congr 2;funext x;by_cases hx:x=f
 ·subst hx
  cases hp:p v with
  | true=>rw [Lm hp hf];simp [h0]
  | false=>rw [aCB hp]
 ·rw [Ct hf hx]
end Go.Proofs.Lg
namespace Go.Proofs.Lg
open Go Go.RowKit Go.Rm Go.Proofs
theorem xK{W:World}{a:Addr}{v:Value}(o:Obj)(h:W.cell? a=some v):(W.alloc o).cell? a=some v:=by
 have hb:a.block<W.heap.size:=by
  unfold World.cell? at h;cases hx:W.heap[a.block]? with
  | none=>rw [hx]at h;simp at h
  | some _=>exact(Array.getElem?_eq_some_iff.1 hx).1
 rw [World.cell?_alloc_lt W o a hb];exact h
theorem aAo{a b:Bool}(h:a=b):Ending.returned (.bool a)= .returned (.bool b):=by rw [h]
set_option maxHeartbeats 400000 in
theorem aOQ(v:Vt)(rd:Int)(br:Nat)(w:World)(hr:w.cell? ⟨br,0,none⟩=some (.int .i64 rd)):
 Calls Tryz.prog 211 #[qW v,.pointer (some ⟨br,0,none⟩)] w λe w'=>e= .returned (.bool (v.rd==rd))/\w'=w.alloc (.cells #[.int .i64 v.fr,.int .i64 v.rd,.int .u8 v.kd,.int .i64 v.va,.string v.tx] 94):=by
 unfold qW;have Xd:∀o,(w.alloc o).cell? ⟨br,0,none⟩=some (.int .i64 rd):=λo=>xK o hr
 go_enter Tryz.func211,Tryz.ntmps211
 go_wp2
 go_ret
 exact⟨rfl,rfl⟩
set_option maxHeartbeats 400000 in
theorem aQI(v:Vt)(rd kd:Int)(br bk:Nat)(w:World)(hr:w.cell? ⟨br,0,none⟩=some (.int .i64 rd))(hk:w.cell? ⟨bk,0,none⟩=some (.int .u8 kd)):
 Calls Tryz.prog 195 #[qW v,.pointer (some ⟨br,0,none⟩),.pointer (some ⟨bk,0,none⟩)] w λe w'=>e= .returned (.bool (v.rd==rd&&v.kd==kd))/\w'=w.alloc (.cells #[.int .i64 v.fr,.int .i64 v.rd,.int .u8 v.kd,.int .i64 v.va,.string v.tx] 94):=by
 unfold qW;have Xd:∀o,(w.alloc o).cell? ⟨br,0,none⟩=some (.int .i64 rd):=λo=>xK o hr;have Tg:∀o,(w.alloc o).cell? ⟨bk,0,none⟩=some (.int .u8 kd):=λo=>xK o hk
 go_enter Tryz.func195,Tryz.ntmps195
 go_wp2
 all_goals
  go_ret
  refine⟨aAo ?_,by simp_all⟩
  simp_all
set_option maxHeartbeats 1000000 in
theorem aMQ(v:Vt)(rd kd:Int)(tx:ByteArray)(br bk bt:Nat)(w:World)(hr:w.cell? ⟨br,0,none⟩=some (.int .i64 rd))(hk:w.cell? ⟨bk,0,none⟩=some (.int .u8 kd))(ht:w.cell? ⟨bt,0,none⟩=some (.string tx)):
 Calls Tryz.prog 228 #[qW v,.pointer (some ⟨br,0,none⟩),.pointer (some ⟨bk,0,none⟩),.pointer (some ⟨bt,0,none⟩)] w λe w'=>e= .returned (.bool (v.rd==rd&&v.kd==kd&&v.tx.toList==tx.toList))/\w'=w.alloc (.cells #[.int .i64 v.fr,.int .i64 v.rd,.int .u8 v.kd,.int .i64 v.va,.string v.tx] 94):=by
 unfold qW;have Xd:∀o,(w.alloc o).cell? ⟨br,0,none⟩=some (.int .i64 rd):=λo=>xK o hr;have Tg:∀o,(w.alloc o).cell? ⟨bk,0,none⟩=some (.int .u8 kd):=λo=>xK o hk;have ht1:∀o,(w.alloc o).cell? ⟨bt,0,none⟩=some (.string tx):=λo=>xK o ht
 go_enter Tryz.func228,Tryz.ntmps228
 go_wp2
 all_goals
  go_ret
  refine⟨aAo ?_,by simp_all⟩
  simp_all
theorem ZD{a b:Int}(h:a=b):Ending.returned (.int .i64 a)= .returned (.int .i64 b):=by rw [h]
theorem aFw(k:Nat):(madeCells (Value.int .i64 0).cells (k*1)).toList=List.replicate k (Value.int .i64 0):=by
 apply List.ext_getElem
 ·simp [madeCells]
 ·intro i h1 h2
  simp [madeCells,Value.cells,Nat.mod_one]
theorem Hx{p:Prop}(h:p):RowKit.Hid p:=h
def Had(w:World)(bh n:Nat)(p:Vt->Bool)(l:List Vt):Prop:=∀f,f<=n->w.cell? ⟨bh,f,none⟩=some (.int .i64 (zD p l f:Int))/\w.frozen? ⟨bh,f,none⟩=false
theorem ZE{W:World}{a:Addr}{v:Value}(h:W.cell? a=some v):a.block<W.heap.size:=by
 unfold World.cell? at h;cases hx:W.heap[a.block]? with
 | none=>rw [hx]at h;simp at h
 | some _=>exact(Array.getElem?_eq_some_iff.1 hx).1
theorem aAp{W W':World}{a:Addr}(h:W'.heap[a.block]? =W.heap[a.block]?):W'.cell? a=W.cell? a/\W'.frozen? a=W.frozen? a:=by
 unfold World.cell? World.frozen?;rw [h];exact⟨rfl,rfl⟩
theorem aKq{W W':World}{a:Addr}{v:Value}{row:Option Nat}(h:W.cell? a=some v)(hg:W.grownBy W' row)(hr:some a.block≠row):W'.cell? a=some v:=
 (aAp (hg.block _ (ZE h) hr)).1.trans h
theorem aMR{W W':World}{b:Nat}{o:Obj}{row:Option Nat}(h:W.heap[b]? =some o)(hg:W.grownBy W' row)(hr:some b≠row):W'.heap[b]? =some o:=
 (hg.block _ (Array.getElem?_eq_some_iff.1 h).1 hr).trans h
theorem vC{W W':World}{n:Nat}{a:Addr}{v:Value}(h:W.cell? a=some v)(hb:Below n W W')(hn:a.block<n):W'.cell? a=some v:=(hb.cell hn).trans h
theorem aOR:(Tryz.prog.info? 3).map (λi=>(i.zero,i.size,i.bytes))=some (some (.int .i64 0),1,8):=by kernel_rfl
set_option maxRecDepth 100000 in
set_option maxHeartbeats 1000000 in
theorem aAq(g:FuncId)(cb:Array Value)(p:Vt->Bool)(bt ot bm n:Nat)(es:Array MapEntry)(clock:Nat)(w:World)(hn:n<=1000000)(hsz:es.size<=1000000)
 (h0:w.cell? ⟨bt,ot,none⟩=some (.int .i64 (n:Int))) (h1:w.cell? ⟨bt,ot+1,none⟩=some (.map (some bm))) (hb:w.heap[bm]? =some (.map es clock)) (hs:HG es clock)
 (hv:∀e∈es.toList,e.val=qW (dv e)/\∃f:Nat,(dv e).fr=(f:Int)/\f<=n)
 (eg:∀args w,(callFunc g args).run Tryz.prog w= .ok (.enter g args) w)
 (hg:∀(W:World) (v:Vt),Below w.heap.size w W->Calls Tryz.prog g (#[qW v]++cb) W λe W'=>e= .returned (.bool (p v))/\Below W.heap.size W W'):
 Calls Tryz.prog 194 #[.pointer (some ⟨bt,ot,none⟩),.func (.func g) #[] cb] w λe w'=>e= .returned (.int .i64 (mem p n (es.toList.map dv):Int))/\Below w.heap.size w w':=by
 obtain⟨i0,hi,hz0,Hh,XB⟩:=info_parts aOR
 go_enter Tryz.func194,Tryz.ntmps194
 go_wp2_with (first
  | (at_make;refine wpList_make_full _ rfl _ _ 33 rfl w.heap.size 3 i0 (.int .i64 0) 1 Tryz.underlying33 hi hz0 Hh .i64 .i64 _ _ (n+1) rfl rfl (by push_cast;rfl) (by push_cast;rfl) (by rw [XB];omega) (by unfold maxLen;omega) (Nat.le_refl _) ?_;intro w1 aFs hgr;have hc1:=aKq h1 hgr (by simp);have Kc:=aMR hb hgr (by simp))
  | (at_range;refine Cs rfl _ 156 rfl 158 94 Tryz.underlying156 rfl Kc hs ?_;intro w2 hw2 Xh)
  | go_in)
 go_frame
 have aQJ:w.heap.size<w1.heap.size:=(aFs.lt w.heap.size rfl).2;have hbt:=ZE h0;have hbm:=(Array.getElem?_eq_some_iff.1 hb).1;simp only at hbt
 have aQK:Had w2 w.heap.size n p []:=by
  obtain⟨_,h | ⟨gg,cap,cur,he,_,VT,_,_,xV,htk⟩⟩:=aFs
  ·cases h.1
  ·injection he with Tj he2 he3
   injection Tj with Tj;injection Tj with Tj;subst Tj
   have hz:cur.toList=List.replicate (n+1) (Value.int .i64 0):=by
    have h1:cur.toList.take ((n+1)*1)=cur.toList:=List.take_of_length_le (by simp [xV,<-he3]);rw [<-h1,htk];exact aFw _
   have hblk:w2.heap[w.heap.size]? =some (.cells cur 3 (0,0)):=by rw [hw2,Below.heap_alloc _ _ _ aQJ];exact VT
   intro f hf
   have hcf:cur[f]? =some (.int .i64 0):=by
    rw [<-Array.getElem?_toList,hz,List.getElem?_replicate,if_pos (by omega)]
   constructor
   ·unfold World.cell?;simp only [hblk];simpa [aD7]using hcf
   ·unfold World.frozen?;simp only [hblk];simp
 have hB2:Below w.heap.size w w2:=by
  rw [hw2];exact((Below.refl _ _).grown hgr (Nat.le_refl _) (λk e=>by cases e)).alloc (by omega) _
 go_loopw [6] (λx wr=>∃(done todo:List MapEntry),QT wr bm w1.heap.size es clock done todo/\x= .int .i64 (mem p n (done.map dv):Int)/\Had wr w.heap.size n p (done.map dv)/\Below w.heap.size w wr/\w1.heap.size<wr.heap.size)
  (λ_ wr=>wr.rangeLeft bm w1.heap.size)
 case atStart=>exact⟨[],es.toList,Xh,by simp [aKr],aQK,hB2,by rw [hw2];simp⟩
 case round=>
  obtain⟨done,todo,Xh,rfl,hH,hB,hws⟩:=hrel
  go_wp2_with (first
   | (at_next;refine Gw rfl _ rfl rfl Xh ?_ ?_)
   | go_in)
  ·intro h0
   subst h0;have hm:mem p n (done.map dv)=mem p n (es.toList.map dv):=aHN (by simpa using Xh.2.2.2.map dv) n
   go_wp2
   go_ret
   exact⟨ZD (by rw [hm]),hB⟩
  ·rintro⟨k0,x0,b0⟩ wY w3 hp aMS hg3 hs3 hen
   obtain⟨hx,f,hf,hfn⟩:=hv ⟨k0,x0,b0⟩ ((Xh.2.2.2).subset (List.mem_append_right _ (hp.symm.subset List.mem_cons_self)));obtain⟨v,hvd,hx⟩:∃v,dv ⟨k0,x0,b0⟩=v/\x0=qW v:=⟨_,rfl,hx⟩;subst hx;rw [hvd]at hf;have hgv:=hg (w3.alloc (.cells #[.int .i64 v.fr,.int .i64 v.rd,.int .u8 v.kd,.int .i64 v.va,.string v.tx] 94)) v (((hB.grown hg3 (by omega) (λk e=>by cases e;omega))).alloc (by omega) _);dsimp only [qW]at hen hgv ⊢;rw [hf]at hen hgv ⊢;have Ed:=aMT p (done.map dv) f;have DT:=aMU p n (done.map dv)
   have Kk:done.length<=es.size:=by
    have:=Xh.2.2.2.length_eq;simp at this;omega
   simp only [List.length_map]at Ed;have aRC:zD p (done.map dv) f<=1000000:=by omega
   have aRD:mem p n (done.map dv)<=1000001:=by omega
   clear Ed DT Kk;have aRE:bm<w1.heap.size:=by omega
   have hH3:∀W4,Below (w3.alloc (.cells #[.int .i64 v.fr,.int .i64 v.rd,.int .u8 v.kd,.int .i64 v.va,.string v.tx] 94)).heap.size (w3.alloc (.cells #[.int .i64 v.fr,.int .i64 v.rd,.int .u8 v.kd,.int .i64 v.va,.string v.tx] 94)) W4->QT W4 bm w1.heap.size es clock (done++[⟨k0,qW v,b0⟩]) wY/\Had W4 w.heap.size n p (done.map dv)/\Below w.heap.size w W4/\wr.heap.size<W4.heap.size/\W4.cell? ⟨wr.heap.size,0,none⟩=some (.int .i64 v.fr):=by
    intro W4 Ul;have aQL:=Ul.size;simp only [World.size_alloc]at aQL
    have hblk:∀j,j<wr.heap.size->j≠w1.heap.size->W4.heap[j]? =wr.heap[j]? :=λj hj wC=>by
     rw [Ul.block j (by simp;omega),Below.heap_alloc _ _ _ (by omega)];exact hg3.block j hj (by simpa using wC)
    refine⟨aMS.Cq ?_ ?_,λg hg=>?_,?_,by omega,?_⟩
    ·rw [Ul.block bm (by simp;omega),Below.heap_alloc _ _ _ (by omega)]
    ·rw [Ul.block w1.heap.size (by simp;omega),Below.heap_alloc _ _ _ (by omega)]
    ·obtain⟨q1,q2⟩:=aAp (W:=wr) (W':=W4) (a:=⟨w.heap.size,g,none⟩) (hblk _ (by simp;omega) (by simp;omega))
     rw [q1,q2];exact hH g hg
    ·refine(((hB.grown hg3 (by omega) (λk e=>by cases e;omega))).alloc (by omega) (.cells #[.int .i64 v.fr,.int .i64 v.rd,.int .u8 v.kd,.int .i64 v.va,.string v.tx] 94)).trans (Ul.mono (by simp;omega))
    ·rw [<-hs3,Ul.cell (p:=⟨w3.heap.size,0,none⟩) (by simp),World.cell?_alloc_new];rfl
   have aOS:dv ⟨k0,qW v,b0⟩=v:=rfl;have aAr:(done++[⟨k0,qW v,b0⟩]:List MapEntry).map dv=done.map dv++[v]:=by simp [aOS]
   have HD:=Hx aAr;have HL:=Hx Xh.left_eq;have HP:=Hx hp;have HF:=Hx hf;rw [hf]at hH3;clear aAr aOS hvd hp;cases hpv:p v with
   | false=>
    rw [hpv]at hgv
    go_wp2_with (first | (go_at_fn g;refine hgv.mono ?_;clear hgv;rintro e w4 ⟨rfl,Ul⟩;obtain⟨r1,r2,r3,r4,r5⟩:=hH3 w4 Ul) | go_in)
    go_roundw
    case rel=>exact⟨done++[({key:=k0,val:=qW v,born:=b0}:MapEntry)],wY,r1,by rw [HD.out,aMV hpv],λg hg=>by rw [HD.out,aCB hpv];exact r2 g hg,r3,by omega⟩
    case measure=>rw [r1.left_eq,HL.out,HP.out.length_eq];simp
   | true=>
    rw [hpv]at hgv
    have Oj:∀W4,QT W4 bm w1.heap.size es clock (done++[⟨k0,qW v,b0⟩]) wY->Had W4 w.heap.size n p (done.map dv)->Below w.heap.size w W4->wr.heap.size<W4.heap.size->∀x,x=Value.int .i64 (zD p (done.map dv) f+1:Int)->
     QT (W4.setCell ⟨w.heap.size,f,none⟩ x) bm w1.heap.size es clock (done++[⟨k0,qW v,b0⟩]) wY/\Had (W4.setCell ⟨w.heap.size,f,none⟩ x) w.heap.size n p ((done++[⟨k0,qW v,b0⟩]:List MapEntry).map dv)/\Below w.heap.size w (W4.setCell ⟨w.heap.size,f,none⟩ x)/\w1.heap.size<(W4.setCell ⟨w.heap.size,f,none⟩ x).heap.size:=by
     rintro W4 r1 r2 r3 r4 x rfl
     refine⟨r1.Cq (Below.heap_setCell _ _ _ _ (by simp;omega)) (Below.heap_setCell _ _ _ _ (by simp;omega)),λg hg=>?_,r3.setCell (p:=⟨w.heap.size,f,none⟩) (Nat.le_refl _) _,by simp [World.setCell];omega⟩;rw [HD.out,World.frozen?_setCell];refine⟨?_,(r2 g hg).2⟩;by_cases hgf:g=f
     ·subst hgf
      rw [World.cell?_setCell_same _ _ _ (r2 g hg).1,Lm hpv HF.out];simp
     ·rw [World.cell?_setCell_other _ _ _ _ (by simp),Ct HF.out hgf]
      exact(r2 g hg).1
    by_cases hc0:zD p (done.map dv) f=0
    ·have HC:=Hx hc0
     have ht:((zD p (done.map dv) f:Int)==0)=true:=by simp [hc0]
     clear hc0
     go_wp2_with (first | (go_at_fn g;refine hgv.mono ?_;clear hgv;rintro e w4 ⟨rfl,Ul⟩;obtain⟨r1,r2,r3,r4,r5⟩:=hH3 w4 Ul;obtain⟨r6,r7⟩:=r2 f hfn) | go_in)
     go_roundw
     case rel=>
      obtain⟨z1,z2,z3,z4⟩:=Oj w4 r1 r2 r3 r4 _ rfl;exact⟨done++[⟨k0,qW v,b0⟩],wY,z1,by rw [HD.out,aKs hpv HF.out hfn HC.out];simp,z2,z3,z4⟩
     case measure=>
      obtain⟨z1,z2,z3,z4⟩:=Oj w4 r1 r2 r3 r4 _ rfl;rw [z1.left_eq,HL.out,HP.out.length_eq];simp
    ·have HC:=Hx hc0
     have ht:((zD p (done.map dv) f:Int)==0)=false:=by simp [hc0]
     clear hc0
     go_wp2_with (first | (go_at_fn g;refine hgv.mono ?_;clear hgv;rintro e w4 ⟨rfl,Ul⟩;obtain⟨r1,r2,r3,r4,r5⟩:=hH3 w4 Ul;obtain⟨r6,r7⟩:=r2 f hfn) | go_in)
     go_roundw
     case rel=>
      obtain⟨z1,z2,z3,z4⟩:=Oj w4 r1 r2 r3 r4 _ rfl;exact⟨done++[⟨k0,qW v,b0⟩],wY,z1,by rw [HD.out,aKt HF.out HC.out],z2,z3,z4⟩
     case measure=>
      obtain⟨z1,z2,z3,z4⟩:=Oj w4 r1 r2 r3 r4 _ rfl;rw [z1.left_eq,HL.out,HP.out.length_eq];simp
structure At(w:World)(bt ot n:Nat)(es:Array MapEntry):Prop where
 count:w.cell? ⟨bt,ot,none⟩=some (.int .i64 (n:Int))
 map:∃bm clock,w.cell? ⟨bt,ot+1,none⟩=some (.map (some bm))/\w.heap[bm]? =some (.map es clock)/\HG es clock
 few:n<=1000000
 size:es.size<=1000000
 ZA:∀e∈es.toList,e.val=qW (dv e)/\∃f:Nat,(dv e).fr=(f:Int)/\f<=n
theorem At.below{w w':World}{bt ot n:Nat}{es:Array MapEntry}(h:At w bt ot n es)(hb:Below w.heap.size w w'):At w' bt ot n es:=by
 obtain⟨h1,⟨bm,clock,h2,h3,h4⟩,h5,h6,h7⟩:=h;exact⟨vC h1 hb (ZE h1),⟨bm,clock,vC h2 hb (ZE h2),(hb.block _ (Array.getElem?_eq_some_iff.1 h3).1).trans h3,h4⟩,h5,h6,h7⟩
theorem At.alloc{w:World}{bt ot n:Nat}{es:Array MapEntry}(h:At w bt ot n es)(o:Obj):At (w.alloc o) bt ot n es:=h.below ((Below.refl _ _).alloc (Nat.le_refl _) _)
theorem VW(g:FuncId)(cb:Array Value)(p:Vt->Bool){bt ot n:Nat}{es:Array MapEntry}{w:World}(h:At w bt ot n es)
 (eg:∀args w,(callFunc g args).run Tryz.prog w= .ok (.enter g args) w)
 (hg:∀(W:World) (v:Vt),Below w.heap.size w W->Calls Tryz.prog g (#[qW v]++cb) W λe W'=>e= .returned (.bool (p v))/\Below W.heap.size W W'):
 Calls Tryz.prog 194 #[.pointer (some ⟨bt,ot,none⟩),.func (.func g) #[] cb] w λe w'=>e= .returned (.int .i64 (mem p n (es.toList.map dv):Int))/\Below w.heap.size w w':=by
 obtain⟨h1,⟨bm,clock,h2,h3,h4⟩,h5,h6,h7⟩:=h;exact aAq g cb p bt ot bm n es clock w h5 h6 h1 h2 h3 h4 h7 eg hg
set_option maxHeartbeats 1000000 in
theorem aHB{bt ot n:Nat}{es:Array MapEntry}{w:World}(h:At w bt ot n es)(rd:Int):
 Calls Tryz.prog 168 #[.pointer (some ⟨bt,ot,none⟩),.int .i64 rd] w λe w'=>e= .returned (.int .i64 (mem (λv=>v.rd==rd) n (es.toList.map dv):Int))/\Below w.heap.size w w':=by
 have hm:=VW 211 #[.pointer (some ⟨w.heap.size,0,none⟩)] (λv=>v.rd==rd) (h.alloc (.cells #[.int .i64 rd] 3)) (enters_of Tryz.func211 (by kernel_rfl) rfl) (λW v hb=>
  (aOQ v rd w.heap.size W (vC (World.cell?_alloc_new ..) hb (by simp))).mono λe W' ⟨he,hw⟩=>⟨he,hw▸(Below.refl _ _).alloc (Nat.le_refl _) _⟩)
 go_enter Tryz.func168,Tryz.ntmps168
 go_wp2_with (first | (go_at_call 194;refine hm.mono ?_;clear hm;rintro e w4 ⟨rfl,Ul⟩) | go_in)
 go_ret
 exact⟨rfl,((Below.refl _ _).alloc (Nat.le_refl _) _).trans (Ul.mono (by simp))⟩
set_option maxHeartbeats 1000000 in
theorem aKm{bt ot n:Nat}{es:Array MapEntry}{w:World}(h:At w bt ot n es)(rd kd:Int):
 Calls Tryz.prog 156 #[.pointer (some ⟨bt,ot,none⟩),.int .i64 rd,.int .u8 kd] w λe w'=>e= .returned (.int .i64 (mem (λv=>v.rd==rd&&v.kd==kd) n (es.toList.map dv):Int))/\Below w.heap.size w w':=by
 have hm:=VW 195 #[.pointer (some ⟨w.heap.size,0,none⟩),.pointer (some ⟨w.heap.size+1,0,none⟩)] (λv=>v.rd==rd&&v.kd==kd) ((h.alloc (.cells #[.int .i64 rd] 3)).alloc (.cells #[.int .u8 kd] 5)) (enters_of Tryz.func195 (by kernel_rfl) rfl) (λW v hb=>
  (aQI v rd kd w.heap.size (w.heap.size+1) W (vC (World.cell?_alloc2_first ..) hb (by simp;omega)) (vC (World.cell?_alloc2_new ..) hb (by simp))).mono λe W' ⟨he,hw⟩=>⟨he,hw▸(Below.refl _ _).alloc (Nat.le_refl _) _⟩)
 go_enter Tryz.func156,Tryz.ntmps156
 go_wp2_with (first | (go_at_call 194;refine hm.mono ?_;clear hm;rintro e w4 ⟨rfl,Ul⟩) | go_in)
 go_ret
 exact⟨rfl,(((Below.refl _ _).alloc (Nat.le_refl _) _).alloc (by simp) _).trans (Ul.mono (by simp;omega))⟩
set_option maxHeartbeats 1000000 in
theorem aFq{bt ot n:Nat}{es:Array MapEntry}{w:World}(h:At w bt ot n es)(rd kd:Int)(tx:ByteArray):
 Calls Tryz.prog 209 #[.pointer (some ⟨bt,ot,none⟩),.int .i64 rd,.int .u8 kd,.string tx] w λe w'=>e= .returned (.int .i64 (mem (λv=>v.rd==rd&&v.kd==kd&&v.tx.toList==tx.toList) n (es.toList.map dv):Int))/\Below w.heap.size w w':=by
 have hm:=VW 228 #[.pointer (some ⟨w.heap.size,0,none⟩),.pointer (some ⟨w.heap.size+1,0,none⟩),.pointer (some ⟨w.heap.size+1+1,0,none⟩)] (λv=>v.rd==rd&&v.kd==kd&&v.tx.toList==tx.toList) (((h.alloc (.cells #[.int .i64 rd] 3)).alloc (.cells #[.int .u8 kd] 5)).alloc (.cells #[.string tx] 9)) (enters_of Tryz.func228 (by kernel_rfl) rfl) (λW v hb=>
  (aMQ v rd kd tx w.heap.size (w.heap.size+1) (w.heap.size+1+1) W (vC (xK _ (World.cell?_alloc2_first ..)) hb (by simp;omega)) (vC (xK _ (World.cell?_alloc2_new ..)) hb (by simp)) (vC (by rw [show w.heap.size+1+1=((w.alloc (.cells #[.int .i64 rd] 3)).alloc (.cells #[.int .u8 kd] 5)).heap.size by simp];exact World.cell?_alloc_new ..) hb (by simp))).mono λe W' ⟨he,hw⟩=>⟨he,hw▸(Below.refl _ _).alloc (Nat.le_refl _) _⟩)
 go_enter Tryz.func209,Tryz.ntmps209
 go_wp2_with (first | (go_at_call 194;refine hm.mono ?_;clear hm;rintro e w4 ⟨rfl,Ul⟩) | go_in)
 go_ret
 exact⟨rfl,((((Below.refl _ _).alloc (Nat.le_refl _) _).alloc (by simp) _).alloc (by simp;omega) _).trans (Ul.mono (by simp;omega))⟩
end Go.Proofs.Lg
namespace Go.Proofs.Lg
open Go Go.RowKit Go.Rm Go.Proofs Go.Shelf
theorem aFx{w w':World}{b r:Nat}{es:Array MapEntry}{clock:Nat}{done todo:List MapEntry}(h:QT w b r es clock done todo)(hk:KeepsWalks w w'):QT w' b r es clock done todo:=by
 obtain⟨hb,hs,⟨seen,c0,hr,hc,ht⟩,hp⟩:=h;exact⟨hk.same b _ hb rfl,hs,⟨seen,c0,hk.same r _ hr rfl,hc,ht⟩,hp⟩
theorem aHO{w:World}{b r:Nat}{es:Array MapEntry}{clock:Nat}{done todo:List MapEntry}(h:QT w b r es clock done todo):∃o:Obj,w.heap[r]? =some o/\o.isWalk=true:=by
 obtain⟨hb,hs,⟨seen,c0,hr,hc,ht⟩,hp⟩:=h;exact⟨_,hr,rfl⟩
attribute [local go_sem] Oper.semAt_some
set_option maxRecDepth 100000 in
set_option maxHeartbeats 1000000 in
theorem aHP(F:Fence)(n:Nat)(h94:F.fn 184)(qR:F.round=none)(hn:1<=n)(l Bm bm:Nat)(es:Array MapEntry)(clock:Nat)(J Jx:List Vt->World->Prop)
 (hY:∀pre x W,J pre W->pre.length<es.size->YieldAt F (n-1) Tryz.prog l #[qW x] W λe W'=>
  (e= .returned (.bool true)/\J (pre++[x]) W'/\KeepsWalks W W')\/(e= .returned (.bool false)/\Jx (pre++[x]) W'))
 (W:World) (hJ:AbidesFrom W.heap.size J) (hm:W.cell? ⟨Bm,0,none⟩=some (.map (some bm))) (hb:W.heap[bm]? =some (.map es clock)) (hs:HG es clock) (hv:∀e∈es.toList,e.val=qW (dv e)) (h0:J [] W):
 CallsIn F n Tryz.prog 184 #[.func (.yield l) #[] #[],.pointer (some ⟨Bm,0,none⟩)] W λe W'=>(∃v,e= .returned v)/\
  ((∃xs,xs.Perm (es.toList.map dv)/\J xs W')\/(∃pre,True/\Jx pre W')):=by
 refine callsIn_of_wp Tryz.func184 rfl h94 ?_ qR;simp only [Tryz.ntmps184,List.size_toArray,List.length_cons,List.length_nil,Nat.reduceAdd,Nat.reduceSub,Array.replicate_succ,Array.replicate_zero,List.push_toArray,List.append_toArray,List.nil_append,List.cons_append]
 gi_wp2_with (first
  | (gi_at_range;refine VV rfl _ 156 rfl 158 94 Tryz.underlying156 rfl hb hs ?_;intro w0 hw0 aQM)
  | gi_in)
 go_frame
 gi_loopw [4] (λ_ wr=>∃(done todo:List MapEntry),QT wr bm W.heap.size es clock done todo/\J (done.map dv) wr)
  (λ_ wr=>wr.rangeLeft bm W.heap.size)
 case atStart=>
  exact⟨[],es.toList,aQM,hJ [] W w0 none h0 (by rw [hw0];exact World.grownBy_alloc W _ none) (λr e=>by cases e)⟩
 case round=>
  obtain⟨done,todo,Xh,hJs⟩:=hrel
  gi_wp2_with (first
   | (gi_at_next;refine ZB rfl _ rfl rfl Xh ?_ ?_)
   | gi_in)
  ·intro hc0
   subst hc0
   gi_wp2
   go_end0
   exact⟨⟨_,rfl⟩,.inl ⟨_,by simpa using Xh.2.2.2.map dv,hJs⟩⟩
  ·rintro⟨k0,x0,b0⟩ wY w2 hp aQN hg2 Hl hen
   have hx:=hv ⟨k0,x0,b0⟩ ((Xh.2.2.2).subset (List.mem_append_right _ (hp.symm.subset List.mem_cons_self)));obtain⟨v,hvd,hx⟩:∃v,dv ⟨k0,x0,b0⟩=v/\x0=qW v:=⟨_,rfl,hx⟩;subst hx;have hJ2:J (done.map dv) w2:=hJ _ wr w2 (some W.heap.size) hJs hg2 (λr e=>by cases e;exact⟨Nat.le_refl _,aHO Xh⟩);have hJ3:J (done.map dv) (w2.alloc (.cells #[.int .i64 v.fr,.int .i64 v.rd,.int .u8 v.kd,.int .i64 v.va,.string v.tx] 94)):=hJ _ w2 _ none hJ2 (World.grownBy_alloc _ _ none) (λr e=>by cases e)
   have Kk:done.length<es.size:=by
    have h1:=Xh.2.2.2.length_eq;have h2:=hp.length_eq;simp at h1 h2;omega
   obtain⟨fn,tmps,assign,body,hy,hR⟩:=hY (done.map dv) v _ hJ3 (by simpa using Kk);have aAr:(done++[⟨k0,qW v,b0⟩]:List MapEntry).map dv=done.map dv++[v]:=by simp [hvd]
   have HD:=Hx aAr;have HL:=Hx Xh.left_eq;have HP:=Hx hp;have aMS:=aQN.kept (World.grownBy_alloc w2 (.cells #[.int .i64 v.fr,.int .i64 v.rd,.int .u8 v.kd,.int .i64 v.va,.string v.tx] 94) none) (by simp) (by simp);clear aAr hvd hp hJ2 hJ3 Kk;dsimp only [qW]at hen hy hR ⊢
   gi_wp2
   refine hR.mono ?_
   rintro e W3 (⟨rfl,hJ3,hk3⟩ | ⟨rfl,aQO⟩)
   ·gi_wp2
    have aOT:=aFx aMS hk3
    go_roundw
    case rel=>exact⟨done++[⟨k0,qW v,b0⟩],wY,aOT,by rw [HD.out];exact hJ3⟩
    case measure=>rw [aOT.left_eq,HL.out,HP.out.length_eq];simp
   ·gi_wp2
    refine bodyPost_ret (results_none rfl _ _ _) rfl ?_;exact⟨⟨_,rfl⟩,.inr ⟨_,trivial,aQO⟩⟩
def iI(v:Vt):List Value:=[.int .i64 v.fr,.int .i64 v.rd,.int .u8 v.kd,.int .i64 v.va,.string v.tx]
theorem aMW:(Tryz.prog.info? 94).map (λi=>(i.zero,i.size,i.bytes))=some (some (.agg #[.int .i64 0,.int .i64 0,.int .u8 0,.int .i64 0,.string ⟨#[]⟩]),5,48):=by kernel_rfl
theorem aCC(F:Fence)(n:Nat)(h94:F.fn 184)(qR:F.round=none)(hn:1<=n)(Bm bm:Nat)(es:Array MapEntry)(clock:Nat)(w:World)(hBm:Bm<w.heap.size)
 (hm:w.cell? ⟨Bm,0,none⟩=some (.map (some bm))) (hb:w.heap[bm]? =some (.map es clock)) (hs:HG es clock) (hv:∀e∈es.toList,e.val=qW (dv e)):
 SeqStopsK F n Tryz.prog 184 #[.pointer (some ⟨Bm,0,none⟩)] (λv:Vt=> #[qW v]) KeepsWalks (λxs=>xs.Perm (es.toList.map dv)) (λ_=>True) es.size w:=λl J Jx W hW hJ _ hY h0=>
 aHP F n h94 qR hn l Bm bm es clock J Jx hY W hJ ((hW.cell (p:=⟨Bm,0,none⟩) hBm).trans hm) ((hW.block bm (Array.getElem?_eq_some_iff.1 hb).1).trans hb) hs hv h0
theorem VX(W:World)(v:Vt)(t:TypeId):∀j u,(iI v)[j]? =some u->(W.alloc (.cells #[.int .i64 v.fr,.int .i64 v.rd,.int .u8 v.kd,.int .i64 v.va,.string v.tx] t)).cell? ((⟨W.heap.size,0,none⟩:Addr).add j)=some u:=by
 intro j u hj
 have:(⟨W.heap.size,0,none⟩:Addr).add j=⟨W.heap.size,j,none⟩:=by
  unfold Addr.add;split<;>simp_all
 rw [this,World.cell?_alloc_new];exact(List.getElem?_toArray (xs:=iI v)).trans hj
theorem Ln(v:Vt):∀u∈iI v,u.oneCell'=true:=by
 intro u hu;simp [iI]at hu;rcases hu with rfl | rfl | rfl | rfl | rfl<;>rfl
attribute [local go_sem] Oper.semAt_some
set_option maxRecDepth 100000 in
set_option maxHeartbeats 4000000 in
theorem Um(F:Fence)(n:Nat)(aQP:F.fn 220)(h94:F.fn 184)(qR:F.round=none)(hn:3<=n)(Bm bm:Nat)(es:Array MapEntry)(clock:Nat)(w:World)(hsz:es.size<=1000000)
 (hm:w.cell? ⟨Bm,0,none⟩=some (.map (some bm))) (hb:w.heap[bm]? =some (.map es clock)) (hs:HG es clock) (hv:∀e∈es.toList,e.val=qW (dv e)):
 CallsIn F n Tryz.prog 220 #[.slice none 0 0,.func (.func 184) #[] #[.pointer (some ⟨Bm,0,none⟩)]] w λe W'=>∃(v:Value) (xs:List Vt),e= .returned v/\xs.Perm (es.toList.map dv)/\W'.ownsRow w.heap.size 94 5 v xs.length (xs.flatMap iI)/\(v= .slice none 0 0↔xs=[])/\Below w.heap.size w W':=by
 have h1:1<=n:=by omega
 have hBm:=ZE hm;simp only at hBm;obtain⟨i0,hi,hz0,Hh,XB⟩:=info_parts aMW;refine callsIn_of_wp_marks Tryz.func220 rfl aQP ?_ qR;simp only [Tryz.ntmps220,List.size_toArray,List.length_cons,List.length_nil,Nat.reduceAdd,Nat.reduceSub,Array.replicate_succ,Array.replicate_zero,List.push_toArray,List.append_toArray,List.nil_append,List.cons_append]
 gi_wp2
 have bS:=Boxed.new w 66 (.slice none 0 0);have hB0:Below w.heap.size w (w.alloc (.cells #[.slice none 0 0] 66)):=(Below.refl _ w).alloc (Nat.le_refl _) _;have hm0:=xK (.cells #[.slice none 0 0] 66) hm;have hb0:(w.alloc (.cells #[.slice none 0 0] 66)).heap[bm]? =some (.map es clock):=(Below.heap_alloc _ _ _ (Array.getElem?_eq_some_iff.1 hb).1).trans hb;have aQQ:(w.alloc (.cells #[.slice none 0 0] 66)).heap.size=w.heap.size+1:=by simp
 have hr0:=World.ownsRow_nil (w.alloc (.cells #[.slice none 0 0] 66)) w.heap.size 94 5;obtain⟨W0,hW0⟩:∃W0,w.alloc (.cells #[.slice none 0 0] 66)=W0:=⟨_,rfl⟩;rw [hW0]at bS hB0 hm0 hb0 aQQ hr0 ⊢;clear hW0
 refine wpIn_rangeFunc_ownH qR h1 (gf:=184) (lb:= #[.pointer (some ⟨Bm,0,none⟩)]) rfl h94 (enters_of Tryz.func184 (by kernel_rfl) rfl)
  (aCC F (n-1) h94 qR (by omega) Bm bm es clock W0 (by omega) hm0 hb0 hs hv) walksK_t walksK_b (Below.refl _ _) (λ_=>rfl)
  (λpre W=>(∃v,Boxed W w.heap.size 66 v/\W.ownsRow w.heap.size 94 5 v pre.length (pre.flatMap iI)/\(v= .slice none 0 0↔pre=[]))/\Below w.heap.size w W)
  (λ_ _ _=>False)
  (OwnFrom.and (Own.from (holdsRow_own w.heap.size w.heap.size 66 94 5 (λpre:List Vt=>pre.length) (λpre=>pre.flatMap iI) (λpre v=>(v= .slice none 0 0↔pre=[]))) _) (ownFrom_below (Nat.le_refl _) (by omega)))
  (λ_ _ _ _ _ hs _ _=>hs)
  ⟨⟨_,bS,hr0,by simp⟩,hB0⟩
  (λx a' W=>∃Bx,w.heap.size<Bx/\W.heap[Bx]? =some (.cells #[.int .i64 x.fr,.int .i64 x.rd,.int .u8 x.kd,.int .i64 x.va,.string x.tx] 94 (0,0))/\a'={tmps:= #[.slice none 0 0,.func (.func 184) #[] #[.pointer (some ⟨Bm,0,none⟩)],.pointer (some ⟨w.heap.size,0,none⟩),undef,.slice none 0 0,.pointer (some ⟨Bx,0,none⟩),.func (.func 184) #[] #[.pointer (some ⟨Bm,0,none⟩)],qW x,undef,undef,undef,undef,undef],defers:=[]})
  (λx a' _ X Y row hs hg hr=>by
   obtain⟨Bx,h1,h2,h3⟩:=hs;refine⟨Bx,h1,(hg.block Bx (Array.getElem?_eq_some_iff.1 h2).1 (λe=>?_)).trans h2,h3⟩;obtain⟨_,o,ho,hc⟩:=hr Bx e.symm;rw [h2]at ho;cases ho;cases hc)
  ?assign ?body ?done ?stop
 case assign=>
  rintro l pre x W K ⟨⟨v,bS1,Xd,MB⟩,hB1⟩ hK
  dsimp only [qW]at hK ⊢
  gi_wp2
  refine hK _ _ ((KeepsOthers.alloc _ _).from _) (KeepsWalks.alloc _ _) ⟨⟨v,bS1.alloc _,Xd.alloc _,MB⟩,hB1.alloc hB1.size _⟩ ⟨W.heap.size,bS1.lt,?_,rfl⟩;exact World.alloc_heap_new W _
 case body=>
  rintro l pre x a' W hl ⟨r,hr⟩ ⟨⟨v,bS1,Xd,_⟩,hB1⟩ ⟨Bx,hBx,bX,rfl⟩ hlt
  have cB:=bS1.cell;have hle:=hB1.size
  have cX:∀j u,(iI x)[j]? =some u->W.cell? ⟨Bx,j,none⟩=some u:=λj u hj=>by
   unfold World.cell?;simp only [bX];exact(List.getElem?_toArray (xs:=iI x)).trans hj
  have c0:=cX 0 _ rfl;have c1:=cX 1 _ rfl;have c2:=cX 2 _ rfl;have c3:=cX 3 _ rfl;have c4:=cX 4 _ rfl;clear cX;dsimp only [qW]
  gi_wp2_with (first
   | (gi_at_builtin;refine wpListIn_append_own _ rfl _ _ 66 rfl w.heap.size 94 i0 _ 5 48 Tryz.underlying66 hi hz0 Hh XB rfl (by decide) _ _ _ rfl (Xd.alloc _) ⟨W.heap.size,0,none⟩ 1 1 (iI x) rfl rfl (VX _ _ _) (Ln x) (by unfold maxLen;omega) (by omega) (by simp;omega) ?_;intro v' w1 aLJ aOU _;obtain⟨g',YM,rfl⟩:=ownsRow_succ aLJ;obtain⟨hv1,Sw,hr2,tZ,TC⟩:=bS1.appended (by decide) Xd hle (Nat.le_refl _) aLJ aOU;have hc1:=hv1.cell;have hf1:=hv1.frozen)
   | gi_in)
  refine⟨tZ.from _,?_,⟨⟨_,Sw,?_,by simp⟩,hB1.trans TC⟩⟩
  ·exact⟨tZ.size,λk o hk ho=>tZ.same k o hk (Obj.not_cells_of_walk ho)⟩
  ·simpa using hr2
 case done=>
  rintro D xs W hD hxs ⟨⟨v,bS1,Xd,MB⟩,hB1⟩ hK
  have cS:=bS1.cell
  gi_wp2
  refine⟨by simp,.inl ⟨_,_,rfl,run_takeDeferred hK,?_⟩⟩;exact⟨_,results_tmp rfl _ _ _,v,xs,rfl,hxs,ownsRow_putObj Xd _ hK rfl,MB,hB1.trans (belowK_b (w:=w) (Nat.le_refl _) W D _ _ (by omega) hK rfl rfl)⟩
 case stop=>
  rintro D c pre W _ _ h _
  exact h.elim
end Go.Proofs.Lg
namespace Go.Proofs
open Go.Shelf
def Tryz.cmpInt_ren:Go.Shelf.Ren:=⟨λ| 5=>138 | 7=>185 | n=>n,λ| 22=>3 | 3=>3 | 4=>4 | n=>n,λ| n=>n⟩
theorem Tryz.cmpInt:Go.Proofs.SlLaysC2.n5 Tryz.prog Tryz.cmpInt_ren:={
 mixed:=by kernel_rfl
 f5:=⟨Tryz.f138.name,by decide,Tryz.func138.trans (congrArg some (by kernel_rfl))⟩
 f7:=⟨Tryz.f185.name,by decide,Tryz.func185.trans (congrArg some (by kernel_rfl))⟩
 t3:=Tryz.underlying3
 a3:=Tryz.isAgg3
 z3:=Tryz.sizeOf3
 v3:=Tryz.zeroValue3
 t4:=Tryz.underlying4
 a4:=Tryz.isAgg4
 z4:=Tryz.sizeOf4
 v4:=Tryz.zeroValue4
 t22:=Tryz.underlying3
 a22:=Tryz.isAgg3
 z22:=Tryz.sizeOf3
 v22:=Tryz.zeroValue3}
def Tryz.sortV_ren:Go.Shelf.Ren:=⟨λ| 6=>183 | 15=>99 | 14=>221 | 28=>149 | 29=>150 | 20=>233 | 21=>234 | 22=>235 | 23=>236 | 24=>237 | 25=>238 | 26=>239 | 27=>240 | 46=>243 | 47=>188 | 48=>189 | 49=>244 | 50=>245 | 57=>246 | n=>n,λ| 22=>66 | 24=>94 | 25=>164 | 3=>3 | 39=>40 | 0=>0 | 53=>175 | 55=>29 | 4=>4 | 46=>167 | 45=>166 | 50=>172 | 5=>5 | 9=>9 | 66=>202 | 70=>206 | 76=>229 | 77=>230 | n=>n,λ| n=>n⟩
theorem Tryz.sortV:Go.Proofs.SlLaysF0.n6 Tryz.prog Tryz.sortV_ren:={
 mixed:=by kernel_rfl
 f6:=⟨Tryz.f183.name,by decide,Tryz.func183.trans (congrArg some (by kernel_rfl))⟩
 f14:=⟨Tryz.f221.name,by decide,Tryz.func221.trans (congrArg some (by kernel_rfl))⟩
 f15:=Tryz.func99.trans (congrArg some (by kernel_rfl))
 f20:=⟨Tryz.f233.name,by decide,Tryz.func233.trans (congrArg some (by kernel_rfl))⟩
 f21:=⟨Tryz.f234.name,by decide,Tryz.func234.trans (congrArg some (by kernel_rfl))⟩
 f22:=⟨Tryz.f235.name,by decide,Tryz.func235.trans (congrArg some (by kernel_rfl))⟩
 f23:=⟨Tryz.f236.name,by decide,Tryz.func236.trans (congrArg some (by kernel_rfl))⟩
 f24:=⟨Tryz.f237.name,by decide,Tryz.func237.trans (congrArg some (by kernel_rfl))⟩
 f25:=⟨Tryz.f238.name,by decide,Tryz.func238.trans (congrArg some (by kernel_rfl))⟩
 f26:=⟨Tryz.f239.name,by decide,Tryz.func239.trans (congrArg some (by kernel_rfl))⟩
 f27:=⟨Tryz.f240.name,by decide,Tryz.func240.trans (congrArg some (by kernel_rfl))⟩
 f28:=Tryz.func149.trans (congrArg some (by kernel_rfl))
 f29:=Tryz.func150.trans (congrArg some (by kernel_rfl))
 f46:=⟨Tryz.f243.name,by decide,Tryz.func243.trans (congrArg some (by kernel_rfl))⟩
 f47:=Tryz.func188.trans (congrArg some (by kernel_rfl))
 f48:=Tryz.func189.trans (congrArg some (by kernel_rfl))
 f49:=⟨Tryz.f244.name,by decide,Tryz.func244.trans (congrArg some (by kernel_rfl))⟩
 f50:=⟨Tryz.f245.name,by decide,Tryz.func245.trans (congrArg some (by kernel_rfl))⟩
 f57:=⟨Tryz.f246.name,by decide,Tryz.func246.trans (congrArg some (by kernel_rfl))⟩
 t0:=Tryz.underlying0
 a0:=Tryz.isAgg0
 z0:=Tryz.sizeOf0
 v0:=Tryz.zeroValue0
 t3:=Tryz.underlying3
 a3:=Tryz.isAgg3
 z3:=Tryz.sizeOf3
 v3:=Tryz.zeroValue3
 t4:=Tryz.underlying4
 a4:=Tryz.isAgg4
 z4:=Tryz.sizeOf4
 v4:=Tryz.zeroValue4
 t5:=Tryz.underlying5
 a5:=Tryz.isAgg5
 z5:=Tryz.sizeOf5
 v5:=Tryz.zeroValue5
 t9:=Tryz.underlying9
 a9:=Tryz.isAgg9
 z9:=Tryz.sizeOf9
 v9:=Tryz.zeroValue9
 t22:=Tryz.underlying66
 a22:=Tryz.isAgg66
 z22:=Tryz.sizeOf66
 v22:=Tryz.zeroValue66
 t25:=Tryz.underlying164
 a25:=Tryz.isAgg164
 z25:=Tryz.sizeOf164
 v25:=Tryz.zeroValue164
 t39:=Tryz.underlying40
 a39:=Tryz.isAgg40
 z39:=Tryz.sizeOf40
 v39:=Tryz.zeroValue40
 t45:=Tryz.underlying166
 a45:=Tryz.isAgg166
 z45:=Tryz.sizeOf166
 v45:=Tryz.zeroValue166
 t46:=Tryz.underlying167
 a46:=Tryz.isAgg167
 z46:=Tryz.sizeOf167
 v46:=Tryz.zeroValue167
 t50:=Tryz.underlying172
 a50:=Tryz.isAgg172
 z50:=Tryz.sizeOf172
 v50:=Tryz.zeroValue172
 t53:=Tryz.underlying175
 a53:=Tryz.isAgg175
 z53:=Tryz.sizeOf175
 v53:=Tryz.zeroValue175
 t55:=Tryz.underlying29
 a55:=Tryz.isAgg29
 z55:=Tryz.sizeOf29
 v55:=Tryz.zeroValue29
 t66:=Tryz.underlying202
 a66:=Tryz.isAgg202
 z66:=Tryz.sizeOf202
 v66:=Tryz.zeroValue202
 t70:=Tryz.underlying206
 a70:=Tryz.isAgg206
 z70:=Tryz.sizeOf206
 v70:=Tryz.zeroValue206
 t76:=Tryz.underlying229
 a76:=Tryz.isAgg229
 z76:=Tryz.sizeOf229
 v76:=Tryz.zeroValue229
 t77:=Tryz.underlying230
 a77:=Tryz.isAgg230
 z77:=Tryz.sizeOf230
 v77:=Tryz.zeroValue230}
end Go.Proofs
namespace Go.Proofs.Lg
open Go Go.RowKit Go.Rm Go.Proofs Go.Shelf Go.Lib
set_option maxHeartbeats 1000000 in
theorem cmpInt(a b:Int)(w:World):Calls Tryz.prog 138 #[.int .i64 a,.int .i64 b] w λe w'=>e= .returned (.int .i64 (Lib.compareInt a b))/\w=w':=by
 have ZF:=AnyG.cmp_Compare_int Tryz.cmpInt a b w;change Calls Tryz.prog 138 _ _ _ at ZF;exact ZF.mono λ_ _ ⟨h1,h2⟩=>⟨h1,h2.symm⟩
set_option maxHeartbeats 1000000 in
theorem aOV(a b:Int)(w:World):Calls Tryz.prog 139 #[.int .u8 a,.int .u8 b] w λe w'=>e= .returned (.int .i64 (Lib.compareInt a b))/\w=w':=by
 go_enter Tryz.func139,Tryz.ntmps139
 go_wp2
 all_goals
  go_ret
  refine⟨ZD ?_,rfl⟩;unfold Lib.compareInt
  (repeat' split)<;>first | rfl | omega
def or3(a b c:Int):Int:=if a≠0 then a else if b≠0 then b else c
set_option maxHeartbeats 1000000 in
theorem aOW(a b c:Int)(B:Nat)(w:World)(h0:w.cell? ⟨B,0,none⟩=some (.int .i64 a))(h1:w.cell? ⟨B,1,none⟩=some (.int .i64 b))(h2:w.cell? ⟨B,2,none⟩=some (.int .i64 c)):
 Calls Tryz.prog 137 #[.slice (some ⟨B,0,none⟩) 3 3] w λe w'=>e= .returned (.int .i64 (or3 a b c))/\w=w':=by
 by_cases ha:a=0
 ·by_cases hb:b=0
  ·by_cases hc:c=0
   ·subst ha;subst hb;subst hc
    go_enter Tryz.func137,Tryz.ntmps137
    go_wp2
    refine wp_loop_rounds 4 ?_;rw [rounds_succ]
    go_wp2
    rw [rounds_succ]
    go_wp2
    rw [rounds_succ]
    go_wp2
    rw [rounds_succ]
    go_wp2
    go_ret
    exact⟨rfl,rfl⟩
   ·subst ha;subst hb
    have hc':(c != 0)=true:=by simp [hc]
    have H:=Hx hc;clear hc
    go_enter Tryz.func137,Tryz.ntmps137
    go_wp2
    refine wp_loop_rounds 3 ?_;rw [rounds_succ]
    go_wp2
    rw [rounds_succ]
    go_wp2
    rw [rounds_succ]
    go_wp2
    go_ret
    exact⟨ZD (by simp [or3]),rfl⟩
  ·subst ha
   have TU:(b != 0)=true:=by simp [hb]
   have H:=Hx hb;clear hb
   go_enter Tryz.func137,Tryz.ntmps137
   go_wp2
   refine wp_loop_rounds 2 ?_;rw [rounds_succ]
   go_wp2
   rw [rounds_succ]
   go_wp2
   go_ret
   exact⟨ZD (by simp [or3,H.out]),rfl⟩
 ·have ha':(a != 0)=true:=by simp [ha]
  have H:=Hx ha;clear ha
  go_enter Tryz.func137,Tryz.ntmps137
  go_wp2
  refine wp_loop_rounds 1 ?_;rw [rounds_succ]
  go_wp2
  go_ret
  exact⟨ZD (by simp [or3,H.out]),rfl⟩
end Go.Proofs.Lg
namespace Go.Proofs.Lg
open Go Go.RowKit Go.Rm Go.Proofs Go.Shelf Go.Lib Go.Sort
theorem QU{P:Program}{f:FuncId}{args:Array Value}{w:World}{v:Value}(h:Calls P f args w λe w'=>e= .returned v/\w=w'):Calls P f args w (λe w''=>e= .returned v/\w''=w):=h.mono λ_ _ ⟨a,b⟩=>⟨a,b.symm⟩
def cf(x y:Vt):Int:=or3 (Lib.compareInt x.rd y.rd) (Lib.compareInt x.fr y.fr) (Lib.compareInt x.kd y.kd)
set_option maxRecDepth 100000 in
set_option maxHeartbeats 1000000 in
theorem aFy(x y:Vt)(W:World):Calls Tryz.prog 136 #[qW x,qW y] W λe w'=>e= .returned (.int .i64 (cf x y))/\∃q os',w'=grow (W.drewN q) os':=by
 unfold qW cf;have hc1:=λW=>QU (cmpInt x.rd y.rd W);have Ht:=λW=>QU (cmpInt x.fr y.fr W);have hc3:=λW=>QU (aOV x.kd y.kd W);generalize Lib.compareInt x.rd y.rd=r1 at hc1 ⊢;generalize Lib.compareInt x.fr y.fr=r2 at Ht ⊢;generalize Lib.compareInt x.kd y.kd=r3 at hc3 ⊢
 go_enter Tryz.func136,Tryz.ntmps136
 go_wp2
 have cx:=VX W x 94;have cy:=VX (W.alloc (.cells #[.int .i64 x.fr,.int .i64 x.rd,.int .u8 x.kd,.int .i64 x.va,.string x.tx] 94)) y 94;have hW2:∃W2,((W.alloc (.cells #[.int .i64 x.fr,.int .i64 x.rd,.int .u8 x.kd,.int .i64 x.va,.string x.tx] 94)).alloc (.cells #[.int .i64 y.fr,.int .i64 y.rd,.int .u8 y.kd,.int .i64 y.va,.string y.tx] 94))=W2:=⟨_,rfl⟩;obtain⟨W2,hW2⟩:=hW2;have x0:W2.cell? ⟨W.heap.size,0,none⟩=some (.int .i64 x.fr):=by rw [<-hW2];exact xK _ (cx 0 _ rfl)
 have x1:W2.cell? ⟨W.heap.size,1,none⟩=some (.int .i64 x.rd):=by rw [<-hW2];exact xK _ (cx 1 _ rfl)
 have x2:W2.cell? ⟨W.heap.size,2,none⟩=some (.int .u8 x.kd):=by rw [<-hW2];exact xK _ (cx 2 _ rfl)
 have y0:W2.cell? ⟨W.heap.size+1,0,none⟩=some (.int .i64 y.fr):=by rw [<-hW2];simp
 have y1:W2.cell? ⟨W.heap.size+1,1,none⟩=some (.int .i64 y.rd):=by rw [<-hW2];simp
 have y2:W2.cell? ⟨W.heap.size+1,2,none⟩=some (.int .u8 y.kd):=by rw [<-hW2];simp
 rw [hW2];have HW2:=Hx hW2;have hsz:W2.heap.size=W.heap.size+2:=by rw [<-hW2];simp
 clear cx cy hW2;refine wp_region_still_tail 15 (by kernel_rfl) (by kernel_rfl) ?_;change wpStill _ _ W2.drew _ _ _;have x0':W2.drew.cell? ⟨W.heap.size,0,none⟩=some (.int .i64 x.fr):=x0;have x1':W2.drew.cell? ⟨W.heap.size,1,none⟩=some (.int .i64 x.rd):=x1;have x2':W2.drew.cell? ⟨W.heap.size,2,none⟩=some (.int .u8 x.kd):=x2;have y0':W2.drew.cell? ⟨W.heap.size+1,0,none⟩=some (.int .i64 y.fr):=y0;have y1':W2.drew.cell? ⟨W.heap.size+1,1,none⟩=some (.int .i64 y.rd):=y1;have y2':W2.drew.cell? ⟨W.heap.size+1,2,none⟩=some (.int .u8 y.kd):=y2;have Zl:W2.drew.heap.size=W.heap.size+2:=hsz;clear x0 x1 x2 y0 y1 y2 hsz;obtain⟨W3,hW3⟩:∃W3,W2.drew=W3:=⟨_,rfl⟩;rw [hW3]at x0' x1' x2' y0' y1' y2' Zl ⊢;have HW3:=Hx hW3;clear hW3;have HS:=Hx Zl;clear Zl;simp only [List.take_succ_cons,List.take_zero,List.drop_succ_cons,List.drop_zero]
 repeat still_step
 still_call (hc1 W3)
 repeat still_step
 still_call (Ht W3)
 repeat still_step
 still_call (hc3 W3)
 repeat still_step
 try refine wpStill_nil ?_
 have hOr:=aOW r1 r2 r3 W2.heap.size (W2.alloc (.cells #[.int .i64 r1,.int .i64 r2,.int .i64 r3] 3)).drew (World.cell?_alloc_new ..) (World.cell?_alloc_new ..) (World.cell?_alloc_new ..)
 go_wp2_with (first | (go_at_call 137;refine hOr.mono ?_;clear hOr;rintro e w' ⟨rfl,rfl⟩) | go_in)
 go_ret
 exact⟨rfl,1,_,by rw [<-HW2.out,alloc_eq_grow,alloc_eq_grow,alloc_eq_grow,drew_grow,drew_grow,drew_grow,grow_grow,grow_grow];rfl⟩
def ltV(x y:Vt):Bool:=decide (x.rd<y.rd\/(x.rd=y.rd/\(x.fr<y.fr\/(x.fr=y.fr/\x.kd<y.kd))))
theorem aD8(x y:Vt):ltOf cf x y=ltV x y:=by
 unfold ltOf cf or3 ltV Lib.compareInt;by_cases h1:x.rd<y.rd
 ·simp [h1]
 ·by_cases h2:y.rd<x.rd
  ·have h3:¬x.rd=y.rd:=by omega
   simp [h1,h2,h3]
  ·have h3:x.rd=y.rd:=by omega
   by_cases h4:x.fr<y.fr
   ·simp [h3,h4]
   ·by_cases h5:y.fr<x.fr
    ·have h6:¬x.fr=y.fr:=by omega
     simp [h3,h4,h5,h6]
    ·have h6:x.fr=y.fr:=by omega
     by_cases h7:x.kd<y.kd
     ·simp [h3,h6,h7]
     ·by_cases h8:y.kd<x.kd<;>simp [h3,h6,h7,h8]
theorem Hv(x y:Vt):ltV x y=true↔(x.rd<y.rd\/(x.rd=y.rd/\(x.fr<y.fr\/(x.fr=y.fr/\x.kd<y.kd)))):=by unfold ltV;simp
theorem aD9(x y:Vt):ltV x y=false↔(y.rd<x.rd\/(x.rd=y.rd/\(y.fr<x.fr\/(x.fr=y.fr/\y.kd<=x.kd)))):=by
 unfold ltV;simp only [decide_eq_false_iff_not];omega
theorem aQR:SWO (ltOf cf)where
 irrefl x:=by rw [aD8,aD9];omega
 trans x y z h1 h2:=by rw [aD8,Hv]at*;omega
 ntrans x y z h1 h2:=by rw [aD8,aD9]at*;omega
theorem aAs:∀(l:List Vt) (t:Nat),t<l.length*5->(l.flatMap iI)[t]? =some ((iI (l.toArray[t / 5]!))[t%5]!):=by
 intro l;induction l with
 | nil=>intro t h;simp at h
 | cons v l ih=>
  intro t h;rw [List.flatMap_cons];have hl:(iI v).length=5:=rfl;by_cases ht:t<5
  ·rw [List.getElem?_append_left (by omega)]
   have h1:t / 5=0:=by omega
   have h2:t%5=t:=by omega
   rw [h1,h2];have:((v::l).toArray)[0]! =v:=by simp
   rw [this];rw [List.getElem?_eq_getElem (by omega),getElem!_pos _ _ (by omega)]
  ·rw [List.getElem?_append_right (by omega),hl,ih (t-5) (by simp at h;omega)]
   have h1:t / 5=(t-5) / 5+1:=by omega
   have h2:t%5=(t-5)%5:=by omega
   rw [h1,h2];have:((v::l).toArray)[(t-5) / 5+1]! =l.toArray[(t-5) / 5]! :=by simp
   rw [this]
theorem PV(l:List Vt):(l.flatMap iI).length=l.length*5:=by
 induction l with
 | nil=>rfl
 | cons v l ih=>rw [List.flatMap_cons,List.length_append,ih,List.length_cons];simp [iI];omega
theorem aHQ{ys:List Vt}(hso:ys.Pairwise λx y=>ltV x y=true){a b:Vt}(ha:a∈ys)(hb:b∈ys):a=b\/ltV a b=true\/ltV b a=true:=by
 obtain⟨i,hi,rfl⟩:=List.getElem_of_mem ha;obtain⟨j,hj,rfl⟩:=List.getElem_of_mem hb;rw [List.pairwise_iff_getElem]at hso;rcases Nat.lt_trichotomy i j with h | h | h
 ·exact .inr (.inl (hso i j hi hj h))
 ·subst h;exact .inl rfl
 ·exact .inr (.inr (hso j i hj hi h))
set_option maxHeartbeats 1000000 in
theorem aHR(Gu cap:Nat)(xs ys:List Vt)(W:World)(base:Nat)(aFs:W.ownsRow base 94 5 (.slice (some ⟨Gu,0,none⟩) xs.length cap) xs.length (xs.flatMap iI))(hsz:xs.length<4611686018427387904)
 (hys:ys.Perm xs) (hso:ys.Pairwise λx y=>ltV x y=true):
 Calls Tryz.prog 183 #[.slice (some ⟨Gu,0,none⟩) xs.length cap,.func (.func 136) #[] #[]] W λe W'=>e= .returned (.tuple #[])/\W'.ownsRow base 94 5 (.slice (some ⟨Gu,0,none⟩) xs.length cap) ys.length (ys.flatMap iI)/\Below base W W':=by
 obtain⟨_,h | ⟨gg,cp,cur,he,uY,VT,hnc,hcm,xV,htk⟩⟩:=aFs
 ·cases h.1
 ·injection he with Tj he2 he3
  injection Tj with Tj;injection Tj with Tj;subst Tj he3
  have hH:HoldsK iI 5 W Gu 0 xs.toArray:=by
   intro j hj;rw [size_flatK]at hj;rw [get_flatK _ _ _ _ hj];simp at hj;have hg:=aAs xs j hj;rw [<-htk,List.getElem?_take,if_pos hj]at hg;have hg':cur[j]? =some ((iI (xs.toArray[j / 5]!))[j%5]!):=by simpa using hg
   constructor
   ·unfold World.cell?;simp only [VT];simpa using hg'
   ·unfold World.frozen?;simp only [VT];simp
  have eg:∀args w,(callFunc 136 args).run Tryz.prog w= .ok (.enter 136 args) w:=enters_of Tryz.func136 (by kernel_rfl) rfl;have ZF:=AnyQ.slices_SortFunc Tryz.sortV 5 Tryz.isAgg94 Tryz.sizeOf94 iI (λ_=>rfl) (λv=>Ln v) cf aQR 136 #[] Gu 0 cap xs.toArray W eg (λ_ _ _ _ x y=>aFy x y _) hH (Array.getElem?_eq_some_iff.1 VT).1 (by simpa using hsz);change Calls Tryz.prog 183 _ _ _ at ZF;refine Calls.mono ZF ?_
  rintro e w' ⟨rfl,d',n,os,hp,hs,rfl⟩
  obtain⟨hds,_,Qf⟩:=hp;have e1:d'.extract 0 xs.toArray.size=d':=by rw [<-hds];exact Array.extract_size
  rw [e1,Array.extract_size]at Qf
  have hd:d'.toList=ys:=by
   refine List.Perm.eq_of_pairwise (le:=λx y=>ltV y x=false) ?_ ?_ ?_ (Qf.trans hys.symm)
   ·intro a b ha hb h1 h2
    rcases aHQ hso (hys.symm.subset (by simpa using Qf.subset ha)) hb with h | h | h
    ·exact h
    ·rw [h]at h2;cases h2
    ·rw [h]at h1;cases h1
   ·rw [List.pairwise_iff_getElem]
    intro i j hi hj XS;have TB:i<d'.size:=by simpa using hi
    have Ny:j<d'.size:=by simpa using hj
    have:=hs i j (Nat.zero_le _) XS (by omega);rw [getElem!_pos d' j Ny,getElem!_pos d' i TB,aD8]at this;simpa using this
   ·refine hso.imp λ{a b} h=>?_
    cases hba:ltV b a with
    | false=>rfl
    | true=>rw [Hv]at h hba;omega
  have hlen:ys.length=xs.length:=hys.length_eq;have hbl:=(Array.getElem?_eq_some_iff.1 VT).1
  have pX:(putRowK iI 5 (Go.Sort.ahead W n) Gu 0 d').heap[Gu]? =some (.cells (putCells id 0 (flatK iI 5 d') cur) 94 (0,0)):=by
   show((Go.Sort.ahead W n).heap.modify Gu _)[Gu]? =_;rw [Array.getElem?_modify,if_pos rfl];show Option.map _ W.heap[Gu]? =_;rw [VT];rfl
  have hgr:∀k,k<W.heap.size->(sortWorldK iI 5 W Gu 0 n d' os).heap[k]? =(putRowK iI 5 (Go.Sort.ahead W n) Gu 0 d').heap[k]? :=by
   intro k hk;show((putRowK iI 5 (Go.Sort.ahead W n) Gu 0 d').heap++os)[k]? =_;rw [Array.getElem?_append_left];show k<(W.heap.modify Gu _).size;rw [Array.size_modify];exact hk
  have aQS:∀k,k≠Gu->(putRowK iI 5 (Go.Sort.ahead W n) Gu 0 d').heap[k]? =W.heap[k]? :=by
   intro k hk;show(W.heap.modify Gu _)[k]? =_;rw [Array.getElem?_modify,if_neg (Ne.symm hk)]
  refine⟨rfl,⟨PV _,.inr ⟨Gu,cap,_,by rw [hlen],uY,(hgr Gu hbl).trans pX,by omega,hcm,by simp [putCells,xV],?_⟩⟩,rfl,rfl,rfl,?_,λk hk=>(hgr k (by omega)).trans (aQS k (by omega))⟩
  ·have hfs:(flatK iI 5 d').size=ys.length*5:=by rw [size_flatK,<-hd];simp
   apply List.ext_getElem?;intro t;rw [List.getElem?_take];by_cases ht:t<ys.length*5
   ·rw [if_pos ht]
    have hg:=aAs ys t ht;rw [hg];have htc:t<cur.size:=by rw [xV];have:xs.length*5<=cap*5:=Nat.mul_le_mul_right _ hnc;omega
    have:(putCells id 0 (flatK iI 5 d') cur)[t]? =some ((flatK iI 5 d')[t]!):=by
     unfold putCells;rw [Array.getElem?_mapIdx,Array.getElem?_eq_getElem htc];simp [hfs,ht]
    rw [Array.getElem?_toList,this,get_flatK _ _ _ _ (by rw [<-hfs,size_flatK]at ht;exact ht)];have:d'=ys.toArray:=by rw [<-hd]
    rw [this]
   ·rw [if_neg ht,List.getElem?_eq_none (by rw [PV];omega)]
  ·show W.heap.size<=((W.heap.modify Gu _)++os).size
   rw [Array.size_append,Array.size_modify];omega
theorem Un{W:World}{base XV:Nat}{e:TypeId}{size:Nat}{v:Value}{n:Nat}{xs:List Value}(h:W.ownsRow base e size v n xs)(hb:XV<=base):W.ownsRow XV e size v n xs:=by
 obtain⟨h1,h | ⟨g,cap,cur,h2,h3,h5⟩⟩:=h
 ·exact⟨h1,.inl h⟩
 ·exact⟨h1,.inr ⟨g,cap,cur,h2,Nat.le_trans hb h3,h5⟩⟩
set_option maxHeartbeats 1000000 in
theorem aAt(Bm bm:Nat)(es:Array MapEntry)(clock:Nat)(w:World)(hsz:es.size<=1000000)
 (hm:w.cell? ⟨Bm,0,none⟩=some (.map (some bm))) (hb:w.heap[bm]? =some (.map es clock)) (hs:HG es clock) (hv:∀e∈es.toList,e.val=qW (dv e)):
 Calls Tryz.prog 182 #[.func (.func 184) #[] #[.pointer (some ⟨Bm,0,none⟩)]] w λe W'=>∃(v:Value) (xs:List Vt),e= .returned v/\xs.Perm (es.toList.map dv)/\W'.ownsRow w.heap.size 94 5 v xs.length (xs.flatMap iI)/\(v= .slice none 0 0↔xs=[])/\Below w.heap.size w W':=by
 have ZF:=(callsIn_wide (n:=3)).1 (Um _ 3 trivial trivial rfl (by omega) Bm bm es clock w hsz hm hb hs hv)
 go_enter Tryz.func182,Tryz.ntmps182
 go_wp2_with (first | (go_at_call 220;refine ZF.mono ?_;clear ZF;rintro e w' ⟨v,xs,rfl,h1,h2,MB,h3⟩) | go_in)
 go_ret
 exact⟨v,xs,rfl,h1,h2,MB,h3⟩
set_option maxHeartbeats 1000000 in
theorem aCD(Bm bm:Nat)(es:Array MapEntry)(clock:Nat)(w:World)(hsz:es.size<=1000000)
 (hm:w.cell? ⟨Bm,0,none⟩=some (.map (some bm))) (hb:w.heap[bm]? =some (.map es clock)) (hs:HG es clock) (hv:∀e∈es.toList,e.val=qW (dv e))
 (ys:List Vt) (hys:ys.Perm (es.toList.map dv)) (hso:ys.Pairwise λx y=>ltV x y=true):
 Calls Tryz.prog 134 #[.func (.func 184) #[] #[.pointer (some ⟨Bm,0,none⟩)],.func (.func 136) #[] #[]] w λe W'=>∃v:Value,e= .returned v/\W'.ownsRow w.heap.size 94 5 v ys.length (ys.flatMap iI)/\(v= .slice none 0 0↔ys=[])/\Below w.heap.size w W':=by
 have ZF:=aAt Bm bm es clock w hsz hm hb hs hv;have hlen:ys.length=es.size:=by rw [hys.length_eq];simp
 go_enter Tryz.func134,Tryz.ntmps134
 go_wp2_with (first | (go_at_call 182;refine ZF.mono ?_;clear ZF;rintro e w' ⟨v,xs,rfl,h1,h2,MB,h3⟩) | fail)
 have hyx:ys.Perm xs:=hys.trans h1.symm;have hxl:=hyx.length_eq;rcases h2.2 with ⟨rfl,h0⟩ | ⟨g,cap,cur,rfl,_⟩
 ·have hns:=AnyF.slices_SortFunc_none Tryz.sortV none 0 (.func (.func 136) #[] #[]) w'
  change Calls Tryz.prog 183 _ _ _ at hns;have VM:ys=[]:=List.eq_nil_of_length_eq_zero (by omega)
  go_wp2_with (first | (go_at_call 183;refine hns.mono ?_;clear hns;rintro e w1 ⟨rfl,rfl⟩) | go_in)
  go_ret
  exact⟨_,rfl,by rw [VM];exact World.ownsRow_nil _ _ _ _,by simp [VM],h3⟩
 ·have hns:=aHR g cap xs ys w' w.heap.size h2 (by omega) hyx hso
  have HX:=Hx hxl;clear hxl hlen
  go_wp2_with (first | (go_at_call 183;refine hns.mono ?_;clear hns;rintro e w1 ⟨rfl,h4,h5⟩) | go_in)
  go_ret
  exact⟨_,rfl,h4,⟨λh=>(nomatch h),λh=>(by rw [h]at hyx;have:=MB.2 hyx.symm.eq_nil;cases this)⟩,h3.trans h5⟩
set_option maxHeartbeats 1000000 in
theorem aFr{bt ot n:Nat}{es:Array MapEntry}{w:World}(h:At w bt ot n es)(ys:List Vt)(hys:ys.Perm (es.toList.map dv))(hso:ys.Pairwise λx y=>ltV x y=true):
 Calls Tryz.prog 97 #[.pointer (some ⟨bt,ot,none⟩)] w λe W'=>∃v:Value,e= .returned v/\W'.ownsRow w.heap.size 94 5 v ys.length (ys.flatMap iI)/\(v= .slice none 0 0↔ys=[])/\Below w.heap.size w W':=by
 obtain⟨h1,⟨bm,clock,h2,h3,h4⟩,h5,h6,h7⟩:=h;have ZF:=aCD w.heap.size bm es clock (w.alloc (.cells #[.map (some bm)] 156)) h6 (World.cell?_alloc_new ..) ((Below.heap_alloc _ _ _ (Array.getElem?_eq_some_iff.1 h3).1).trans h3) h4 (λe he=>(h7 e he).1) ys hys hso
 go_enter Tryz.func97,Tryz.ntmps97
 go_wp2_with (first | (go_at_call 134;refine ZF.mono ?_;clear ZF;rintro e w' ⟨v,rfl,q1,qn,q2⟩) | go_in)
 go_ret
 exact⟨_,rfl,Un q1 (by simp),qn,((Below.refl _ _).alloc (Nat.le_refl _) _).trans (q2.mono (by simp))⟩
end Go.Proofs.Lg
namespace Go.Am
open Go.RowKit Go.MapKept Go.Proofs Go.Proofs.Lg Go.Rm
def LL(v:Value)(z:Bool)(k:Nat->Int->Int->List UInt8->Bool):Bool:=
 match v with
 | .agg ⟨[.int .i64 (.ofNat f),.int .i64 r,.int .u8 q,.int .i64 _,.string s]⟩=>k f r q s.data.toList
 | _=>z
def aON(n c:Nat)(es:List MapEntry):Bool:=
 fS (β:=Nat->Bool) (λ_=>true) (λe _ ih lo=>match Nat.ble lo e.born,Nat.blt e.born c,LL e.val false (λf _ _ _=>Nat.ble f n)with
  | true,true,true=>ih (Nat.succ e.born)
  | _,_,_=>false) es 0
def QR(S:St)(v:Value)(k:Nat->List MapEntry->Bool):Bool:=
 match v with
 | .pointer (some ⟨i,o,none⟩)=>EQ S i o 2 λl=>match l with
  | [.int .i64 (.ofNat n),.map (some m)]=>oV S.h m λob=>match ob with
   | .map es c=>CU es λq=>match Nat.ble n 1000000,Nat.ble q 1000000,aON n c es with
    | true,true,true=>k n es
    | _,_,_=>false
   | _=>false
  | _=>false
 | _=>false
theorem aHz{v:Value}{n:Nat}(h:LL v false (λf _ _ _=>Nat.ble f n)=true):v=qW (dec v)/\jV v=true/\∃f:Nat,(dec v).fr=(f:Int)/\f<=n:=by
 unfold LL at h;split at h
 ·rename_i f r q va s
  exact⟨rfl,rfl,f,rfl,by simpa using h⟩
 ·cases h
theorem aKj:∀{es:List MapEntry} {n c lo:Nat},(fS (β:=Nat->Bool) (λ_=>true) (λe _ ih lo=>match Nat.ble lo e.born,Nat.blt e.born c,LL e.val false (λf _ _ _=>Nat.ble f n)with
 | true,true,true=>ih (Nat.succ e.born)
 | _,_,_=>false) es lo)=true->(∀e∈es,lo<=e.born/\e.born<c/\e.val=qW (dv e)/\jV e.val=true/\∃f:Nat,(dv e).fr=(f:Int)/\f<=n)/\(es.map (·.born)).Nodup:=by
 intro es;induction es with
 | nil=>intro n c lo _;simp
 | cons e es ih=>
  intro n c lo h;rw [aS]at h;split at h
  ·rename_i h1 h2 h3
   obtain⟨g1,g2⟩:=ih h;obtain⟨k1,k0,k2⟩:=aHz h3;have h1':lo<=e.born:=by simpa using h1
   have h2':e.born<c:=by
    have:=h2;simp only [Nat.blt_eq]at this;exact this
   refine⟨λx hx=>?_,?_⟩
   ·rcases dA.1 hx with rfl | hx
    ·exact⟨h1',h2',k1,k0,k2⟩
    ·obtain⟨q1,q2⟩:=g1 x hx
     exact⟨by omega,q2⟩
   ·simp only [xU,UV]
    refine⟨λhm=>?_,g2⟩;obtain⟨x,hx,hb⟩:=mF.1 hm;have:=(g1 x hx).1;omega
  ·cases h
section
variable{w0:World}{U:Rn}{S:St}{w:World}
theorem aKk{l l':List MapEntry}(h:gA U l l')(hf:∀e∈l,jV e.val=true):l'=l:=by
 apply uO;intro k;cases hk:l[k]? with
 | none=>
  rw [List.getElem?_eq_none_iff]at*;rw [<-h.1];exact hk
 | some e=>
  have hlt:k<l'.length:=by rw [<-h.1];exact(dS.1 hk).1
  rw [aP hlt];obtain⟨h1,_,h3,h4⟩:=h.2 k e l'[k] hk (aP hlt);have h5:=h4.Xv (hf e (wI hk))
  congr 1
  cases hx:l'[k];rw [hx]at h1 h3 h5;cases e;simp at*;exact⟨h1,h5,h3⟩
theorem IZ{v v':Value}{k:Nat->List MapEntry->Bool}(hk:QR S v k=true)(h:Rel Tryz.prog w0 U S w)(hv:VR U v v'):
 ∃bt ot n es,v'= .pointer (some ⟨bt,ot,none⟩)/\k n es=true/\At w bt ot n ⟨es⟩:=by
 unfold QR at hk;split at hk
 ·rename_i i o
  obtain⟨vs,e,c,ho,hle,hk⟩:=sL hk;split at hk
  ·rename_i n m hl
   obtain⟨ob,hob,hk⟩:=aFl hk;split at hk
   ·rename_i es clk
    rw [kM]at hk;split at hk
    ·rename_i c1 c2 c3
     obtain⟨g1,g2⟩:=aKj c3;cases hv with
     | flat h=>simp [bE]at h
     | ptr hL=>
      rename_i L
      have e0:vs[o]? =some (.int .i64 (.ofNat n)):=by
       have:=lT (·[0]?) hl;simpa [kR,kS]using this
      have e1:vs[o+1]? =some (.map (some m)):=by
       have:=lT (·[1]?) hl;simpa [kR,kS]using this
      obtain⟨u0,hu0,hr0⟩:=h.Kq ho hL e0;obtain⟨u1,hu1,Xd⟩:=h.Kq ho hL e1;obtain rfl:=hr0.of_flat rfl;cases Xd with
      | flat h=>simp [bE]at h
      | map hM=>
       rename_i M;obtain⟨M',iW,El,_,hb,SF⟩:=h.map' hob;rw [hM]at El;injection El with El;subst El;have aQu:iW.toList=es:=aKk SF λe he=>(g1 e he).2.2.2.1;refine⟨_,_,n,es,rfl,hk,⟨hu0,⟨M.b,clk,hu1,?_,⟨λx hx=>(g1 x hx).2.1,g2⟩⟩,by simpa using c1,by simpa using c2,λe he=>⟨(g1 e he).2.2.1,(g1 e he).2.2.2.2⟩⟩⟩;rw [hb,<-aQu]
    ·cases hk
   ·cases hk
  ·cases hk
 ·cases hk
end
def hasB(pe:MapEntry->Nat->Bool)(es:List MapEntry)(i:Nat):Bool:=fS (β:=Bool) false (λe _ ih=>dL (pe e i) true ih) es
def aCs(pe:MapEntry->Nat->Bool)(es:List MapEntry)(n:Nat)(K:Nat->Bool):Bool:=
 ML (β:=Nat->Bool) K (λi ih acc=>dL (hasB pe es i) (cG (Nat.succ acc) ih) (ih acc)) (Nat.succ n) 0
theorem aKl{pe:MapEntry->Nat->Bool}{p:Vt->Bool}{i:Nat}:∀{es:List MapEntry},(∀e∈es,pe e i=(p (dv e)&&(dv e).fr==(i:Int)))->hasB pe es i=(zD p (es.map dv) i != 0):=by
 intro es;induction es with
 | nil=>intro _;rfl
 | cons e es ih=>
  intro h;have ih:=ih λx hx=>h x (aBH _ hx);unfold hasB at ih ⊢;rw [aS,h e List.mem_cons_self,ih];unfold zD;rw [xU,JZ];cases hb:(p (dv e)&&(dv e).fr==(i:Int))<;>simp [dL]
theorem aD0{pe:MapEntry->Nat->Bool}{es:List MapEntry}{K:Nat->Bool}:∀(m acc:Nat),ML (β:=Nat->Bool) K (λi ih acc=>dL (hasB pe es i) (cG (Nat.succ acc) ih) (ih acc)) m acc=K (acc+((List.range m).filter λi=>hasB pe es i).length):=by
 intro m;induction m with
 | zero=>intro acc;simp [By]
 | succ m ih=>
  intro acc;rw [Pm,List.range_succ,UQ,bH];cases hb:hasB pe es m
  ·show ML K _ m acc=_
   rw [ih];simp [hb]
  ·show cG (Nat.succ acc) (ML K _ m)=_
   rw [bA,ih];simp [hb];congr 1;omega
theorem Ui{pe:MapEntry->Nat->Bool}{p:Vt->Bool}{es:List MapEntry}{n:Nat}{K:Nat->Bool}(h:∀i,∀e∈es,pe e i=(p (dv e)&&(dv e).fr==(i:Int))):aCs pe es n K=K (mem p n (es.map dv)):=by
 unfold aCs mem;rw [aD0]
 congr 1
 simp only [gB]
 congr 2
 funext i
 rw [aKl (h i)]
def Uj(a b:Bool):Bool:=dL a b false
theorem uB(a b:Bool):Uj a b=(a&&b):=by cases a<;>rfl
def YY(a b:MapEntry):Bool:=
 LL a.val false λf r q _=>LL b.val false λf' r' q' _=>dL (Ns r r') true (Uj (Hg r r') (dL (Nat.blt f f') true (Uj (Nat.beq f f') (Ns q q'))))
def aFm(e:MapEntry)(l:List MapEntry)(k:List MapEntry->Bool):Bool:=
 fS (β:=(List MapEntry->Bool)->Bool) (λk=>k [e]) (λx t ih k=>dL (YY e x) (k (e::x::t)) (ih λt'=>k (x::t'))) l k
def aAi(es:List MapEntry)(k:List MapEntry->Bool):Bool:=
 fS (β:=(List MapEntry->Bool)->Bool) (λk=>k []) (λe _ ih k=>ih λs=>aFm e s k) es k
def chainB(l:List MapEntry):Bool:=
 fS (β:=Bool) true (λe t ih=>match t with | []=>true | x::_=>dL (YY e x) ih false) l
def Cn(l:List MapEntry)(k:List Value->Bool):Bool:=
 fS (β:=(List Value->Bool)->Bool) (λk=>k []) (λe _ ih k=>match e.val with | .agg ⟨vs⟩=>ih λt=>zN vs t k | _=>false) l k
theorem aFn{e:MapEntry}:∀{l:List MapEntry} {k:List MapEntry->Bool},aFm e l k=true->∃s,s.Perm (e::l)/\k s=true:=by
 intro l;induction l with
 | nil=>intro k h;exact⟨[e],.refl _,h⟩
 | cons x t ih=>
  intro k h;unfold aFm at h ih;rw [aS]at h;cases hb:YY e x
  ·rw [hb]at h
   obtain⟨s,hs,hk⟩:=ih h;exact⟨x::s,(hs.cons x).trans (List.Perm.swap e x t),hk⟩
  ·rw [hb]at h
   exact⟨_,.refl _,h⟩
theorem aCt:∀{es:List MapEntry} {k:List MapEntry->Bool},aAi es k=true->∃s,s.Perm es/\k s=true:=by
 intro es;induction es with
 | nil=>intro k h;exact⟨[],.refl _,h⟩
 | cons e es ih=>
  intro k h;unfold aAi at h ih;rw [aS]at h;obtain⟨s,hs,h⟩:=ih h;obtain⟨s',hs',h⟩:=aFn h;exact⟨s',hs'.trans (hs.cons e),h⟩
theorem aHA{a b:MapEntry}(h:YY a b=true):ltV (dv a) (dv b)=true:=by
 unfold YY LL at h;split at h
 ·rename_i f r q va s ha
  split at h
  ·rename_i f' r' q' va' s' hb
   rw [Hv];unfold dv;rw [ha,hb];simp only [dec];dsimp only at h;cases h1:Ns r r'
   ·rw [h1]at h
    simp only [dL,uB,uV,bW,beq_iff_eq]at h;obtain⟨h2,h3⟩:=h;refine .inr ⟨h2,?_⟩;cases h4:Nat.blt f f'
    ·rw [h4]at h3
     simp only [bW,Bl,GR,decide_eq_true_eq]at h3;exact .inr ⟨by rw [h3.1],h3.2⟩
    ·simp only [Nat.blt_eq]at h4
     exact .inl (by simpa using h4)
   ·rw [GR,decide_eq_true_eq]at h1
    exact .inl h1
  ·cases h
 ·cases h
theorem aFo:∀{l:List MapEntry},chainB l=true->(l.map dv).Pairwise λx y=>ltV x y=true:=by
 intro l;induction l with
 | nil=>intro _;exact .nil
 | cons e t ih=>
  intro h;unfold chainB at h ih;rw [aS]at h;cases t with
  | nil=>simp
  | cons x t=>
   simp only at h;cases hb:YY e x
   ·rw [hb]at h;cases h
   ·rw [hb]at h
    have hp:=ih h;rw [xU,tN];refine⟨λy hy=>?_,hp⟩;have hx:=aHA hb;rw [xU]at hy;rcases dA.1 hy with rfl | hy
    ·exact hx
    ·have:=(tN.1 hp).1 y hy
     rw [Hv]at hx this ⊢;omega
theorem aAj:∀{l:List MapEntry} {k:List Value->Bool},Cn l k=true->(∀e∈l,e.val=qW (dv e))->k ((l.map dv).flatMap iI)=true:=by
 intro l;induction l with
 | nil=>intro k h _;exact h
 | cons e t ih=>
  intro k h he;unfold Cn at h ih;rw [aS]at h;split at h
  ·rename_i vs hv
   have:=ih h λx hx=>he x (aBH _ hx);rw [lE]at this
   have GU:vs=iI (dv e):=by
    have:=he e List.mem_cons_self;rw [hv]at this;injection this with this;injection this
   rw [xU,Bf,<-GU];exact this
  ·cases h
def Co(args:List Value)(S:St)(K:VK):Bool:=
 match args with
 | [t,.int .i64 rd]=>QR S t λn es=>aCs (λe i=>LL e.val false λf r _ _=>Uj (Hg r rd) (Nat.beq f i)) es n λc=>K (.int .i64 (.ofNat c)) S
 | _=>false
def Qe(args:List Value)(S:St)(K:VK):Bool:=
 match args with
 | [t,.int .i64 rd,.int .u8 kd]=>QR S t λn es=>aCs (λe i=>LL e.val false λf r q _=>Uj (Uj (Hg r rd) (Hg q kd)) (Nat.beq f i)) es n λc=>K (.int .i64 (.ofNat c)) S
 | _=>false
def SH(args:List Value)(S:St)(K:VK):Bool:=
 match args with
 | [t,.int .i64 rd,.int .u8 kd,.string tx]=>QR S t λn es=>aCs (λe i=>LL e.val false λf r q s=>Uj (Uj (Uj (Hg r rd) (Hg q kd)) (Gj s tx.data.toList)) (Nat.beq f i)) es n λc=>K (.int .i64 (.ofNat c)) S
 | _=>false
def SI(args:List Value)(S:St)(K:VK):Bool:=
 match args with
 | [t]=>QR S t λ_ es=>aAi es λss=>match chainB ss with
  | true=>Cn ss λcs=>CU ss λn=>match n with
   | 0=>K (.slice none 0 0) S
   | n'+1=>uH S (.cells cs 94 (.grown [])) λi S=>K (.slice (some ⟨i,0,some 0⟩) (n'+1) (n'+1)) S
  | false=>false
 | _=>false
theorem Lh{v:Value}{u:Vt}{f:Nat}(h:v=qW u)(hf:u.fr=(f:Int))(z:Bool)(k:Nat->Int->Int->List UInt8->Bool):LL v z k=k f u.rd u.kd u.tx.data.toList:=by
 subst h;unfold qW;rw [hf];rfl
theorem Li(f i:Nat):Nat.beq f i=((f:Int)==(i:Int)):=by
 rw [qU];simp only [Bl,beq_iff_eq];omega
section
variable{w0:World}
theorem Cp{f:FuncId}{dR:List Value}{S:St}{K:VK}{U:Rn}{w:World}{c:Nat}(h:Rel Tryz.prog w0 U S w)(hk:K (.int .i64 (.ofNat c)) S=true)
 (hc:Calls Tryz.prog f ⟨dR⟩ w λe w'=>e= .returned (.int .i64 (c:Int))/\Below w.heap.size w w'):CallsIn (NZ none) 0 Tryz.prog f ⟨dR⟩ w (aBT Tryz.prog w0 U w K):=by
 refine callsIn_wide.2 (hc.mono ?_)
 rintro e w' ⟨rfl,hb⟩
 obtain⟨h1,h2⟩:=h.below hb;exact⟨_,rfl,U,_,S,hk,.flat rfl,h1,h2⟩
theorem YZ{U:Rn}{q:IntKind}{n:Int}{v:Value}(h:VR U (.int q n) v):v= .int q n:=h.of_flat rfl
theorem aCu{U:Rn}{s:ByteArray}{v:Value}(h:VR U (.string s) v):v= .string s:=h.of_flat rfl
theorem aFp:iU Tryz.prog w0 (λf' args S K=>match Nat.beq f' 168 with | true=>Co args S K | false=>false):=by
 intro f args S K U w dR hk h ha;dsimp only at hk;split at hk
 ·rename_i hf
  obtain rfl:f=168:=by simpa using hf
  refine⟨enters_of Tryz.func168 (by kernel_rfl) rfl ⟨dR⟩,?_⟩;unfold Co at hk;split at hk
  ·rename_i t rd
   obtain⟨t',l',rfl,ht,ha⟩:=ha.cC;obtain⟨r',l',rfl,hr,ha⟩:=ha.cC;cases ha.jP;obtain rfl:=YZ hr;obtain⟨bt,ot,n,es,rfl,hk,AX⟩:=IZ hk h ht
   rw [Ui (p:=λv=>v.rd==rd) (λi e he=>by
    obtain⟨h1,f,h2,h3⟩:=AX.ZA e he;rw [Lh h1 h2,uB,uV,h2,Li])]at hk
   exact Cp h hk (aHB AX rd)
  ·cases hk
 ·cases hk
theorem aHC:iU Tryz.prog w0 (λf' args S K=>match Nat.beq f' 156 with | true=>Qe args S K | false=>false):=by
 intro f args S K U w dR hk h ha;dsimp only at hk;split at hk
 ·rename_i hf
  obtain rfl:f=156:=by simpa using hf
  refine⟨enters_of Tryz.func156 (by kernel_rfl) rfl ⟨dR⟩,?_⟩;unfold Qe at hk;split at hk
  ·rename_i t rd kd
   obtain⟨t',l',rfl,ht,ha⟩:=ha.cC;obtain⟨r',l',rfl,hr,ha⟩:=ha.cC;obtain⟨k',l',rfl,hq,ha⟩:=ha.cC;cases ha.jP;obtain rfl:=YZ hr;obtain rfl:=YZ hq;obtain⟨bt,ot,n,es,rfl,hk,AX⟩:=IZ hk h ht
   rw [Ui (p:=λv=>v.rd==rd&&v.kd==kd) (λi e he=>by
    obtain⟨h1,f,h2,h3⟩:=AX.ZA e he;rw [Lh h1 h2,uB,uB,uV,uV,h2,Li])]at hk
   exact Cp h hk (aKm AX rd kd)
  ·cases hk
 ·cases hk
theorem aCv:iU Tryz.prog w0 (λf' args S K=>match Nat.beq f' 209 with | true=>SH args S K | false=>false):=by
 intro f args S K U w dR hk h ha;dsimp only at hk;split at hk
 ·rename_i hf
  obtain rfl:f=209:=by simpa using hf
  refine⟨enters_of Tryz.func209 (by kernel_rfl) rfl ⟨dR⟩,?_⟩;unfold SH at hk;split at hk
  ·rename_i t rd kd tx
   obtain⟨t',l',rfl,ht,ha⟩:=ha.cC;obtain⟨r',l',rfl,hr,ha⟩:=ha.cC;obtain⟨k',l',rfl,hq,ha⟩:=ha.cC;obtain⟨x',l',rfl,hx,ha⟩:=ha.cC;cases ha.jP;obtain rfl:=YZ hr;obtain rfl:=YZ hq;obtain rfl:=aCu hx;obtain⟨bt,ot,n,es,rfl,hk,AX⟩:=IZ hk h ht
   rw [Ui (p:=λv=>v.rd==rd&&v.kd==kd&&v.tx.toList==tx.toList) (λi e he=>by
    obtain⟨h1,f,h2,h3⟩:=AX.ZA e he;rw [Lh h1 h2,uB,uB,uB,uV,uV,FJ,h2,Li,Lib.toList_data,Lib.toList_data])]at hk
   exact Cp h hk (aFq AX rd kd tx)
  ·cases hk
 ·cases hk
theorem aMI:bP Tryz.prog 94=some 5:=by kernel_rfl
theorem aAk(l:List Vt):∀v∈l.flatMap iI,bE v=true:=by
 intro v hv;obtain⟨x,_,hx⟩:=Iw.1 hv;simp [iI]at hx;rcases hx with rfl | rfl | rfl | rfl | rfl<;>rfl
theorem aCw:iU Tryz.prog w0 (λf' args S K=>match Nat.beq f' 97 with | true=>SI args S K | false=>false):=by
 intro f args S K U w dR hk h ha;dsimp only at hk;split at hk
 ·rename_i hf
  obtain rfl:f=97:=by simpa using hf
  refine⟨enters_of Tryz.func97 (by kernel_rfl) rfl ⟨dR⟩,?_⟩;unfold SI at hk;split at hk
  ·rename_i t
   obtain⟨t',l',rfl,ht,ha⟩:=ha.cC;cases ha.jP;obtain⟨bt,ot,n,es,rfl,hk,AX⟩:=IZ hk h ht;obtain⟨ss,Qf,hk⟩:=aCt hk;split at hk
   ·rename_i hch
    have hk:=aAj hk λe he=>(AX.ZA e (Qf.subset he)).1;rw [kM]at hk;refine callsIn_wide.2 ((aFr AX (ss.map dv) (Qf.map dv) (aFo hch)).mono ?_)
    rintro e w' ⟨v,rfl,aFs,VM,hb⟩
    split at hk
    ·rename_i h0
     obtain rfl:=VM.2 (mS (by simpa using h0));obtain⟨h1,h2⟩:=h.below hb;exact⟨_,rfl,U,_,S,hk,.flat rfl,h1,h2⟩
    ·rename_i n' hn'
     rw [gZ]at hk;rcases aFs.2 with ⟨rfl,h0⟩ | ⟨g,cap,cur,rfl,hg,VT,hnc,hcm,xV,htk⟩
     ·simp at h0;rw [h0]at hn';simp at hn'
     ·have hlen:(ss.map dv).length=n'+1:=by simpa using hn'
      obtain⟨h1,h2⟩:=h.aHy hb aMI hg VT (lD.flat (aAk (ss.map dv))) (by rw [Go.Proofs.Lg.PV];exact htk);refine⟨_,rfl,_,_,_,hk,?_,h1,h2⟩;rw [hlen];have:=VR.oG (U:=U.put S.n ⟨g,0,cur.size,5⟩) (i:=S.n) (o:=0) (n:=n'+1) (c:=n'+1) (c':=cap) (Rn.kD _ _ _) (by omega) (bI _) (by simp [xV]) (by simp);simpa using this
   ·cases hk
  ·cases hk
 ·cases hk
def ovT(f:FuncId):Option (List Value->St->VK->Bool):=
 dL (Nat.beq f 209) (some SH) (dL (Nat.beq f 97) (some SI) (dL (Nat.beq f 156) (some Qe) (dL (Nat.beq f 168) (some Co) none)))
theorem aCp:Gq Tryz.prog w0 ovT:=by
 intro f g hg;unfold ovT at hg;cases h1:Nat.beq f 209
 ·rw [h1]at hg
  cases h2:Nat.beq f 97
  ·rw [h2]at hg
   cases h3:Nat.beq f 156
   ·rw [h3]at hg
    cases h4:Nat.beq f 168
    ·rw [h4]at hg;cases hg
    ·rw [h4]at hg
     cases hg;obtain rfl:f=168:=by simpa using h4
     exact aFp
   ·rw [h3]at hg
    cases hg;obtain rfl:f=156:=by simpa using h3
    exact aHC
  ·rw [h2]at hg
   cases hg;obtain rfl:f=97:=by simpa using h2
   exact aCw
 ·rw [h1]at hg
  cases hg;obtain rfl:f=209:=by simpa using h1
  exact aCv
end
end Go.Am
namespace Go.Am
def ZY(x:VE)(a0 a1 a2 a3:V):HK:=λS K=>
 x.call DF [a1] S λv0 S=>
 nF 0 v0 λv1=>
 nF 1 v0 λv2=>
 aD PP .neq 26 v2 (.int .i64 (.ofNat 0)) λv3=>
 wF x v3 a0 S λv4 S=>
 jK x v3 (aD PP .lss 3 v4 (.int .i64 (.ofNat 1))) S λv6 S=>
 gQ x v3 (.bool true) v6 λv7=>
 wF x v7 a0 S λv8 S=>
 jK x v7 (aD PP .gtr 3 v8 (.int .i64 (.ofNat 64))) S λv10 S=>
 gQ x v7 (.bool true) v10 λv11=>
 wF x v11 a2 S λv12 S=>
 jK x v11 (aD PP .lss 3 v12 (.int .i64 (.ofNat 0))) S λmL S=>
 gQ x v11 (.bool true) mL λuN=>
 wF x uN a2 S λuJ S=>
 wF x uN a1 S λv17 S=>
 jK x uN (aD PP .gtr 3 uJ v17) S λyT S=>
 gQ x uN (.bool true) yT λv20=>
 wF x v20 a1 S λv21 S=>
 wF x v20 a2 S λv22 S=>
 jK x v20 (aD PP .mul 3 (.int .i64 (.ofNat 3)) v22) S λv24 S=>
 jK x v20 (aD PP .add 3 v24 (.int .i64 (.ofNat 1))) S λv26 S=>
 jK x v20 (aD PP .lss 3 v21 v26) S λv28 S=>
 gQ x v20 (.bool true) v28 λJP=>
 wF x JP a3 S λv30 S=>
 jK x JP (aD PP .lss 3 v30 (.int .i64 (.ofNat 0))) S λv32 S=>
 gQ x JP (.bool true) v32 λv33=>
 wF x v33 a3 S λIG S=>
 wF x v33 a1 S λv35 S=>
 jK x v33 (aD PP .gtr 3 IG v35) S λv37 S=>
 gQ x v33 (.bool true) v37 λXI=>
 iQ XI (aQ (.tuple [.lU,(.int .i64 (.ofNat 1))]) S K) (fX WK [(0,1,a0),(1,1,a1),(2,1,a2),(3,1,a3),(5,1,(.int .i64 (.ofNat 1))),(9,1,(.int .i64 (.negSucc 0))),(10,1,(.int .i64 (.negSucc 0)))] λv39=>fX [(.int .i64 (.ofNat 0)),(.int .i64 (.ofNat 0)),(.int .i64 (.ofNat 0)),(.int .i64 (.ofNat 0)),(.int .i64 (.ofNat 0)),(.int .i64 (.ofNat 0)),(.int .i64 (.ofNat 0)),(.string ⟨⟨[]⟩⟩),(.string ⟨⟨[]⟩⟩),(.int .i64 (.ofNat 0)),(.int .i64 (.ofNat 0)),(.bool false),(.bool false),(.string ⟨⟨[]⟩⟩),(.slice none 0 0),(.pointer none)] [(0,15,v39),(15,1,v1)] λv40=>pO 124 v40 S λv41 S=>aQ (.tuple [v41,(.int .i64 (.ofNat 0))]) S K)
theorem Vw(x:VE)(a0 a1 a2 a3:V):nV PP fT AK x [a0,a1,a2,a3]=ZY x a0 a1 a2 a3:=by kernel_rfl
def HU(x:VE)(a0 a1 a2:V):HK:=λS K=>
 aD PP .eql 80 a0 .lU λv0=>
 iQ v0 (aQ .nil S K) (fX [(.string ⟨⟨[]⟩⟩),(.slice none 0 0)] [(0,1,a1),(1,1,a2)] λv1=>x.call kC [a0,v1] S λv2 S=>aQ v2 S K)
theorem WP(x:VE)(a0 a1 a2:V):nV PP fT sS x [a0,a1,a2]=HU x a0 a1 a2:=by kernel_rfl
def mR(x:VE)(t0 t3 t6:V):HK:=DC PP fT kC x [.r,.d,.r,.r,.r] [] [t0,t3,t6]
def kA(x:VE)(m:Nat)(t0 t3 t6 t7:V):HK:=mT PP fT kC x [.r,.d,.r,.r,.r,.r,.r,.l,.d] m [] [t0,t3,t6,t7]
def gL(x:VE)(m:Nat)(m0:Nat)(t0 t3 t6 t7 t27 t28 t29:V):HK:=mT PP fT kC x [.r,.d,.r,.r,.r,.r,.r,.l,.d,.d,.r,.d,.l,.r,.d] m [m0] [t0,t3,t6,t7,t27,t28,t29]
def HV(x:VE)(a0 a1:V):HK:=λS K=>
 pO 119 a1 S λv0 S=>
 fX [.nilFunc,.nilFunc,.nilFunc,.nilFunc,.nilFunc,.nilFunc,.nilFunc] [(0,1,(.func jE [] [])),(1,1,(.func bC [] [])),(2,1,(.func mC [] [])),(3,1,(.func oB [] [])),(4,1,(.func mW [] [])),(5,1,(.func kJ [] [])),(6,1,(.func iN [] []))] λv1=>
 eI [.nilFunc,.nilFunc,.nilFunc,.nilFunc,.nilFunc,.nilFunc,.nilFunc] 146 S λv2 S=>
 mE 7 v2 v1 S λS=>
 aCJ 7 1 v2 none none none λv3=>
 gM 0 a0 λv5=>
 gG 3 v5 S λv7 S=>
 aD PP .eql 3 v7 (.int .i64 (.ofNat 0)) λv8=>
 iQ v8 (aCJ 7 1 v2 none (some (.int .i64 (.ofNat 1))) none λv9=>mR x a0 v0 v9 S K) (mR x a0 v0 v3 S K)
theorem WQ(x:VE)(a0 a1:V):nV PP fT kC x [a0,a1]=HV x a0 a1:=by kernel_rfl
def wH(x:VE)(t0 t3 t6:V):HK:=λS K=>
 fG S λS=>
 kA x x.most t0 t3 t6 .nil S K
theorem IH(x:VE)(hm:x.most≠0)(t0 t3 t6:V)(S:Hp)(K:KV):mR x t0 t3 t6 S K=wH x t0 t3 t6 S K:=(rM (hm:=hm) ..).trans (by kernel_rfl)
def mZ(x:VE)(m0:Nat)(t0 t3 t6 t7:V):HK:=λS K=>
 fG S λS=>
 gM 0 t0 λv1=>
 gG 13 v1 S λv3 S=>
 aD PP .eql 9 v3 (.str []) λv4=>
 iQ v4 (dC t6 λv5=>gL x x.most m0 t0 t3 t6 t7 t6 v5 (.int .i64 (.ofNat 0)) S K) (aQ t7 S K)
theorem sF(x:VE)(m0:Nat)(t0 t3 t6 t7:V):kA x (m0+1) t0 t3 t6 t7=mZ x m0 t0 t3 t6 t7:=by kernel_rfl
def jY(x:VE)(m1:Nat)(m0:Nat)(t0 t3 t6 t7 t27 t28 t29:V):HK:=λS K=>
 fG S λS=>
 aD PP .lss 3 t29 t28 λv0=>
 iQ v0 (jM 1 t27 t29 λv1=>bJ v1 S λv2 S=>cU 2 t3 S λv3 S=>fK x v2 [t0,v3] S λv4 S=>nF 0 v4 λv5=>nF 1 v4 λv6=>iQ v6 (qG 37 11 112 t7 v5 S λv7 S=>kA x m0 t0 t3 t6 v7 S K) (aD PP .add 3 t29 (.int .i64 (.ofNat 1)) λv8=>gL x m1 m0 t0 t3 t6 t7 t27 t28 v8 S K)) (aQ t7 S K)
theorem oP(x:VE)(m1:Nat)(m0:Nat)(t0 t3 t6 t7 t27 t28 t29:V):gL x (m1+1) m0 t0 t3 t6 t7 t27 t28 t29=jY x m1 m0 t0 t3 t6 t7 t27 t28 t29:=by kernel_rfl
def iE(x:VE)(m:Nat)(t0 t14 t15 t16:V):HK:=mT PP fT jE x [.r,.l,.r,.d] m [] [t0,t14,t15,t16]
def AM(x:VE)(a0 a1:V):HK:=λS K=>
 pO 119 a1 S λv0 S=>
 gN 15 a0 S λv3 S=>
 x.call kI [v3] S λv4 S=>
 dC v4 λv5=>
 iE x x.most a0 v4 v5 (.int .i64 (.ofNat 0)) S K
theorem NJ(x:VE)(a0 a1:V):nV PP fT jE x [a0,a1]=AM x a0 a1:=by kernel_rfl
def nT(x:VE)(m0:Nat)(t0 t14 t15 t16:V):HK:=λS K=>
 fG S λS=>
 aD PP .lss 3 t16 t15 λv0=>
 iQ v0 (jM 1 t14 t16 λv1=>bJ v1 S λv2 S=>x.call fM [t0,v2] S λv3 S=>nF 0 v3 λv4=>nF 1 v3 λv5=>eI tR 94 S λv6 S=>mE 5 v6 v4 S λS=>BD x v5 t0 S λv7 S=>BD x v5 v2 S λv8 S=>Av x v5 4 v6 S λv12 S=>ST x v5 (x.call jG [v7,v8,(.int .u8 (.ofNat 4)),v12] S) S λmL S=>gQ x v5 mL (.bool false) λuN=>iQ uN (gG 4 v6 S λv17 S=>gM 0 t0 λyT=>bF 13 yT λv20=>mE 1 v20 v17 S λS=>aQ (.tuple [.nil,(.bool true)]) S K) (aD PP .add 3 t16 (.int .i64 (.ofNat 1)) λv21=>iE x m0 t0 t14 t15 v21 S K)) (aQ (.tuple [.nil,(.bool false)]) S K)
theorem tF(x:VE)(m0:Nat)(t0 t14 t15 t16:V):iE x (m0+1) t0 t14 t15 t16=nT x m0 t0 t14 t15 t16:=by kernel_rfl
def DK(x:VE)(a0:V):HK:=λS K=>
 aD PP .eql 80 a0 .lU λv0=>
 iQ v0 (aQ (.tuple [(.str []),(.bool false)]) S K) (gM 0 a0 λv2=>gG 13 v2 S λv4 S=>gM 0 a0 λv6=>gG 13 v6 S λv8 S=>aD PP .neq 9 v8 (.str []) λv9=>aQ (.tuple [v4,v9]) S K)
theorem RM(x:VE)(a0:V):nV PP fT kH x [a0]=DK x a0:=by kernel_rfl
def ET(x:VE)(a0 a1 a2:V):HK:=λS K=>
 pO 37 a2 S λv0 S=>
 aD PP .eql 80 a0 .lU λv1=>
 zE x v1 3 v0 S λv5 S=>
 wF x v1 a0 S λv6 S=>
 jK x v1 (jI PP v6) S λv8 S=>
 jK x v1 (bF 0 v8) S λv10 S=>
 zE x v1 0 v10 S λmL S=>
 jK x v1 (aD PP .neq 3 v5 mL) S λuJ S=>
 gQ x v1 (.bool true) uJ λv17=>
 XG x v17 0 v0 .lss 5 (.int .u8 (.ofNat 2)) S λv24 S=>
 XG x v24 0 v0 .gtr 5 (.int .u8 (.ofNat 4)) S λv31 S=>
 XG x v31 4 v0 .geq 3 (.int .i64 (.ofNat 100)) S λXI S=>
 iQ XI (aQ (.bool false) S K) (gG 4 v0 S λv40 S=>gG 0 v0 S λFo S=>gG 5 v0 S λv44 S=>gG 9 v0 S λv46 S=>fX tR [(0,1,a1),(1,1,v40),(2,1,Fo),(3,1,v44),(4,1,v46)] λFp=>x.call eT [a0,Fp] S λNr S=>aQ Nr S K)
theorem TJ(x:VE)(a0 a1 a2:V):nV PP fT wM x [a0,a1,a2]=ET x a0 a1 a2:=by kernel_rfl
def EU(x:VE)(a0 a1:V):HK:=λS K=>
 pO 94 a1 S λv0 S=>
 bF 2 v0 λv1=>
 bJ v1 S λv2 S=>
 aD PP .eql 5 v2 (.int .u8 (.ofNat 2)) λv3=>
 rW x v3 (bF 1 v0) S λv5 S=>
 ST x v3 (bJ v5 S) S λv7 S=>
 rW x v3 (aD PP .lss 3 v7 (.int .i64 (.ofNat 0))) S λv9 S=>
 BD x v3 v9 S λv10 S=>
 jK x v10 (bF 0 v0) S λv12 S=>
 uM x v10 (bJ v12 S) S λmL S=>
 wF x v10 a0 S λuN S=>
 zE x v10 1 v0 S λyT S=>
 uM x v10 (x.call cI [uN,yT] S) S λv21 S=>
 gCf x v10 mL v12 S (gCt x v3 v7 v5 S (bJ v1 S λv24 _=>aT v24 v2 (jK x v10 (aD PP .neq 3 mL v21) S λv26 S=>rW x v3 (gQ x v10 (.bool true) v26) S λv28 S=>gQ x v3 v28 (.bool false) λJP=>iQ JP (aQ (.bool false) S K) (gN 15 a0 S λv32 S=>cU 5 v0 S λv33 S=>x.call iB [v32,v33] S λIG S=>aQ IG S K))))
theorem TK(x:VE)(a0 a1:V):nV PP fT eT x [a0,a1]=EU x a0 a1:=by kernel_rfl
def xD(x:VE)(a0 a1:V):HK:=λS K=>
 gM 0 a0 λv1=>
 gG 0 v1 S λv3 S=>
 aD PP .add 3 v3 a1 λv4=>
 gM 0 a0 λv6=>
 gG 1 v6 S λv8 S=>
 aD PP .rem 3 v4 v8 λv9=>
 aD PP .add 3 (.int .i64 (.ofNat 1)) v9 λv10=>
 aQ v10 S K
theorem KK(x:VE)(a0 a1:V):nV PP fT cI x [a0,a1]=xD x a0 a1:=by kernel_rfl
def xE(x:VE)(a0 a1:V):HK:=λS K=>
 eI tR 94 S λv0 S=>
 gM 15 a0 λv2=>
 bJ v2 S λv3 S=>
 x.call cI [a0,a1] S λv4 S=>
 bJ v2 S λv5 _=>
 aT v5 v3 (x.call oJ [v3,a1,v4] S λv6 S=>nF 0 v6 λv7=>nF 1 v6 λv8=>mE 5 v0 v7 S λS=>cU 5 v0 S λv9 _=>aQ (.tuple [v9,v8]) S K)
theorem KL(x:VE)(a0 a1:V):nV PP fT fM x [a0,a1]=xE x a0 a1:=by kernel_rfl
def AN(x:VE)(a0 a1 a2 a3:V):HK:=λS K=>
 gN 15 a0 S λv2 S=>
 x.call oC [v2,a1,a2,a3] S λv3 S=>
 x.call jF [a0,v3] S λv4 S=>
 aQ v4 S K
theorem NL(x:VE)(a0 a1 a2 a3:V):nV PP fT jG x [a0,a1,a2,a3]=AN x a0 a1 a2 a3:=by kernel_rfl
def AO(x:VE)(a0 a1:V):HK:=λS K=>
 gM 0 a0 λv1=>
 gG 1 v1 S λv3 S=>
 gM 0 a0 λv5=>
 gG 2 v5 S λv7 S=>
 aD PP .sub 3 v3 v7 λv8=>
 aD PP .geq 3 a1 v8 λv9=>
 aQ v9 S K
theorem NM(x:VE)(a0 a1:V):nV PP fT jF x [a0,a1]=AO x a0 a1:=by kernel_rfl
def DL(x:VE)(a0 a1:V):HK:=λS K=>
 pO 80 a0 S λv0 S=>
 pO 119 a1 S λv1 S=>
 eI [(.slice none 0 0)] 23 S λv2 S=>
 eI [(.bool false)] 4 S λv3 S=>
 bJ v0 S λv4 S=>
 gN 15 v4 S λv7 S=>
 x.call kI [v7] S λv8 S=>
 x.call rQ [v8] S λv9 S=>
 Db x v9 [2,4,5] [v0,v2,v3] 40 (aKy PP bC [.r,.l,.r,.d]) (aKz PP bC [.r,.l,.r,.d]) (aH7 PP bC [.r,.l,.r,.d]) S λpe S=>
 Fh pe (mE 1 v2 .nil S λS=>mE 1 v3 (.bool false) S λS=>bJ v2 S λv11 _=>bJ v3 S λv12 _=>aQ (.tuple [v11,v12]) S K) (bJ v2 S λpI _=>bJ v3 S λmL _=>aQ (.tuple [pI,mL]) S K) (λv10=>aEc v10 0 (mE 1 v2 .nil S λS=>mE 1 v3 (.bool false) S λS=>bJ v2 S λuN _=>bJ v3 S λuJ _=>aQ (.tuple [uN,uJ]) S K) (False))
theorem RN(x:VE)(a0 a1:V):nV PP fT bC x [a0,a1]=DL x a0 a1:=by kernel_rfl
def vH(x:VE)(l:Nat)(t2 t4 t5 a0 a1:V)(S:Hp)(K:KV):Prop:=
 Qh l S λS=>
 bJ t2 S λv0 S=>
 jI PP v0 λv1=>
 bF 0 v1 λv2=>
 bF 4 v2 λv3=>
 bJ v3 S λv4 S=>
 aD PP .gtr 3 a1 v4 λv5=>
 fY x.most (eL true v5 (λk=>bJ t2 S λv6 S=>k v6 S) S λv7 S=>fY x.most (eL true v5 (λk=>jI PP v7 λv8=>k v8 S) S λv9 S=>fY x.most (eL true v5 (λk=>bF 15 v9 λv10=>k v10 S) S λv11 S=>fY x.most (eL true v5 (λk=>bJ v11 S λv12 S=>k v12 S) S λpI S=>fY x.most (eL true v5 (λk=>k a1 S) S λmL S=>fY x.most (eL true v5 (λk=>bJ t2 S λuN S=>k uN S) S λuJ S=>fY x.most (eL true v5 (λk=>jI PP uJ λv17=>k v17 S) S λBA S=>fY x.most (eL true v5 (λk=>bF 0 BA λyT=>k yT S) S λv20 S=>fY x.most (eL true v5 (λk=>bF 2 v20 λv21=>k v21 S) S λv22 S=>fY x.most (eL true v5 (λk=>bJ v22 S λv23 S=>k v23 S) S λv24 S=>fY x.most (eL true v5 (λk=>x.call pC [pI,mL] S λv25 S=>k v25 S) S λv26 S=>fY x.most (AE true v5 v24 (λk=>bJ v22 S λKQ _=>aT KQ v24 k) (fY x.most (AE true v5 uJ (λk=>bJ t2 S λv28 _=>aT v28 uJ k) (fY x.most (AE true v5 v7 (λk=>bJ t2 S λJP _=>aT JP v7 k) (bJ v3 S λv30 _=>aT v30 v4 (bJ t2 S λv31 _=>aT v31 v0 (fY x.most (eL true v5 (λk=>aD PP .gtr 3 v26 v24 λv32=>k v32 S) S λv33 S=>fY x.most (QY v5 v33 (.bool false) λIG=>iQ IG (bJ t2 S λv35 S=>x.call jS [v35,a1] S λXH S=>mE 1 t4 .nil S λS=>mE 1 t5 (.bool true) S λS=>UD l .done (some .ret) false S K) (UD l .ready none true S K))))))))))))))))))))))
theorem II(x:VE)(l:Nat)(t2 t4 t5 a0 a1:V)(S:Hp)(K:KV):Us PP fT x 40 (aKy PP bC [.r,.l,.r,.d]) (aKz PP bC [.r,.l,.r,.d]) (aH7 PP bC [.r,.l,.r,.d]) l [t2,t4,t5] [a0,a1] S K=vH x l t2 t4 t5 a0 a1 S K:=by kernel_rfl
theorem IJ:[2,4,5]=Qb fT 40 (aH7 PP bC [.r,.l,.r,.d]):=by kernel_rfl
def BE(x:VE)(a0 a1:V):HK:=λS K=>
 pO 119 a1 S λv0 S=>
 gM 0 a0 λv2=>
 gG 4 v2 S λv4 S=>
 x.call fM [a0,v4] S λv5 S=>
 nF 0 v5 λv6=>
 nF 1 v5 λv7=>
 eI tR 94 S λv8 S=>
 mE 5 v8 v6 S λS=>
 gM 0 a0 λv10=>
 gG 5 v10 S λv12 S=>
 aD PP .neq 3 v12 (.int .i64 (.ofNat 1)) λpI=>
 wF x pI v7 S λmL S=>
 jK x pI (JC .not mL) S λuJ S=>
 gQ x pI (.bool true) uJ λv17=>
 XG x v17 3 v8 .neq 3 (.int .i64 (.negSucc 0)) S λv24 S=>
 zE x v24 1 v0 S λv28 S=>
 zE x v24 4 v8 S λv32 S=>
 uM x v24 (x.call jN [v28,v32] S) S λIG S=>
 jK x v24 (JC .not IG) S λXH S=>
 gQ x v24 (.bool true) XH λv37=>
 iQ v37 (aQ (.tuple [.nil,(.bool false)]) S K) (gG 4 v8 S λv39 S=>gM 0 a0 λv41=>bF 7 v41 λFo=>bJ Fo S λIh S=>aD PP .eql 9 Ih (.str []) λv44=>x.call kL [a0,v39,v44] S λv45 S=>bJ Fo S λv46 _=>aT v46 Ih (nF 0 v45 λFp=>nF 1 v45 λNr=>aQ (.tuple [Fp,Nr]) S K))
theorem OS(x:VE)(a0 a1:V):nV PP fT mC x [a0,a1]=BE x a0 a1:=by kernel_rfl
def EV(x:VE)(a0 a1:V):HK:=λS K=>
 pO 119 a1 S λv0 S=>
 gM 0 a0 λv2=>
 gG 4 v2 S λv4 S=>
 x.call fM [a0,v4] S λv5 S=>
 nF 0 v5 λv6=>
 nF 1 v5 λv7=>
 eI tR 94 S λv8 S=>
 mE 5 v8 v6 S λS=>
 gM 0 a0 λv10=>
 gG 5 v10 S λv12 S=>
 aD PP .neq 3 v12 (.int .i64 (.ofNat 1)) λpI=>
 wF x pI v7 S λmL S=>
 jK x pI (JC .not mL) S λuJ S=>
 gQ x pI (.bool true) uJ λv17=>
 XG x v17 3 v8 .eql 3 (.int .i64 (.negSucc 0)) S λv24 S=>
 wF x v24 a0 S λv25 S=>
 zE x v24 3 v8 S λJP S=>
 zE x v24 4 v8 S λv33 S=>
 uM x v24 (x.call jG [v25,JP,(.int .u8 (.ofNat 3)),v33] S) S λv35 S=>
 jK x v24 (JC .not v35) S λv37 S=>
 gQ x v24 (.bool true) v37 λXI=>
 iQ XI (aQ (.tuple [.nil,(.bool false)]) S K) (gG 4 v8 S λv40 S=>gM 0 a0 λFo=>bF 9 Fo λIh=>bJ Ih S λv44 S=>bF 3 v8 λv45=>bJ v45 S λv46 S=>aD PP .leq 3 v44 v46 λFp=>x.call kL [a0,v40,Fp] S λNr S=>bJ v45 S λv49 _=>aT v49 v46 (bJ Ih S λv50 _=>aT v50 v44 (nF 0 Nr λv51=>nF 1 Nr λVm=>aQ (.tuple [v51,Vm]) S K)))
theorem TL(x:VE)(a0 a1:V):nV PP fT oB x [a0,a1]=EV x a0 a1:=by kernel_rfl
def DM(x:VE)(a0 a1:V):HK:=λS K=>
 pO 119 a1 S λv0 S=>
 gM 0 a0 λv2=>
 gG 4 v2 S λv4 S=>
 x.call fM [a0,v4] S λv5 S=>
 nF 0 v5 λv6=>
 nF 1 v5 λv7=>
 eI tR 94 S λv8 S=>
 mE 5 v8 v6 S λS=>
 gM 0 a0 λv10=>
 bF 5 v10 λv11=>
 bJ v11 S λv12 S=>
 aD PP .eql 3 v12 (.int .i64 (.ofNat 1)) λpI=>
 wF x pI a0 S λmL S=>
 jK x pI (jI PP mL) S λuJ S=>
 jK x pI (bF 0 uJ) S λBA S=>
 jK x pI (bF 12 BA) S λv20 S=>
 uM x pI (bJ v20 S) S λv22 S=>
 gQ x pI (.bool true) v22 λv23=>
 wF x v23 v7 S λv24 S=>
 jK x v23 (JC .not v24) S λv26 S=>
 gQ x v23 (.bool true) v26 λKQ=>
 wF x KQ a0 S λv28 S=>
 wF x KQ a0 S λJP S=>
 jK x KQ (jI PP JP) S λv31 S=>
 jK x KQ (bF 0 v31) S λv33 S=>
 zE x KQ 4 v33 S λv37 S=>
 zE x KQ 4 v8 S λv41 S=>
 uM x KQ (x.call jG [v28,v37,(.int .u8 (.ofNat 3)),v41] S) S λIh S=>
 gCf x pI v22 v20 S (bJ v11 S λv45 _=>aT v45 v12 (jK x KQ (JC .not Ih) S λFp S=>gQ x KQ (.bool true) Fp λNr=>iQ Nr (aQ (.tuple [.nil,(.bool false)]) S K) (bF 4 v8 λv49=>bJ v49 S λv50 S=>gM 0 a0 λVm=>gG 4 Vm S λv54 S=>gM 0 a0 λv56=>bF 12 v56 λv57=>mE 1 v57 (.bool true) S λS=>bJ v49 S λv58 _=>aT v58 v50 (gM 0 a0 λv60=>bF 8 v60 λv61=>mE 1 v61 v50 S λS=>gM 0 a0 λv63=>bF 10 v63 λv64=>mE 1 v64 v54 S λS=>gM 0 a0 λv66=>gG 5 v66 S λv68 S=>aD PP .eql 3 v68 (.int .i64 (.ofNat 3)) λv69=>iQ v69 (aQ (.tuple [.nil,(.bool true)]) S K) (gG 4 v8 S λv71 S=>gM 0 a0 λv73=>gG 4 v73 S λv75 S=>gM 0 a0 λv77=>bF 7 v77 λv78=>mE 1 v78 v71 S λS=>gM 0 a0 λv80=>bF 9 v80 λv81=>mE 1 v81 v75 S λS=>x.call dK [a0,(.int .i64 (.ofNat 3))] S λv82 S=>gG 4 v8 S λv84 S=>x.call cJ [a0,(.int .u8 (.ofNat 4)),(.int .i64 (.ofNat 0)),v84] S λv85 S=>aQ (.tuple [v85,(.bool true)]) S K)))))
theorem RO(x:VE)(a0 a1:V):nV PP fT mW x [a0,a1]=DM x a0 a1:=by kernel_rfl
def yV(x:VE)(a0 a1:V):HK:=λS K=>
 pO 119 a1 S λv0 S=>
 gM 0 a0 λv2=>
 gG 5 v2 S λv4 S=>
 aD PP .neq 3 v4 (.int .i64 (.ofNat 2)) λv5=>
 wF x v5 a0 S λv6 S=>
 wF x v5 a0 S λv7 S=>
 jK x v5 (jI PP v7) S λv9 S=>
 jK x v5 (bF 0 v9) S λv11 S=>
 zE x v5 4 v11 S λuN S=>
 uM x v5 (x.call jG [v6,uN,(.int .u8 (.ofNat 3)),(.str [])] S) S λv17 S=>
 jK x v5 (JC .not v17) S λyT S=>
 gQ x v5 (.bool true) yT λv20=>
 iQ v20 (aQ (.tuple [.nil,(.bool false)]) S K) (x.call dK [a0,(.int .i64 (.ofNat 3))] S λv21 S=>x.call cJ [a0,(.int .u8 (.ofNat 4)),(.int .i64 (.ofNat 0)),(.str [])] S λv22 S=>aQ (.tuple [v22,(.bool true)]) S K)
theorem LT(x:VE)(a0 a1:V):nV PP fT kJ x [a0,a1]=yV x a0 a1:=by kernel_rfl
def kO(x:VE)(t0 t6 t7:V):HK:=DC PP fT iN x [.r,.r,.r] [] [t0,t6,t7]
def yW(x:VE)(a0 a1:V):HK:=λS K=>
 pO 119 a1 S λv0 S=>
 gM 0 a0 λv2=>
 gG 8 v2 S λv4 S=>
 gM 0 a0 λv6=>
 gG 10 v6 S λv8 S=>
 aD PP .eql 9 v4 (.str []) λv9=>
 iQ v9 (gG 0 v0 S λv11 S=>kO x a0 v11 (.int .i64 (.negSucc 0)) S K) (kO x a0 v4 v8 S K)
theorem LU(x:VE)(a0 a1:V):nV PP fT iN x [a0,a1]=yW x a0 a1:=by kernel_rfl
def tG(x:VE)(t0 t6 t7:V):HK:=λS K=>
 fG S λS=>
 gM 0 t0 λv1=>
 bF 5 v1 λv2=>
 bJ v2 S λv3 S=>
 aD PP .neq 3 v3 (.int .i64 (.ofNat 1)) λv4=>
 wF x v4 t0 S λv5 S=>
 jK x v4 (jI PP v5) S λv7 S=>
 jK x v4 (bF 0 v7) S λv9 S=>
 jK x v4 (bF 11 v9) S λv11 S=>
 uM x v4 (bJ v11 S) S λpI S=>
 gQ x v4 (.bool true) pI λmL=>
 wF x mL t0 S λuN S=>
 wF x mL t0 S λuJ S=>
 jK x mL (jI PP uJ) S λBA S=>
 jK x mL (bF 0 BA) S λv20 S=>
 zE x mL 4 v20 S λv24 S=>
 wF x mL t0 S λv25 S=>
 jK x mL (jI PP v25) S λKQ S=>
 jK x mL (bF 0 KQ) S λJP S=>
 jK x mL (bF 3 JP) S λv31 S=>
 uM x mL (bJ v31 S) S λv33 S=>
 uM x mL (x.call cI [uN,v24] S) S λv35 S=>
 gCf x mL v33 v31 S (gCf x v4 pI v11 S (bJ v2 S λXI _=>aT XI v3 (jK x mL (aD PP .neq 3 v35 v33) S λv40 S=>gQ x mL (.bool true) v40 λv41=>wF x v41 t6 S λFo S=>jK x v41 (aD PP .eql 9 Fo (.str [])) S λv44 S=>gQ x v41 (.bool true) v44 λv45=>iQ v45 (aQ (.tuple [.nil,(.bool false)]) S K) (gM 0 t0 λFp=>bF 11 Fp λNr=>mE 1 Nr (.bool true) S λS=>x.call cJ [t0,(.int .u8 (.ofNat 2)),t7,t6] S λv49 S=>aQ (.tuple [v49,(.bool true)]) S K))))
theorem EI(x:VE)(hm:x.most≠0)(t0 t6 t7:V)(S:Hp)(K:KV):kO x t0 t6 t7 S K=tG x t0 t6 t7 S K:=(rM (hm:=hm) ..).trans (by kernel_rfl)
def HW(x:VE)(a0 a1:V):HK:=λS K=>
 gM 0 a0 λv1=>
 bF 5 v1 λv2=>
 mE 1 v2 a1 S λS=>
 gM 0 a0 λv4=>
 bF 6 v4 λv5=>
 mE 1 v5 (.int .i64 (.ofNat 0)) S λS=>
 aQ (.tuple []) S K
theorem WR(x:VE)(a0 a1:V):nV PP fT dK x [a0,a1]=HW x a0 a1:=by kernel_rfl
def EW(x:VE)(a0 a1 a2 a3:V):HK:=λS K=>
 gM 0 a0 λv1=>
 bF 3 v1 λv2=>
 bJ v2 S λv3 S=>
 gM 0 a0 λv5=>
 bF 4 v5 λv6=>
 bJ v6 S λv7 S=>
 fX tR [(0,1,v3),(1,1,v7),(2,1,a1),(3,1,a2),(4,1,a3)] λv8=>
 x.call eT [a0,v8] S λv9 S=>
 bJ v6 S λv10 _=>
 aT v10 v7 (bJ v2 S λv11 _=>aT v11 v3 (gM 0 a0 λpI=>bF 0 pI λmL=>bJ mL S λuN S=>gM 0 a0 λv17=>bF 4 v17 λBA=>bJ BA S λyT S=>fX nS [(0,1,a1),(3,1,uN),(4,1,yT),(5,1,a2),(9,1,a3)] λv20=>bJ BA S λv21 _=>aT v21 yT (bJ mL S λv22 _=>aT v22 uN ((dN 37 1 nS [(0,11,v20)] S λv23 S=>True)/\(dN 37 1 nS [(0,11,v20)] S λv24 S=>aQ v24 S K)))))
theorem TM(x:VE)(a0 a1 a2 a3:V):nV PP fT cJ x [a0,a1,a2,a3]=EW x a0 a1 a2 a3:=by kernel_rfl
def BF(x:VE)(a0 a1:V):HK:=λS K=>
 x.call dK [a0,(.int .i64 (.ofNat 1))] S λv0 S=>
 gM 0 a0 λv2=>
 bF 4 v2 λv3=>
 mE 1 v3 a1 S λS=>
 gM 0 a0 λv5=>
 bF 11 v5 λv6=>
 mE 1 v6 (.bool false) S λS=>
 gM 0 a0 λv8=>
 bF 12 v8 λv9=>
 mE 1 v9 (.bool false) S λS=>
 aQ (.tuple []) S K
theorem OT(x:VE)(a0 a1:V):nV PP fT jS x [a0,a1]=BF x a0 a1:=by kernel_rfl
def kP(x:VE)(t0 t1:V):HK:=DC PP fT kL x [.r,.r,.r] [] [t0,t1]
def yX(x:VE)(a0 a1 a2:V):HK:=λS K=>
 x.call dK [a0,(.int .i64 (.ofNat 2))] S λv0 S=>
 JC .not a2 λv1=>
 BD x v1 a0 S λv2 S=>
 rW x v1 (jI PP v2) S λv4 S=>
 rW x v1 (bF 0 v4) S λv6 S=>
 Av x v1 7 v6 S λv10 S=>
 BD x v1 a1 S λv11 S=>
 rW x v1 (aD PP .neq 9 v10 v11) S λpI S=>
 gQ x v1 pI (.bool false) λmL=>
 iQ mL (kP x a0 (.str []) S K) (kP x a0 a1 S K)
theorem LV(x:VE)(a0 a1 a2:V):nV PP fT kL x [a0,a1,a2]=yX x a0 a1 a2:=by kernel_rfl
def tH(x:VE)(t0 t1:V):HK:=λS K=>
 fG S λS=>
 x.call cJ [t0,(.int .u8 (.ofNat 3)),(.int .i64 (.ofNat 0)),t1] S λv0 S=>
 aQ (.tuple [v0,(.bool true)]) S K
theorem EJ(x:VE)(hm:x.most≠0)(t0 t1:V)(S:Hp)(K:KV):kP x t0 t1 S K=tH x t0 t1 S K:=(rM (hm:=hm) ..).trans (by kernel_rfl)
def DN(x:VE)(a0:V):HK:=λS K=>
 gM 0 a0 λv1=>
 gG 5 v1 S λv3 S=>
 aD PP .eql 3 v3 (.int .i64 (.ofNat 1)) λv4=>
 iQ v4 (x.call dK [a0,(.int .i64 (.ofNat 2))] S λv5 S=>x.call cJ [a0,(.int .u8 (.ofNat 3)),(.int .i64 (.ofNat 0)),(.str [])] S λv6 S=>aQ v6 S K) (aD PP .eql 3 v3 (.int .i64 (.ofNat 2)) λv7=>iQ v7 (gN 15 a0 S λv10 S=>gM 0 a0 λv12=>gG 4 v12 S λmL S=>x.call lG [v10,mL,(.int .u8 (.ofNat 3))] S λuN S=>x.call jF [a0,uN] S λuJ S=>iQ uJ (x.call dK [a0,(.int .i64 (.ofNat 3))] S λv17 S=>x.call cJ [a0,(.int .u8 (.ofNat 4)),(.int .i64 (.ofNat 0)),(.str [])] S λBA S=>aQ BA S K) (aQ .nil S K)) (aD PP .eql 3 v3 (.int .i64 (.ofNat 3)) λyT=>iQ yT (gN 15 a0 S λv22 S=>gM 0 a0 λv24=>gG 4 v24 S λv26 S=>x.call lG [v22,v26,(.int .u8 (.ofNat 4))] S λKQ S=>x.call jF [a0,KQ] S λv28 S=>BD x v28 a0 S λJP S=>rW x v28 (jI PP JP) S λv31 S=>rW x v28 (bF 0 v31) S λv33 S=>Vk x v28 4 v33 .lss 3 (.int .i64 (.ofNat 99)) S λv40 S=>iQ v40 (gM 0 a0 λFo=>gG 4 Fo S λv44 S=>aD PP .add 3 v44 (.int .i64 (.ofNat 1)) λv45=>x.call jS [a0,v45] S λv46 S=>aQ .nil S K) (aQ .nil S K)) (aQ .nil S K)))
theorem RP(x:VE)(a0:V):nV PP fT qM x [a0]=DN x a0:=by kernel_rfl
def dM(x:VE)(t0 t1 t2 t7:V):HK:=DC PP fT qK x [.r,.r,.r,.r] [] [t0,t1,t2,t7]
def DO(x:VE)(a0 a1 a2:V):HK:=λS K=>
 aD PP .eql 80 a0 .lU λv0=>
 iQ v0 (aQ .nil S K) (gM 0 a0 λv2=>gG 3 v2 S λv4 S=>aD PP .neq 3 v4 (.int .i64 (.ofNat 0)) λv5=>BD x v5 a0 S λv6 S=>rW x v5 (jI PP v6) S λv8 S=>rW x v5 (bF 0 v8) S λv10 S=>Vk x v5 13 v10 .eql 9 (.str []) S λv17 S=>BD x v17 a1 S λBA S=>rW x v17 (aD PP .neq 9 BA (.str [])) S λv20 S=>BD x v17 v20 S λv21 S=>wF x v21 a0 S λv22 S=>jK x v21 (jI PP v22) S λv24 S=>zE x v21 15 v24 S λv28 S=>uM x v21 (x.call kI [v28] S) S λv30 S=>jK x v21 (dC v30) S λv32 S=>jK x v21 (aD PP .gtr 3 v32 (.int .i64 (.ofNat 0))) S λIG S=>rW x v17 (gQ x v21 (.bool true) IG) S λXH S=>gQ x v17 XH (.bool false) λv37=>iQ v37 (gM 0 a0 λv39=>gG 6 v39 S λv41 S=>aD PP .add 3 v41 (.int .i64 (.ofNat 1)) λFo=>aFz false Fo (.int .i64 (.ofNat 1099511627776)) λIh=>gM 0 a0 λv45=>bF 6 v45 λv46=>mE 1 v46 Ih S λS=>gM 0 a0 λNr=>gG 6 Nr S λv50 S=>gM 0 a0 λVm=>gG 4 Vm S λv54 S=>aD PP .mul 3 (.int .i64 (.ofNat 2)) v54 λv55=>aD PP .add 3 (.int .i64 (.ofNat 4)) v55 λv56=>aD PP .geq 3 v50 v56 λv57=>iQ v57 (x.call qM [a0] S λv58 S=>dM x a0 a1 a2 v58 S K) (dM x a0 a1 a2 .nil S K)) (dM x a0 a1 a2 .nil S K))
theorem RQ(x:VE)(a0 a1 a2:V):nV PP fT qK x [a0,a1,a2]=DO x a0 a1 a2:=by kernel_rfl
def vI(x:VE)(t0 t1 t2 t7:V):HK:=λS K=>
 fG S λS=>
 x.call sS [t0,t1,t2] S λv0 S=>
 qG 37 11 112 t7 v0 S λv1 S=>
 aQ v1 S K
theorem HY(x:VE)(hm:x.most≠0)(t0 t1 t2 t7:V)(S:Hp)(K:KV):dM x t0 t1 t2 t7 S K=vI x t0 t1 t2 t7 S K:=(rM (hm:=hm) ..).trans (by kernel_rfl)
def lX(x:VE)(t2 t49:V):HK:=DC PP fT gU x [.r,.r,.l,.r,.d,.r,.r,.r] [] [t2,t49]
def LW(x:VE)(a0 a1:V):HK:=λS K=>
 pO 94 a0 S λv0 S=>
 gG 0 v0 S λv2 S=>
 aD PP .lss 3 v2 (.int .i64 (.ofNat 1)) λv3=>
 zE x v3 0 v0 S λv7 S=>
 wF x v3 a1 S λv8 S=>
 jK x v3 (aD PP .gtr 3 v7 v8) S λv10 S=>
 gQ x v3 (.bool true) v10 λv11=>
 XG x v11 1 v0 .lss 3 (.int .i64 (.ofNat 0)) S λBA S=>
 XG x BA 1 v0 .geq 3 (.int .i64 (.ofNat 100)) S λv25 S=>
 zE x v25 4 v0 S λJP S=>
 jK x v25 (JA JP) S λv31 S=>
 jK x v25 (aD PP .gtr 3 v31 (.int .i64 (.ofNat 2048))) S λv33 S=>
 gQ x v25 (.bool true) v33 λIG=>
 iQ IG (aQ (.bool false) S K) (gG 2 v0 S λXH S=>aD PP .eql 5 XH (.int .u8 (.ofNat 2)) λv37=>iQ v37 (gG 4 v0 S λv39 S=>aD PP .neq 9 v39 (.str []) λv40=>Vk x v40 3 v0 .geq 3 (.int .i64 (.negSucc 0)) S λFp S=>Av x Fp 3 v0 S λv51 S=>Av x Fp 1 v0 S λv55 S=>rW x Fp (aD PP .lss 3 v51 v55) S λv57 S=>gQ x Fp v57 (.bool false) λv58=>aQ v58 S K) (aD PP .eql 5 XH (.int .u8 (.ofNat 3)) λv59=>iQ v59 (lX x v0 v59 S K) (aD PP .eql 5 XH (.int .u8 (.ofNat 4)) λv60=>lX x v0 v60 S K)))
theorem Di(x:VE)(a0 a1:V):nV PP fT gU x [a0,a1]=LW x a0 a1:=by kernel_rfl
def vJ(x:VE)(t2 t49:V):HK:=λS K=>
 fG S λS=>
 iQ t49 (gG 3 t2 S λv1 S=>aD PP .eql 3 v1 (.int .i64 (.ofNat 0)) λv2=>aQ v2 S K) (aQ (.bool false) S K)
theorem HZ(x:VE)(hm:x.most≠0)(t2 t49:V)(S:Hp)(K:KV):lX x t2 t49 S K=vJ x t2 t49 S K:=(rM (hm:=hm) ..).trans (by kernel_rfl)
def RR(x:VE)(a0 a1 a2:V):HK:=λS K=>
 JA a0 λv0=>
 aD PP .leq 3 v0 (.int .i64 (.ofNat 2048)) λv1=>
 BD x v1 a1 S λv2 S=>
 rW x v1 (aD PP .geq 3 v2 (.int .i64 (.negSucc 0))) S λv4 S=>
 gQ x v1 v4 (.bool false) λv5=>
 BD x v5 a1 S λv6 S=>
 BD x v5 a2 S λv7 S=>
 rW x v5 (aD PP .leq 3 v6 v7) S λv9 S=>
 gQ x v5 v9 (.bool false) λv10=>
 BD x v10 a0 S λv11 S=>
 rW x v10 (aD PP .eql 9 v11 (.str [])) S λpI S=>
 BD x v10 a1 S λmL S=>
 rW x v10 (aD PP .eql 3 mL (.int .i64 (.negSucc 0))) S λuJ S=>
 rW x v10 (aD PP .eql 4 pI uJ) S λBA S=>
 gQ x v10 BA (.bool false) λyT=>
 aQ yT S K
theorem Mo(x:VE)(a0 a1 a2:V):nV PP fT vG x [a0,a1,a2]=RR x a0 a1 a2:=by kernel_rfl
def oD(x:VE)(a0 a1:V):HK:=λS K=>
 x.call kU [a0,a1] S λv0 S=>
 aD PP .geq 3 v0 (.int .i64 (.ofNat 0)) λv1=>
 aQ v1 S K
theorem wN(x:VE)(a0 a1:V):nV PP fT jN x [a0,a1]=oD x a0 a1:=by kernel_rfl
def fJ(x:VE)(m:Nat)(t0 t1 t7 t8:V):HK:=mT PP fT kU x [.r,.l,.r,.d] m [] [t0,t1,t7,t8]
def pT(x:VE)(a0 a1:V):HK:=λS K=>
 dC a0 λv0=>
 fJ x x.most a0 a1 v0 (.int .i64 (.ofNat 0)) S K
theorem zB(x:VE)(a0 a1:V):nV PP fT kU x [a0,a1]=pT x a0 a1:=by kernel_rfl
def iK(x:VE)(m0:Nat)(t0 t1 t7 t8:V):HK:=λS K=>
 fG S λS=>
 aD PP .lss 3 t8 t7 λv0=>
 iQ v0 (jM 1 t0 t8 λv1=>bJ v1 S λv2 S=>aD PP .eql 9 t1 v2 λv3=>iQ v3 (aQ t8 S K) (aD PP .add 3 t8 (.int .i64 (.ofNat 1)) λv4=>fJ x m0 t0 t1 t7 v4 S K)) (aQ (.int .i64 (.negSucc 0)) S K)
theorem mN(x:VE)(m0:Nat)(t0 t1 t7 t8:V):fJ x (m0+1) t0 t1 t7 t8=iK x m0 t0 t1 t7 t8:=by kernel_rfl
def rT(x:VE)(a0:V):HK:=λS K=>
 pO 33 a0 S λv0 S=>
 aQ (.func iC [] [v0]) S K
theorem CF(x:VE)(a0:V):nV PP fT rQ x [a0]=rT x a0:=by kernel_rfl
def eE(x:VE)(m:Nat)(t0 t1 t3:V):HK:=mT PP fT iC x [.r,.d] m [] [t0,t1,t3]
def qN(x:VE)(a0 a1:V):HK:=λS K=>
 bJ a1 S λv0 S=>
 dC v0 λv1=>
 aD PP .sub 3 v1 (.int .i64 (.ofNat 1)) λv2=>
 eE x x.most a0 a1 v2 S K
theorem AP(x:VE)(a0 a1:V):nV PP fT iC x [a0,a1]=qN x a0 a1:=by kernel_rfl
def jO(x:VE)(m0:Nat)(t0 t1 t3:V):HK:=λS K=>
 fG S λS=>
 aD PP .geq 3 t3 (.int .i64 (.ofNat 0)) λv0=>
 iQ v0 (bJ t1 S λv1 S=>jM 1 v1 t3 λv2=>bJ v2 S λv3 S=>fK x t0 [t3,v3] S λv4 S=>JC .not v4 λv5=>iQ v5 (aQ (.tuple []) S K) (aD PP .sub 3 t3 (.int .i64 (.ofNat 1)) λv6=>eE x m0 t0 t1 v6 S K)) (aQ (.tuple []) S K)
theorem oE(x:VE)(m0:Nat)(t0 t1 t3:V):eE x (m0+1) t0 t1 t3=jO x m0 t0 t1 t3:=by kernel_rfl
def Gd(x:VE)(a0:V):HK:=λS K=>
 aD PP .lss 3 a0 (.int .i64 (.ofNat 1)) λv0=>
 wF x v0 a0 S λv1 S=>
 jK x v0 (aD PP .gtr 3 v1 (.int .i64 (.ofNat 7))) S λv3 S=>
 gQ x v0 (.bool true) v3 λv4=>
 iQ v4 (aQ (.tuple [.lU,(.int .i64 (.ofNat 1))]) S K) (Id S λv5 S=>fX [(.int .i64 (.ofNat 0)),(.map none)] [(0,1,a0),(1,1,v5)] λv6=>pO 160 v6 S λv7 S=>aQ (.tuple [v7,(.int .i64 (.ofNat 0))]) S K)
theorem aA7(x:VE)(a0:V):nV PP fT DF x [a0]=Gd x a0:=by kernel_rfl
def JR(x:VE)(a0 a1:V):HK:=λS K=>
 pO 94 a1 S λv0 S=>
 aD PP .eql 122 a0 .lU λv1=>
 uM x v1 (cU 5 v0 S) S λv3 S=>
 wF x v1 a0 S λv4 S=>
 jK x v1 (jI PP v4) S λv6 S=>
 zE x v1 0 v6 S λv10 S=>
 uM x v1 (x.call gU [v3,v10] S) S λv12 S=>
 jK x v1 (JC .not v12) S λmL S=>
 gQ x v1 (.bool true) mL λuN=>
 iQ uN (aQ (.bool false) S K) (gG 1 v0 S λv17 S=>gG 0 v0 S λyT S=>gG 2 v0 S λv21 S=>fX Mn [(0,1,v17),(1,1,yT),(2,1,v21)] λv22=>eI Mn 158 S λv23 S=>mE 3 v23 v22 S λS=>gM 1 a0 λv25=>bJ v25 S λv26 S=>cU 3 v23 S λKQ S=>ZJ (.many [.int .i64,.int .i64,.int .u8]) (.agg [(.int .i64 (.ofNat 0)),(.int .i64 (.ofNat 0)),(.int .u8 (.ofNat 0)),(.int .i64 (.ofNat 0)),(.str [])]) true v26 KQ S λv28 S=>nF 0 v28 λJP=>nF 1 v28 λv30=>ZJ (.many [.int .i64,.int .i64,.int .u8]) (.agg [(.int .i64 (.ofNat 0)),(.int .i64 (.ofNat 0)),(.int .u8 (.ofNat 0)),(.int .i64 (.ofNat 0)),(.str [])]) true v26 KQ S λv31 _=>aT v31 v28 (cU 3 v23 S λv32 _=>aT v32 KQ (bJ v25 S λv33 _=>aT v33 v26 ((eI tR 94 S λIG S=>True)/\(eI tR 94 S λv35 S=>mE 5 v35 JP S λS=>iQ v30 (aQ (.bool false) S K) (gN 1 a0 S λXI S=>cU 3 v23 S λv39 S=>cU 5 v0 S λv40 S=>Cw (.many [.int .i64,.int .i64,.int .u8]) XI v39 v40 S λS=>aQ (.bool true) S K))))))
theorem ZZ(x:VE)(a0 a1:V):nV PP fT iB x [a0,a1]=JR x a0 a1:=by kernel_rfl
def AQ(x:VE)(a0 a1 a2:V):HK:=λS K=>
 eI tR 94 S λv0 S=>
 aD PP .eql 122 a0 .lU λv1=>
 iQ v1 (fX tR [] λv2=>mE 5 v0 v2 S λS=>cU 5 v0 S λv3 _=>aQ (.tuple [v3,(.bool false)]) S K) (gN 1 a0 S λv6 S=>fX Mn [(0,1,a1),(1,1,a2),(2,1,(.int .u8 (.ofNat 2)))] λv7=>ZJ (.many [.int .i64,.int .i64,.int .u8]) (.agg [(.int .i64 (.ofNat 0)),(.int .i64 (.ofNat 0)),(.int .u8 (.ofNat 0)),(.int .i64 (.ofNat 0)),(.str [])]) true v6 v7 S λv8 S=>nF 0 v8 λv9=>nF 1 v8 λv10=>eI tR 94 S λv11 S=>mE 5 v11 v9 S λS=>cU 5 v11 S λv12 S=>mE 5 v0 v12 S λS=>cU 5 v0 S λpI _=>aQ (.tuple [pI,v10]) S K)
theorem NN(x:VE)(a0 a1 a2:V):nV PP fT oJ x [a0,a1,a2]=AQ x a0 a1 a2:=by kernel_rfl
def lJ(x:VE)(m:Nat)(t3 t7 t8 t9:V):HK:=mT PP fT kI x [.r,.r,.l,.r,.d] m [] [t3,t7,t8,t9]
def DQ(x:VE)(a0:V):HK:=λS K=>
 x.call fU [a0] S λv0 S=>
 dC v0 λv1=>
 lJ x x.most .nil v0 v1 (.int .i64 (.ofNat 0)) S K
theorem RS(x:VE)(a0:V):nV PP fT kI x [a0]=DQ x a0:=by kernel_rfl
def kQ(x:VE)(m0:Nat)(t3 t7 t8 t9:V):HK:=λS K=>
 fG S λS=>
 aD PP .lss 3 t9 t8 λv0=>
 iQ v0 (jM 5 t7 t9 λv1=>cU 5 v1 S λv2 S=>eI tR 94 S λv3 S=>mE 5 v3 v2 S λS=>gG 1 v3 S λv5 S=>dN 3 1 WJ [(0,1,v5)] S λv6 S=>qG 3 1 8 t3 v6 S λv7 S=>aD PP .add 3 t9 (.int .i64 (.ofNat 1)) λv8=>lJ x m0 v7 t7 t8 v8 S K) (x.call bN [t3] S λv9 S=>aQ v9 S K)
theorem oL(x:VE)(m0:Nat)(t3 t7 t8 t9:V):lJ x (m0+1) t3 t7 t8 t9=kQ x m0 t3 t7 t8 t9:=by kernel_rfl
def yU(x:VE)(a0 a1:V):HK:=λS K=>
 x.call oI [a1] S λv0 S=>
 x.call pB [v0] S λv1 S=>
 dC a1 λv2=>
 gM 0 a0 λv4=>
 bF 5 v4 λv5=>
 bJ v5 S λv6 S=>
 aD PP .eql 3 v2 v6 λv7=>
 BD x v7 v0 S λv8 S=>
 BD x v7 a0 S λv9 S=>
 rW x v7 (jI PP v9) S λv11 S=>
 rW x v7 (bF 0 v11) S λpI S=>
 rW x v7 (bF 5 pI) S λuN S=>
 ST x v7 (bJ uN S) S λv17 S=>
 ST x v7 (x.call bN [v8] S) S λyT S=>
 gCt x v7 v17 uN S (bJ v5 S λv21 _=>aT v21 v6 (rW x v7 (dC yT) S λv23 S=>rW x v7 (aD PP .eql 3 v23 v17) S λv25 S=>gQ x v7 v25 (.bool false) λv26=>BD x v26 v0 S λKQ S=>rW x v26 (jM 1 KQ (.int .i64 (.ofNat 0))) S λJP S=>ST x v26 (bJ JP S) S λv31 S=>rW x v26 (aD PP .geq 3 v31 (.int .i64 (.ofNat 1))) S λv33 S=>gQ x v26 v33 (.bool false) λIG=>BD x IG v0 S λv35 S=>BD x IG a0 S λXH S=>rW x IG (jI PP XH) S λXI S=>rW x IG (bF 0 XI) S λv40 S=>Av x IG 5 v40 S λv44 S=>rW x IG (aD PP .sub 3 v44 (.int .i64 (.ofNat 1))) S λv46 S=>rW x IG (jM 1 v35 v46) S λNr S=>ST x IG (bJ Nr S) S λv50 S=>BD x IG a0 S λv51 S=>rW x IG (jI PP v51) S λv53 S=>rW x IG (bF 0 v53) S λv55 S=>Av x IG 4 v55 S λv59 S=>rW x IG (aD PP .leq 3 v50 v59) S λv61 S=>gQ x IG v61 (.bool false) λv62=>aQ v62 S K))
theorem LS(x:VE)(a0 a1:V):nV PP fT rP x [a0,a1]=yU x a0 a1:=by kernel_rfl
def uC(x:VE)(a0:V):HK:=λS K=>
 aD PP .eql 33 a0 .nil λv0=>
 iQ v0 (aQ .nil S K) (dN 3 0 WJ [] S λv1 S=>qG 3 1 8 v1 a0 S λv2 S=>aQ v2 S K)
theorem FX(x:VE)(a0:V):nV PP fT oI x [a0]=uC x a0:=by kernel_rfl
def dZ(x:VE)(m:Nat)(t0 t3:V):HK:=mT PP fT bN x [.r,.r,.l,.r,.d] m [] [t0,t3]
def dE(x:VE)(m:Nat)(m0:Nat)(t0 t3 t4 t5:V):HK:=mT PP fT bN x [.r,.r,.l,.r,.d,.d,.r,.l,.d,.r,.l,.r,.l,.r,.d] m [m0] [t0,t3,t4,t5]
def cO(x:VE)(m0:Nat)(m1:Nat)(t0 t3 t4 t5:V):HK:=DC PP fT bN x [.r,.r,.l,.r,.d,.d,.r,.l,.d,.r,.l,.r,.l,.r,.d,.d,.r,.r] [m0,m1] [t0,t3,t4,t5]
def jQ(x:VE)(a0:V):HK:=λS K=>
 dC a0 λv0=>
 aD PP .lss 3 v0 (.int .i64 (.ofNat 2)) λv1=>
 iQ v1 (aQ a0 S K) (dZ x x.most a0 (.int .i64 (.ofNat 1)) S K)
theorem mX(x:VE)(a0:V):nV PP fT bN x [a0]=jQ x a0:=by kernel_rfl
def dP(x:VE)(m0:Nat)(t0 t3:V):HK:=λS K=>
 fG S λS=>
 dC t0 λv0=>
 aD PP .lss 3 t3 v0 λv1=>
 iQ v1 (jM 1 t0 t3 λv2=>bJ v2 S λv3 S=>aD PP .sub 3 t3 (.int .i64 (.ofNat 1)) λv4=>jM 1 t0 v4 λv5=>bJ v5 S λv6 S=>aD PP .eql 3 v3 v6 λv7=>iQ v7 (Cy 3 1 t0 (some t3) none none S λv8=>dE x x.most m0 t0 t3 v8 (.int .i64 (.ofNat 1)) S K) (aD PP .add 3 t3 (.int .i64 (.ofNat 1)) λv9=>dZ x m0 t0 v9 S K)) (aQ t0 S K)
theorem fV(x:VE)(m0:Nat)(t0 t3:V):dZ x (m0+1) t0 t3=dP x m0 t0 t3:=by kernel_rfl
def fN(x:VE)(m1:Nat)(m0:Nat)(t0 t3 t4 t5:V):HK:=λS K=>
 fG S λS=>
 dC t4 λv0=>
 aD PP .lss 3 t5 v0 λv1=>
 iQ v1 (jM 1 t4 t5 λv2=>bJ v2 S λv3 S=>aD PP .sub 3 t5 (.int .i64 (.ofNat 1)) λv4=>jM 1 t4 v4 λv5=>bJ v5 S λv6 S=>aD PP .neq 3 v3 v6 λv7=>iQ v7 (jM 1 t4 t5 λv8=>bJ v8 S λv9 S=>jM 1 t0 t3 λv10=>mE 1 v10 v9 S λS=>aD PP .add 3 t3 (.int .i64 (.ofNat 1)) λv11=>cO x m0 m1 t0 v11 t4 t5 S K) (cO x m0 m1 t0 t3 t4 t5 S K)) (Cy 3 1 t0 (some t3) none none S λv12=>RB WJ v12 S λS=>Cy 3 1 t0 none (some t3) none S λpI=>aQ pI S K)
theorem jX(x:VE)(m1:Nat)(m0:Nat)(t0 t3 t4 t5:V):dE x (m1+1) m0 t0 t3 t4 t5=fN x m1 m0 t0 t3 t4 t5:=by kernel_rfl
def iZ(x:VE)(m0:Nat)(m1:Nat)(t0 t3 t4 t5:V):HK:=λS K=>
 fG S λS=>
 aD PP .add 3 t5 (.int .i64 (.ofNat 1)) λv0=>
 dE x m1 m0 t0 t3 t4 v0 S K
theorem pP(x:VE)(hm:x.most≠0)(m0:Nat)(m1:Nat)(t0 t3 t4 t5:V)(S:Hp)(K:KV):cO x m0 m1 t0 t3 t4 t5 S K=iZ x m0 m1 t0 t3 t4 t5 S K:=(rM (hm:=hm) ..).trans (by kernel_rfl)
def iD(x:VE)(m:Nat)(t0 t1 t7 t8:V):HK:=mT PP fT fQ x [.r,.l,.r,.d] m [] [t0,t1,t7,t8]
def uD(x:VE)(a0 a1:V):HK:=λS K=>
 dC a0 λv0=>
 iD x x.most a0 a1 v0 (.int .i64 (.ofNat 0)) S K
theorem FY(x:VE)(a0 a1:V):nV PP fT fQ x [a0,a1]=uD x a0 a1:=by kernel_rfl
def kV(x:VE)(m0:Nat)(t0 t1 t7 t8:V):HK:=λS K=>
 fG S λS=>
 aD PP .lss 3 t8 t7 λv0=>
 iQ v0 (jM 1 t0 t8 λv1=>bJ v1 S λv2 S=>aD PP .eql 3 t1 v2 λv3=>iQ v3 (aQ t8 S K) (aD PP .add 3 t8 (.int .i64 (.ofNat 1)) λv4=>iD x m0 t0 t1 t7 v4 S K)) (aQ (.int .i64 (.negSucc 0)) S K)
theorem pS(x:VE)(m0:Nat)(t0 t1 t7 t8:V):iD x (m0+1) t0 t1 t7 t8=kV x m0 t0 t1 t7 t8:=by kernel_rfl
def fO(x:VE)(m:Nat)(t1 t2 Vv t19 t20:V):HK:=mT PP fT pA x [.r,.r,.r,.r,.d] m [] [t1,t2,Vv,t19,t20]
def HR(x:VE)(a0 a1:V):HK:=λS K=>
 pO 25 a0 S λv0 S=>
 eI [(.slice none 0 0)] 23 S λv1 S=>
 bJ v0 S λv2 S=>
 bJ v0 S λv3 S=>
 gN 17 v3 S λv6 S=>
 x.call dY [v6] S λv7 S=>
 bJ v0 S λv8 _=>
 aT v8 v3 (bJ v0 S λv9 _=>aT v9 v2 (x.call bV [v7,(.func mV [] [v0,v1])] S λv10 S=>bJ v0 S λv11 _=>aT v11 v3 (bJ v0 S λv12 _=>aT v12 v2 (gM 17 v2 λmL=>mE 1 mL v10 S λS=>bJ v1 S λuN S=>dC uN λuJ=>fO x x.most a1 v0 uN uJ (.int .i64 (.ofNat 0)) S K))))
theorem WN(x:VE)(a0 a1:V):nV PP fT pA x [a0,a1]=HR x a0 a1:=by kernel_rfl
def qB(x:VE)(m0:Nat)(t1 t2 Vv t19 t20:V):HK:=λS K=>
 fG S λS=>
 aD PP .lss 3 t20 t19 λv0=>
 iQ v0 (jM 11 Vv t20 λv1=>cU 11 v1 S λv2 S=>eI nS 37 S λv3 S=>mE 11 v3 v2 S λS=>gG 1 v3 S λv5 S=>x.call fQ [t1,v5] S λv6 S=>aD PP .add 3 v6 (.int .i64 (.ofNat 1)) λv7=>aD PP .eql 3 v7 (.int .i64 (.ofNat 0)) λv8=>uM x v8 (bJ t2 S) S λv10 S=>jK x v8 (jI PP v10) S λv12 S=>XG x v8 14 v12 .neq 9 (.str []) S λyT S=>iQ yT (aD PP .add 3 t20 (.int .i64 (.ofNat 1)) λv20=>fO x m0 t1 t2 Vv t19 v20 S K) (gG 0 v3 S λv22 S=>aD PP .eql 5 v22 (.int .u8 (.ofNat 5)) λv23=>iQ v23 (bJ t2 S λv24 S=>gG 1 v3 S λv26 S=>gG 9 v3 S λv28 S=>x.call sU [v24,v26,v28] S λJP S=>aD PP .add 3 t20 (.int .i64 (.ofNat 1)) λv30=>fO x m0 t1 t2 Vv t19 v30 S K) (bJ t2 S λv31 S=>gN 15 v31 S λIG S=>cU 11 v3 S λv35 S=>x.call wM [IG,v7,v35] S λXH S=>bJ t2 S λv37 _=>aT v37 v31 (aD PP .add 3 t20 (.int .i64 (.ofNat 1)) λXI=>fO x m0 t1 t2 Vv t19 XI S K)))) (aQ (.tuple []) S K)
theorem wG(x:VE)(m0:Nat)(t1 t2 Vv t19 t20:V):fO x (m0+1) t1 t2 Vv t19 t20=qB x m0 t1 t2 Vv t19 t20:=by kernel_rfl
def rR(x:VE)(t1 t3:V):HK:=DC PP fT mV x [.r,.r] [] [t1,t3]
def DI(x:VE)(a0 a1 a2:V):HK:=λS K=>
 pO 37 a0 S λv0 S=>
 gG 3 v0 S λv2 S=>
 bJ a1 S λv3 S=>
 gN 13 v3 S λv6 S=>
 aD PP .eql 3 v2 v6 λv7=>
 iQ v7 (bJ a2 S λv8 S=>cU 11 v0 S λv9 S=>dN 37 1 nS [(0,11,v9)] S λv10 S=>qG 37 11 112 v8 v10 S λv11 S=>mE 1 a2 v11 S λS=>rR x a1 v0 S K) (rR x a1 v0 S K)
theorem RK(x:VE)(a0 a1 a2:V):nV PP fT mV x [a0,a1,a2]=DI x a0 a1 a2:=by kernel_rfl
def qZ(x:VE)(t1 t3:V):HK:=λS K=>
 fG S λS=>
 gG 3 t3 S λv1 S=>
 bJ t1 S λv2 S=>
 gN 13 v2 S λv5 S=>
 aD PP .eql 3 v1 v5 λv6=>
 aQ v6 S K
theorem xC(x:VE)(hm:x.most≠0)(t1 t3:V)(S:Hp)(K:KV):rR x t1 t3 S K=qZ x t1 t3 S K:=(rM (hm:=hm) ..).trans (by kernel_rfl)
def rS(x:VE)(a0 a1:V):HK:=λS K=>
 x.call fQ [a0,a1] S λv0 S=>
 aD PP .geq 3 v0 (.int .i64 (.ofNat 0)) λv1=>
 aQ v1 S K
theorem CE(x:VE)(a0 a1:V):nV PP fT mK x [a0,a1]=rS x a0 a1:=by kernel_rfl
structure Vo where
 fr:Int
 rd:Int
 kd:Nat
 vl:Int
 tx:List UInt8
def Vo.dt(v:Vo):List Dt:=[.int .i64 v.fr,.int .i64 v.rd,.int .u8 (.ofNat v.kd),.int .i64 v.vl,.str v.tx]
def Vo.vv(v:Vo):List V:=[.int .i64 v.fr,.int .i64 v.rd,.int .u8 (.ofNat v.kd),.int .i64 v.vl,.str v.tx]
def wT(l:List Vo):List Dt:=l.flatMap Vo.dt
def voV(l:List Vo):List V:=l.flatMap Vo.vv
theorem JU(l:List Vo):(wT l).length=l.length*5:=by
 induction l with
 | nil=>rfl
 | cons v l ih=>simp [wT,Vo.dt]at ih ⊢;omega
theorem Dn(l:List Vo)(i:Nat)(v:Vo)(h:l[i]? =some v):((wT l).drop (i*5)).take 5=v.dt:=by
 induction l generalizing i with
 | nil=>simp at h
 | cons a l ih=>
  cases i with
  | zero=>simp at h;subst h;simp [wT,Vo.dt]
  | succ i=>
   have:=ih i (by simpa using h);rw [<-this];simp only [wT,Bf];rw [show(i+1)*5=a.dt.length+i*5 by simp [Vo.dt];omega,<-KB];simp
theorem aIH(l:List Vo)(O:Tag):voV l=(wT l).map (T O):=by
 induction l with
 | nil=>rfl
 | cons v l ih=>simp [voV,wT,Vo.vv,Vo.dt,T]at ih ⊢;exact ih
theorem Wh(l:List Vo):(voV l).length=l.length*5:=by rw [aIH l (.root 0),jB,JU]
def ints(l:List Int):List V:=l.map (V.int .i64)
def rC(l:List Int):List Dt:=l.map (Dt.int .i64)
theorem ID(l:List Int):(ints l).length=l.length:=by simp [ints]
theorem SV(l:List Int):(rC l).length=l.length:=by simp [rC]
theorem RV{l:List Int}{p:Nat}(h:p<l.length):l.getD p 0=l[p]:=by rw [ME,aP h];rfl
theorem AW{l:List Int}{p:Nat}(h:p<l.length):(ints l)[p]? =some (.int .i64 (l.getD p 0)):=by
 unfold ints;rw [jA,aP h,RV h];rfl
theorem ints_set(l:List Int)(p:Nat)(z:Int):(ints l).set p (.int .i64 z)=ints (l.set p z):=by
 unfold ints;rw [List.map_set]
def kp(zs:List Int)(j:Nat):Bool:=decide (j=0) || !decide (zs.getD j 0=zs.getD (j-1) 0)
def dq(zs:List Int):Nat->List Int
 | 0=>[]
 | j+1=>if kp zs j then dq zs j++[zs.getD j 0]else dq zs j
def dd(zs:List Int):List Int:=dq zs zs.length
theorem Wi{zs:List Int}{j:Nat}(h0:0<j)(h:zs.getD j 0=zs.getD (j-1) 0):dq zs (j+1)=dq zs j:=by
 conv=>lhs;unfold dq
 rw [show kp zs j=false by unfold kp;rw [aR (by omega),aU h];rfl];rfl
theorem aC9{zs:List Int}{j:Nat}(h:¬zs.getD j 0=zs.getD (j-1) 0):dq zs (j+1)=dq zs j++[zs.getD j 0]:=by
 conv=>lhs;unfold dq
 rw [show kp zs j=true by unfold kp;rw [aR h];simp];rfl
theorem aIK(zs:List Int):∀j,(dq zs j).length<=j:=by
 intro j;induction j with
 | zero=>exact bI _
 | succ j ih=>
  unfold dq;split
  ·rw [bH];simp;exact ih
  ·omega
theorem aDa{i:Nat}(h:0<i)(h2:i<4611686018427387904):lC .i64 (Int.ofNat i-Int.ofNat 1)=Int.ofNat (i-1):=by
 rw [wrap_small]<;>simp<;>omega
theorem EM{S S':Hp}{i:Nat}{o:Ob}(h:cP S' S)(e:S' i=none):cP S' (aM S i o):=λj q hq=>by
 by_cases hj:j=i
 ·subst hj;rw [e]at hq;cases hq
 ·rw [aC hj];exact h j q hq
section
variable{x:VE}{K:KV}{zs:List Int}{i n:Nat}{S':Hp}
theorem aLQ(hn:zs.length=n)(hM:n<x.most)(hb:n<1000000000)(hs:S' i=none)(hk:∀O,K (.list O (rC (dd zs)) (dd zs).length) S')(m0:Nat){k:Nat}(k1:1<=k):
 ∀(m k2 kk:Nat) (S:Hp) (cur:List Int),cP S' S->S i=some (.iX (ints cur) 3 n)->cur.length=n->1<=k2->k+k2<=n->n<=k+k2+m->kk=(dq zs (k+k2)).length->kk<k+k2->cur.take kk=dq zs (k+k2)->cur.drop (k+k2-1)=zs.drop (k+k2-1)->
  dE x (m+1) m0 (.acc i n) (.int .i64 (.ofNat kk)) (.oR i n (k*1) (n-k) (n-k)) (.int .i64 (.ofNat k2)) S K:=by
 have fin:∀(k2 kk:Nat) (S:Hp) (cur:List Int),cP S' S->S i=some (.iX (ints cur) 3 n)->cur.length=n->k+k2=n->kk=(dq zs (k+k2)).length->kk<k+k2->cur.take kk=dq zs (k+k2)->
  (Cy 3 1 (.acc i n) (some (.int .i64 (.ofNat kk))) none none S λv12=>RB WJ v12 S λS=>Cy 3 1 (.acc i n) none (some (.int .i64 (.ofNat kk))) none S λpI=>aQ pI S K):=by
  intro k2 kk S cur hle hi hc tZ e1 e2 e3;refine Ie hi (by omega) ?_;refine Lu hi rfl (by omega) (by simp [ID];omega) ?_;refine aEe aB (by omega) (by omega) ?_;have e4:dq zs (k+k2)=dd zs:=by rw [tZ,<-hn];rfl
  rw [e4]at e1 e3;have e5:(dd zs).length=kk:=e1.symm;refine⟨S',λO=> .list (O 0) (rC (dd zs)) kk,EM hle hs,λO=> .one (.dat (.oR (cs:=rC (dd zs)) aB hs (by omega) ?_ ?_)),λO=>by rw [<-e5];exact hk _⟩
  ·rw [SV,e5];unfold aE;simp [ID];omega
  ·intro j v d h1 h2
   have hj:j<kk:=by have:=(dS.1 h2).1;rw [SV]at this;omega
   have h3:(ints cur)[j]? =some v:=by
    unfold aE at h1;rw [gB,DW,fB (by rw [jL,ID];omega),kR,if_pos (by omega)]at h1;exact h1
   rw [AW (by omega)]at h3;injection h3 with h3;subst h3;unfold rC at h2;rw [jA,<-e3,kR,if_pos hj,aP (by omega)]at h2;injection h2 with h2;subst h2;rw [RV (by omega)];exact .int
 intro m;induction m with
 | zero=>
  intro k2 kk S cur hle hi hc h2 Oy hm e1 e2 e3 e4;rw [jX];unfold fN;refine aH ?_;rw [Ql,bO,bG,if_neg (by simp;omega)];exact fin k2 kk S cur hle hi hc (by omega) e1 e2 e3
 | succ m ih=>
  intro k2 kk S cur hle hi hc h2 Oy hm e1 e2 e3 e4;rw [jX];unfold fN;refine aH ?_;rw [Ql,bO,bG];by_cases hlt:k2<n-k
  ·have cell:∀p,k+k2-1<=p->p<n->cur.getD p 0=zs.getD p 0:=by
    intro p h1 h3;have:=lT (λl:List Int=>l.getD (p-(k+k2-1)) 0) e4;simp only [ME,kS]at this;rw [show k+k2-1+(p-(k+k2-1))=p by omega]at this;simpa [ME]using this
   rw [if_pos (by simp;omega),Ls hlt];refine Lt hi (AW (by omega)) ?_;rw [tJ,aDa (by omega) (by omega),Ls (by omega)];refine Lt hi (AW (by omega)) ?_;rw [gD,bG];have c1:cur.getD (k*1+k2*1) 0=zs.getD (k+k2) 0:=by rw [show k*1+k2*1=k+k2 by omega];exact cell _ (by omega) (by omega)
   have c2:cur.getD (k*1+(k2-1)*1) 0=zs.getD (k+k2-1) 0:=by rw [show k*1+(k2-1)*1=k+k2-1 by omega];exact cell _ (by omega) (by omega)
   rw [c1,c2]
   have next:∀(S2:Hp) (aFY:List Int) (kk2:Nat),cP S' S2->S2 i=some (.iX (ints aFY) 3 n)->aFY.length=n->kk2=(dq zs (k+(k2+1))).length->kk2<k+(k2+1)->aFY.take kk2=dq zs (k+(k2+1))->aFY.drop (k+k2)=zs.drop (k+k2)->cO x m0 (m+1) (.acc i n) (.int .i64 (.ofNat kk2)) (.oR i n (k*1) (n-k) (n-k)) (.int .i64 (.ofNat k2)) S2 K:=by
    intro S2 aFY kk2 q1 q2 q3 q4 q5 q6 q7;rw [pP x (by omega)];unfold iZ;refine aH ?_;rw [iM,KG (by omega)];exact ih (k2+1) kk2 S2 aFY q1 q2 q3 (by omega) (by omega) (by omega) q4 q5 q6 (by rw [show k+(k2+1)-1=k+k2 by omega];exact q7)
   have hd1:cur.drop (k+k2)=zs.drop (k+k2):=by
    have:=lT (List.drop 1) e4
    rwa [KB,KB,show k+k2-1+1=k+k2 by omega]at this
   have hz:¬k+k2=0:=by omega
   by_cases hd:zs.getD (k+k2) 0=zs.getD (k+k2-1) 0
   ·rw [if_neg (by simp only [hd];simp)]
    have e5:dq zs (k+(k2+1))=dq zs (k+k2):=Wi (show 0<k+k2 by omega) hd;exact next S cur kk hle hi hc (by rw [e5];exact e1) (by omega) (by rw [e5];exact e3) hd1
   ·rw [if_pos (by rw [aR hd];rfl),Ls hlt]
    refine Lt hi (AW (by omega)) ?_;rw [c1,wZ (by omega),lS];refine aO0 hi rfl (by rw [ID];omega) ?_;rw [WC (by rw [ID];omega),ints_set,iM,KG (show kk<4611686018427387904 by have:=aIK zs (k+k2);omega)];have e5:dq zs (k+(k2+1))=dq zs (k+k2)++[zs.getD (k+k2) 0]:=aC9 hd;refine next _ _ (kk+1) (EM hle hs) aB (by simp;omega) (by rw [e5,bH,<-e1];rfl) (by omega) ?_ ?_
    ·rw [e5,<-e3]
     apply uO;intro p;rw [kR];by_cases h1:p<kk
     ·rw [if_pos (by omega),UO (by omega),fB (by rw [jL];omega),kR,if_pos h1]
     ·by_cases h3:p=kk
      ·subst h3
       rw [if_pos (by omega),List.getElem?_set_self (by omega),iG (by rw [jL];omega),jL];rw [show p-min p cur.length=0 by omega];rfl
      ·rw [if_neg (by omega),GH (by simp;omega)]
    ·rw [List.drop_set_of_lt (by omega)];exact hd1
  ·rw [if_neg (by simp;omega)]
   exact fin k2 kk S cur hle hi hc (by omega) e1 e2 e3
theorem aPa(hn:zs.length=n)(hM:n<x.most)(hb:n<1000000000)(hs:S' i=none)(hk:∀O,K (.list O (rC (dd zs)) (dd zs).length) S'){S:Hp}(hle:cP S' S)(hi:S i=some (.iX (ints zs) 3 n)):
 ∀(m k:Nat),1<=k->k<=n->n<=k+m->dq zs k=zs.take k->dZ x (m+1) (.acc i n) (.int .i64 (.ofNat k)) S K:=by
 have fin:∀k,n=k->dq zs k=zs.take k->aQ (.acc i n) S K:=by
  intro k h1 h2;subst h1;have e4:dd zs=zs:=by unfold dd;rw [hn,h2,<-hn,US]
  refine⟨S',λO=> .list (O 0) (rC zs) n,hle,λO=> .one (.dat (.acc hi hs (by rw [ID,SV]) ?_)),λO=>by have:=hk (O 0);rwa [e4,hn]at this⟩;intro j v d h3 h4;unfold ints at h3;unfold rC at h4;rw [jA]at h3 h4;cases hq:zs[j]? with
  | none=>rw [hq]at h3;cases h3
  | some z=>rw [hq]at h3 h4;injection h3 with h3;injection h4 with h4;subst h3 h4;exact .int
 intro m;induction m with
 | zero=>
  intro k h1 h2 h3 h4;rw [fV];unfold dP;refine aH ?_;rw [CB,bO,bG,if_neg (by simp;omega)];exact fin k (by omega) h4
 | succ m ih=>
  intro k h1 h2 h3 h4;rw [fV];unfold dP;refine aH ?_;rw [CB,bO,bG];by_cases hlt:k<n
  ·rw [if_pos (by simp;omega),wZ hlt]
   refine Lt hi (AW (by omega)) ?_;rw [tJ,aDa (by omega) (by omega),wZ (by omega)];refine Lt hi (AW (by omega)) ?_;rw [cV,bG,lS,lS];have hz:¬k=0:=by omega
   by_cases hd:zs.getD k 0=zs.getD (k-1) 0
   ·rw [if_pos (by simp only [hd];simp)]
    refine Ie hi hlt ?_;obtain⟨p,hp⟩:=pV (show x.most≠0 by omega);rw [hp];have e5:dq zs (k+1)=zs.take k:=(Wi (by omega) hd).trans h4;have e6:(dq zs (k+1)).length=k:=by rw [e5,jL];omega
    exact aLQ hn hM hb hs hk (m+1) h1 p 1 k S zs hle hi hn (bI _) (by omega) (by omega) e6.symm (by omega) e5.symm rfl
   ·rw [if_neg (by rw [aR hd];simp),iM,KG (by omega)]
    refine ih (k+1) (by omega) (by omega) (by omega) ?_;rw [aC9 hd,tO,aP (by omega),h4,RV (by omega)];rfl
  ·rw [if_neg (by simp;omega)]
   exact fin k (by omega) h4
end
section
variable{ov:Qj}{M d i n:Nat}{x:VE}{S S':Hp}{K:KV}{zs:List Int}
theorem aFZ(hf:ov bN=none)(hx:Deep PP fT ov M (d+1) x)(hn:zs.length=n)(hM:n<M)(hb:n<1000000000)(hs:S' i=none)(hle:cP S' S)(h1:1<=n)(hi:S i=some (.iX (ints zs) 3 n))(hk:∀O,K (.list O (rC (dd zs)) (dd zs).length) S'):x.call bN [.acc i n] S K:=by
 refine hx.call hf λy hy=>?_;rw [mX];unfold jQ;have hm:y.most=M:=hy.most;rw [CB,bO,bG]
 have one:dq zs 1=zs.take 1:=by
  cases zs with
  | nil=>simp at hn;omega
  | cons a l=>rfl
 by_cases h2:n<2
 ·rw [if_pos (by simp;omega)]
  have e:n=1:=by omega
  subst e;have e4:dd zs=zs:=by unfold dd;rw [hn,one,<-hn,US]
  refine⟨S',λO=> .list (O 0) (rC zs) 1,hle,λO=> .one (.dat (.acc hi hs (by rw [ID,SV]) ?_)),λO=>by have:=hk (O 0);rwa [e4,hn]at this⟩;intro j v d h3 h4;unfold ints at h3;unfold rC at h4;rw [jA]at h3 h4;cases hq:zs[j]? with
  | none=>rw [hq]at h3;cases h3
  | some z=>rw [hq]at h3 h4;injection h3 with h3;injection h4 with h4;subst h3 h4;exact .int
 ·rw [if_neg (by simp;omega)]
  obtain⟨p,hp⟩:=pV (show y.most≠0 by omega);rw [hp];exact aPa hn (by omega) hb hs hk hle hi p 1 (bI _) h1 (by omega) one
end
def Vo.may(v:Vo)(n:Int):Bool:= !(decide (v.fr<1) || decide (n<v.fr) || decide (v.rd<0) || decide (100<=v.rd) || decide (2048<v.tx.length))&&
 (if v.kd=2 then(!decide (v.tx=[]))&&decide (-1<=v.vl)&&decide (v.vl<v.rd)else if v.kd=3\/v.kd=4 then decide (v.vl=0)else false)
variable{ov:Qj}{M n b t:Nat}{x:VE}{S:Hp}{K:KV}{ty:TypeId}
theorem aPo(hM:M≠0)(hf:ov gU=none)(hx:Deep PP fT ov M (n+1) x){v:Vo}{z:Int}(hk:K (.bool (v.may z)) S):x.call gU [.agg v.vv,.int .i64 z] S K:=by
 refine hx.call hf λy hy=>?_;have hm:y.most≠0:=by rw [hy.most];exact hM
 rw [Di];unfold LW Vk XG Av zE rW jK ST uM wF gQ gG;refine fR rfl λi hi=>?_;have hr:aM S i (.row v.vv 94) i=some (.row v.vv 94):=aB;have hle:cP S (aM S i (.row v.vv 94)):= .aN hi;generalize aM S i (.row v.vv 94)=S1 at hr hle;have l0:LD i 0 S1 (.int .i64 v.fr):=aZ hr;have l1:LD i 1 S1 (.int .i64 v.rd):=aZ hr;have l2:LD i 2 S1 (.int .u8 (.ofNat v.kd)):=aZ hr;have l3:LD i 3 S1 (.int .i64 v.vl):=aZ hr;have l4:LD i 4 S1 (.str v.tx):=aZ hr;have fin:∀{bb:Bool},v.may z=bb->aQ (.bool bb) S1 K:=λe=>cL hle (by rw [<-e];exact hk);simp only [gW,gB,l0,bO,aL];have e1:∀a b:Int,(Int.ofNat 1=1):=λ_ _=>rfl;by_cases h1:v.fr<1
 ·simp only [show decide (v.fr<Int.ofNat 1)=true from aU h1,cZ,aX,if_true,bG]
  refine fin ?_;simp [Vo.may,h1]
 simp only [show decide (v.fr<Int.ofNat 1)=false from aR h1,aI,aX,if_false,bQ,l0,jR];by_cases h2:z<v.fr
 ·simp only [aU h2,cZ,aX,if_true,bG]
  refine fin ?_;simp [Vo.may,h2]
 simp only [aR h2,aI,aX,if_false,bQ,l1,bO];by_cases h3:v.rd<0
 ·simp only [show decide (v.rd<Int.ofNat 0)=true from aU h3,cZ,aX,if_true,bG]
  refine fin ?_;simp [Vo.may,h3]
 simp only [show decide (v.rd<Int.ofNat 0)=false from aR h3,aI,aX,if_false,bQ,l1,kG];by_cases h4:100<=v.rd
 ·simp only [show decide (Int.ofNat 100<=v.rd)=true from aU h4,cZ,if_true,bG]
  refine fin ?_;simp [Vo.may,h4]
 simp only [show decide (Int.ofNat 100<=v.rd)=false from aR h4,aI,aX,if_false,bQ,bG,l2,l4,jR,cV,LO,CQ];by_cases h5:2048<v.tx.length
 ·simp only [show decide (Int.ofNat 2048<Int.ofNat v.tx.length)=true from aU (by simp;omega),if_true]
  refine fin ?_;simp [Vo.may,h5]
 simp only [show decide (Int.ofNat 2048<Int.ofNat v.tx.length)=false from aR (by simp;omega),if_false,bQ]
 have hj:∀bb:Bool,(bb=true->v.may z=decide (v.vl=0))->(bb=false->v.may z=false)->lX y (.ptr i 0) (.bool bb) S1 K:=by
  intro bb q1 q2;rw [HZ y hm];unfold vJ gG;refine aH ?_;rw [bG];cases bb with
  | true=>
   rw [if_pos rfl,gW,gB,l3,cV];exact fin (q1 rfl)
  | false=>exact fin (q2 rfl)
 by_cases k2:v.kd=2
 ·simp only [show decide (Int.ofNat v.kd=Int.ofNat 2)=true from aU (by rw [k2]),if_true]
  by_cases k3:v.tx=[]
  ·simp only [aU k3,eH,qC,aX,if_false,bQ]
   refine fin ?_;simp [Vo.may,k2,k3]
  simp only [aR k3,iH,aI,aX,if_true,l3,kG];by_cases k4: -1<=v.vl
  ·simp only [show decide (Int.negSucc 0<=v.vl)=true from aU k4,aI,if_true,l3,l1,bO]
   refine fin ?_;simp [Vo.may,h1,h2,h3,h4,h5,k2,k3,k4]
  ·simp only [show decide (Int.negSucc 0<=v.vl)=false from aR k4,qC,if_false,bQ]
   refine fin ?_;simp [Vo.may,k2,k4]
 ·simp only [show decide (Int.ofNat v.kd=Int.ofNat 2)=false from aR (λe=>k2 (UW e)),if_false,bQ]
  by_cases k3:v.kd=3
  ·simp only [show decide (Int.ofNat v.kd=Int.ofNat 3)=true from aU (by rw [k3]),if_true]
   refine hj true (λ_=>?_) (λe=>by cases e);simp [Vo.may,h1,h2,h3,h4,h5,k3]
  ·simp only [show decide (Int.ofNat v.kd=Int.ofNat 3)=false from aR (λe=>k3 (UW e)),if_false,bQ]
   refine hj _ (λe=>?_) (λe=>?_)
   ·have k4:v.kd=4:=UW (MI e)
    simp [Vo.may,h1,h2,h3,h4,h5,k4]
   ·have k4:¬v.kd=4:=λq=>Bb e (by rw [q])
    simp [Vo.may,k2,k3,k4]
def Vo.key(v:Vo):V:= .agg [.int .i64 v.rd,.int .i64 v.fr,.int .u8 (.ofNat v.kd)]
def eV(v:Vo):V×V:=(v.key,.agg v.vv)
def Vo.at(v:Vo)(r f:Int)(k:Nat):Bool:=decide (v.rd=r)&&decide (v.fr=f)&&decide (v.kd=k)
structure Tal(S:Hp)(t m:Nat)(n:Int)(l:List Vo):Prop where
 row:S t=some (.row [.int .i64 n,.sP m] 160)
 map:S m=some (.map (l.map eV))
theorem Tal.le{S S':Hp}{t m:Nat}{n:Int}{l:List Vo}(a:Tal S t m n l)(h:cP S S'):Tal S' t m n l:=⟨h _ _ a.row,h _ _ a.map⟩
theorem aDj{r f:Int}{k:Nat}{v:Vo}:(V.agg [.int .i64 r,.int .i64 f,.int .u8 (.ofNat k)]=v.key)↔v.at r f k=true:=by
 unfold Vo.key Vo.at;simp only [bW,decide_eq_true_eq];constructor
 ·intro h
  injection h with h;injection h with h1 h;injection h with h2 h;injection h with h3 h;injection h1 with _ h1;injection h2 with _ h2;injection h3 with _ h3;exact⟨⟨h1.symm,h2.symm⟩,(UW h3).symm⟩
 ·rintro⟨⟨rfl,rfl⟩,rfl⟩;rfl
theorem Ij(l:List Vo)(r f:Int)(k:Nat):Gy (l.map eV) (.agg [.int .i64 r,.int .i64 f,.int .u8 (.ofNat k)])=(l.find? λv=>v.at r f k).map λv=> .agg v.vv:=by
 induction l with
 | nil=>rfl
 | cons v l ih=>
  simp only [xU,Gy,eV,List.find?_cons];by_cases h:v.at r f k=true
  ·rw [if_pos (aDj.2 h),h];rfl
  ·rw [if_neg (λe=>h (aDj.1 e))]
   simp only [Bool.not_eq_true]at h;rw [h];exact ih
theorem aK0(l:List Vo)(v:Vo)(h:l.find? (λu=>u.at v.rd v.fr v.kd)=none):Cv (l.map eV) v.key (.agg v.vv)=(l++[v]).map eV:=by
 induction l with
 | nil=>rfl
 | cons u l ih=>
  simp only [List.find?_cons]at h;split at h
  ·cases h
  ·rename_i hu
   simp only [xU,Cv,eV,List.cons_append];rw [if_neg (λe=>by rw [aDj.1 e]at hu;cases hu)];exact lT _ (ih h)
theorem Wo(l:List Vo):∀e∈l.map eV,WA (.many [.int .i64,.int .i64,.int .u8]) e.1:=by
 intro e he;obtain⟨v,_,rfl⟩:=mF.1 he;exact⟨rfl,rfl,rfl,trivial⟩
theorem aEA:RA PP 122=some .ptr:=by kernel_rfl
def OM:Vo:=⟨0,0,0,0,[]⟩
variable{ov:Qj}{M n b t m:Nat}{x:VE}{S:Hp}{K:KV}{ty:TypeId}
theorem aNm(hf:ov oJ=none)(hx:Deep PP fT ov M (n+1) x){z r f:Int}{l:List Vo}(a:Tal S t m z l)(hk:K (.tuple [.agg (((l.find? λv=>v.at r f 2).getD OM).vv),.bool (l.find? λv=>v.at r f 2).isSome]) S):x.call oJ [.ptr t 0,.int .i64 r,.int .i64 f] S K:=by
 refine hx.call hf λy hy=>?_;rw [NN];unfold AQ gN;refine dQ rfl λi hi=>?_;refine JD aEA ?_;rw [bG,if_neg (by simp),aV,gW];have eU:cP S (aM S i (.row OM.vv 94)):= .aN hi;have a1:=a.le eU;refine kN a1.row rfl ?_;have hb:∀{k:V->Prop},k (.agg [.int .i64 r,.int .i64 f,.int .u8 (.ofNat 2)])->fX Mn [(0,1,.int .i64 r),(1,1,.int .i64 f),(2,1,(.int .u8 (.ofNat 2)))] k:=λh=>⟨rfl,by simp,rfl,by simp [aE],rfl,by simp [aE],h⟩;refine hb ?_
 have go:∀(w:List V) (is:Bool),w.length=5->w.all pN=true->K (.tuple [.agg w,.bool is]) S->nF 0 (.tuple [.agg w,.bool is]) λv9=>nF 1 (.tuple [.agg w,.bool is]) λv10=>
  eI tR 94 (aM S i (.row OM.vv 94)) λv11 S=>
  mE 5 v11 v9 S λS=>cU 5 v11 S λv12 S=>mE 5 (.ptr i 0) v12 S λS=>cU 5 (.ptr i 0) S λpI _=>aQ (.tuple [pI,v10]) S K:=by
  intro w is hw ho hk;refine xM rfl ?_;refine xM rfl ?_;refine dQ (l:=OM.vv) rfl λj hj=>?_;obtain⟨Sl,hj0⟩:=AF hj;refine gJ aB ho hw rfl ?_;rw [cW];refine eX aB hw ?_;refine gJ (by rw [aC (dB Sl)];exact aB) ho hw rfl ?_;refine eX aB hw ?_;refine cL (S':=S) ?_ hk;rw [aHY Sl,cW];exact(cP.aN hi).trans (.aN (by rw [aC Sl];exact hj0))
 refine aAv a1.map ⟨rfl,rfl,rfl,trivial⟩ (Wo l) (λv hv=>?_) (λhv=>?_)
 ·rw [Ij]at hv
  cases hq:l.find? (λv=>v.at r f 2)with
  | none=>rw [hq]at hv;cases hv
  | some u=>
   rw [hq]at hv hk;injection hv with hv;subst hv;exact go u.vv true rfl rfl hk
 ·rw [Ij]at hv
  cases hq:l.find? (λv=>v.at r f 2)with
  | some u=>rw [hq]at hv;cases hv
  | none=>
   rw [hq]at hk;exact go OM.vv false rfl rfl hk
end Go.Am
namespace Go.Am
open Go.RowKit Go.MapKept Go.Proofs
def Wj(v:Vo):List Value:=[.int .i64 v.fr,.int .i64 v.rd,.int .u8 (.ofNat v.kd),.int .i64 v.vl,.string ⟨⟨v.tx⟩⟩]
def Aj(v:Vo):Value:= .agg ⟨Wj v⟩
def Vo.lt(a b:Vo):Bool:=decide (a.rd<b.rd) || (decide (a.rd=b.rd)&&(decide (a.fr<b.fr) || (decide (a.fr=b.fr)&&decide (a.kd<b.kd))))
def Hc(v:Vo):List Vo->List Vo
 | []=>[v]
 | u::l=>if v.lt u then v::u::l else u::Hc v l
def sortV:List Vo->List Vo
 | []=>[]
 | v::l=>Hc v (sortV l)
def Hd(p:Vo->Bool)(n:Nat)(l:List Vo):Nat:=((List.range (n+1)).filter λ(i:Nat)=>l.any λv=>p v&&decide (v.fr=(i:Int))).length
def Okl(n:Nat)(l:List Vo):Prop:=n<=1000000/\l.length<=1000000/\∀v∈l,0<=v.fr/\v.fr<=n
inductive EVo:List MapEntry->List Vo->Prop
 | nil:EVo [] []
 | cons {e:MapEntry} {v:Vo} {es:List MapEntry} {l:List Vo} (he:e.val=Aj v) (hf:∃f:Nat,v.fr=(f:Int)) (h:EVo es l):EVo (e::es) (v::l)
section
variable{c:Cx}{S:St}{C:Nat->Prop}
theorem aNh{v:Vo}{w:List Value}(r:kW c S C v.vv w):w=Wj v:=by
 obtain⟨a,w,rfl,r1,r⟩:=r.cons_inv;obtain⟨b,w,rfl,r2,r⟩:=r.cons_inv;obtain⟨d,w,rfl,r3,r⟩:=r.cons_inv;obtain⟨e,w,rfl,r4,r⟩:=r.cons_inv;obtain⟨f,w,rfl,r5,r⟩:=r.cons_inv;rw [r.nK];cases r1;cases r2;cases r3;cases r4;cases r5;rfl
theorem aNi{v:Vo}:kW c S C v.vv (Wj v):= .cons .int (.cons .int (.cons .int (.cons .int (.cons .str .nil))))
theorem aPb{l:List Vo}:∀{es:List MapEntry},EsR c S C (l.map eV) es->(∀v∈l,0<=v.fr)->EVo es l:=by
 induction l with
 | nil=>
  intro es r _;obtain rfl:es=[]:=mS (by have:=r.1;simpa using this.symm);exact .nil
 | cons v l ih=>
  intro es r hf;cases es with
  | nil=>have:=r.1;simp at this
  | cons e es=>
   have h0:=(r.2 0 (eV v) e rfl rfl).2
   have h1:e.val=Aj v:=by
    generalize e.val=w at h0;have h0:fI c S C (.agg v.vv) w:=h0;cases h0 with
    | @agg _ a' la ha=>have:=aNh (⟨la,ha⟩:kW c S C v.vv a');subst this;rfl
   exact .cons h1 ⟨v.fr.toNat,by have:=hf v (.head _);omega⟩ (ih r.tail λu hu=>hf u (.tail _ hu))
end
theorem EVo.len{es:List MapEntry}{l:List Vo}(h:EVo es l):es.length=l.length:=by induction h with | nil=>rfl | cons _ _ _ ih=>simp [ih]
theorem GF{v:Vo}{f:Nat}(hf:v.fr=(f:Int))(z:Bool)(k:Nat->Int->Int->List UInt8->Bool):LL (Aj v) z k=k f v.rd (.ofNat v.kd) v.tx:=by
 unfold Aj Wj;rw [hf];rfl
theorem aKM{n ck:Nat}:∀{es:List MapEntry} {l:List Vo} {lo:Nat},EVo es l->(∀v∈l,v.fr<=n)->(es.map (·.born)).Pairwise (· < ·)->(∀e∈es,lo<=e.born/\e.born<ck)->
 (fS (β:=Nat->Bool) (λ_=>true) (λe _ ih lo=>match Nat.ble lo e.born,Nat.blt e.born ck,LL e.val false (λf _ _ _=>Nat.ble f n)with
  | true,true,true=>ih (Nat.succ e.born)
  | _,_,_=>false) es lo)=true:=by
 intro es;induction es with
 | nil=>intro l lo _ _ _ _;rfl
 | cons e es ih=>
  intro l lo h hn hp hb;cases h with
  | @cons _ v _ l he hf h=>
   obtain⟨f,hf⟩:=hf;rw [aS];obtain⟨b1,b2⟩:=hb e (.head _);rw [show Nat.ble lo e.born=true from jT b1,show Nat.blt e.born ck=true from jT b2,he,GF hf,show Nat.ble f n=true from jT (by have:=hn v (.head _);omega)];simp only;rw [xU,tN]at hp;exact ih h (λu hu=>hn u (.tail _ hu)) hp.2 λx hx=>⟨hp.1 _ (List.mem_map_of_mem hx),(hb x (.tail _ hx)).2⟩
theorem aIL{pe:MapEntry->Nat->Bool}(es:List MapEntry)(i:Nat):hasB pe es i=es.any λe=>pe e i:=by
 induction es with
 | nil=>rfl
 | cons e es ih=>
  unfold hasB at ih ⊢;rw [aS,ih,Rw];cases pe e i<;>rfl
theorem EVo.any{pe:MapEntry->Nat->Bool}{p:Vo->Bool}{i:Nat}{es:List MapEntry}{l:List Vo}(h:EVo es l)(hp:∀(e:MapEntry) (v:Vo) (f:Nat),e.val=Aj v->v.fr=(f:Int)->pe e i=(p v&&Nat.beq f i)):(es.any λe=>pe e i)=l.any λv=>p v&&decide (v.fr=(i:Int)):=by
 induction h with
 | nil=>rfl
 | @cons e v es l he hf h ih=>
  obtain⟨f,hf⟩:=hf;rw [Rw,Rw,ih,hp e v f he hf,hf]
  congr 2
  rw [qU];simp only [Bl,decide_eq_true_eq];omega
theorem aDb{pe:MapEntry->Nat->Bool}{p:Vo->Bool}{n:Nat}{es:List MapEntry}{l:List Vo}(h:EVo es l)(hp:∀(e:MapEntry) (v:Vo) (f i:Nat),e.val=Aj v->v.fr=(f:Int)->pe e i=(p v&&Nat.beq f i))(K:Nat->Bool):aCs pe es n K=K (Hd p n l):=by
 unfold aCs Hd;rw [aD0]
 congr 1
 rw [gB]
 congr 2
 funext i
 rw [aIL,h.any λe v f=>hp e v f i]
theorem aEs{a b:MapEntry}{v u:Vo}{f g:Nat}(ha:a.val=Aj v)(hb:b.val=Aj u)(hf:v.fr=(f:Int))(hg:u.fr=(g:Int)):YY a b=v.lt u:=by
 unfold YY;rw [ha,hb,GF hf,GF hg];unfold Vo.lt;rw [hf,hg];simp only [GR,uV,uB];have e1:∀x y:Nat,Nat.blt x y=decide ((x:Int)<(y:Int)):=λx y=>by rw [qU];simp only [Nat.blt_eq,decide_eq_true_eq];omega
 have e2:∀x y:Nat,Nat.beq x y=decide ((x:Int)=(y:Int)):=λx y=>by rw [qU];simp only [Bl,decide_eq_true_eq];omega
 have e3:decide (Int.ofNat v.kd<Int.ofNat u.kd)=decide (v.kd<u.kd):=by rw [qU];simp
 have e4:(v.rd==u.rd)=decide (v.rd=u.rd):=by rw [qU];simp
 rw [e1,e2,e3,e4];cases decide (v.rd<u.rd)<;>cases decide ((f:Int)<(g:Int))<;>rfl
theorem aNj{e:MapEntry}{v:Vo}(he:e.val=Aj v)(hf:∃f:Nat,v.fr=(f:Int)):∀{s:List MapEntry} {l:List Vo} {k:List MapEntry->Bool},EVo s l->∃s',EVo s' (Hc v l)/\aFm e s k=k s':=by
 intro s;induction s with
 | nil=>intro l k h;cases h;exact⟨[e],.cons he hf .nil,rfl⟩
 | cons x t ih=>
  intro l k h;cases h with
  | @cons _ u _ l hx hg h=>
   obtain⟨f,hf'⟩:=hf;obtain⟨g,hg'⟩:=hg;have hl:=aEs he hx hf' hg';unfold Hc;unfold aFm at ih ⊢;rw [aS,hl];cases v.lt u with
   | true=>exact⟨_,.cons he ⟨f,hf'⟩ (.cons hx ⟨g,hg'⟩ h),rfl⟩
   | false=>
    obtain⟨s',h1,h2⟩:=ih (k:=λt'=>k (x::t')) h;exact⟨x::s',.cons hx ⟨g,hg'⟩ h1,h2⟩
theorem aKN:∀{es:List MapEntry} {l:List Vo} {k:List MapEntry->Bool},EVo es l->∃s,EVo s (sortV l)/\aAi es k=k s:=by
 intro es;induction es with
 | nil=>intro l k h;cases h;exact⟨[],.nil,rfl⟩
 | cons e es ih=>
  intro l k h;cases h with
  | @cons _ v _ l he hf h=>
   unfold aAi at ih ⊢;rw [aS];obtain⟨s,h1,h2⟩:=ih (k:=λs=>aFm e s k) h;obtain⟨s',h3,h4⟩:=aNj he hf (k:=k) h1;exact⟨s',h3,h2.trans h4⟩
theorem aIM{s:List MapEntry}{l:List Vo}(h:EVo s l)(hp:l.Pairwise λa b=>a.lt b=true):chainB s=true:=by
 induction h with
 | nil=>rfl
 | @cons e v es l he hf h ih=>
  rw [tN]at hp;have ih:=ih hp.2;unfold chainB at ih ⊢;rw [aS,ih];cases h with
  | nil=>rfl
  | @cons e2 u es l he2 Nn h=>
   obtain⟨f,hf'⟩:=hf;obtain⟨g,hg'⟩:=Nn;show dL (YY e e2) true false=true;rw [aEs he he2 hf' hg',hp.1 u (.head _)];rfl
theorem aKO{s:List MapEntry}{l:List Vo}(h:EVo s l):∀(k:List Value->Bool),Cn s k=k (l.flatMap Wj):=by
 induction h with
 | nil=>intro k;rfl
 | @cons e v es l he hf h ih=>
  intro k;unfold Cn at ih ⊢;rw [aS,he];show fS (β:=(List Value->Bool)->Bool) _ _ es (λt=>zN (Wj v) t k)=_;rw [ih,lE,Bf]
section
variable{P:Program}{B:Nat->Prop}{Sbz:St}{c:Cx}{h:Hp}{S:St}
theorem aKP{l:List Vo}{C:Nat->Prop}:kW c S C (voV l) (l.flatMap Wj):=by
 induction l with
 | nil=>exact .nil
 | cons v l ih=>exact aNi.app ih
theorem SW(s:VS P B Sbz c h S){t m n:Nat}{l:List Vo}(a:Tal h t m n l)(o:Okl n l){b:Nat}(hb:c.Z t=some b){k:Nat->List MapEntry->Bool}(hk:∀es,EVo es l->k n es=true):QR S (.pointer (some ⟨b,0,none⟩)) k=true:=by
 obtain⟨b',ws,a1,a2,a3,a4,a5⟩:=s.row t _ _ a.row;rw [hb]at a1;injection a1 with a1;subst a1;obtain⟨w1,ws,rfl,r1,a5⟩:=a5.cons_inv;obtain⟨w2,ws,rfl,r2,a5⟩:=a5.cons_inv;rw [a5.nK]at a4;cases r1;cases r2 with
 | sP hm=>
  obtain⟨bm,es,ck,q1,q2,q3,q4⟩:=s.aM5 a.map;rw [hm]at q1;injection q1 with q1;subst q1;have ev:=aPb q3 λv hv=>(o.2.2 v hv).1;unfold QR;simp only;rw [FP a4 (by simp)];show(oV S.h _ _)=true;rw [Vh q2];simp only;rw [kM,ev.len,show Nat.ble n 1000000=true from jT o.1,show Nat.ble l.length 1000000=true from jT o.2.1];have:aON n ck es=true:=aKM ev (λv hv=>(o.2.2 v hv).2) q4.1 λe he=>⟨gF _,q4.2 e he⟩;rw [this];exact hk es ev
def aEt(args:List V)(h:Hp)(K:KV):Prop:=∃(t m n:Nat) (l:List Vo) (r:Int),args=[.ptr t 0,.int .i64 r]/\Tal h t m n l/\Okl n l/\K (.int .i64 (.ofNat (Hd (λv=>decide (v.rd=r)) n l))) h
def aKQ(args:List V)(h:Hp)(K:KV):Prop:=∃(t m n:Nat) (l:List Vo) (r:Int) (kd:Nat),args=[.ptr t 0,.int .i64 r,.int .u8 (.ofNat kd)]/\Tal h t m n l/\Okl n l/\K (.int .i64 (.ofNat (Hd (λv=>decide (v.rd=r)&&decide (v.kd=kd)) n l))) h
def Wk(args:List V)(h:Hp)(K:KV):Prop:=∃(t m n:Nat) (l:List Vo) (r:Int) (kd:Nat) (tx:List UInt8),args=[.ptr t 0,.int .i64 r,.int .u8 (.ofNat kd),.str tx]/\Tal h t m n l/\Okl n l/\K (.int .i64 (.ofNat (Hd (λv=>decide (v.rd=r)&&decide (v.kd=kd)&&decide (v.tx=tx)) n l))) h
def Do(args:List V)(h:Hp)(K:KV):Prop:=∃(t m n:Nat) (l:List Vo),args=[.ptr t 0]/\Tal h t m n l/\Okl n l/\((sortV l).Pairwise λa b=>a.lt b=true)/\
 ((sortV l=[]->K .nil h)/\(sortV l≠[]->∀i,h i=none->K (.acc i (sortV l).length) (aM h i (.iX (voV (sortV l)) 94 (sortV l).length))))
theorem aEu(x y:Int):Hg x y=decide (x=y):=by rw [uV,qU];simp
theorem aLR(x y:Nat):Hg (Int.ofNat x) (Int.ofNat y)=decide (x=y):=by rw [aEu,qU];simp only [decide_eq_true_eq];exact⟨UW,λe=>by rw [e]⟩
theorem aF0{args:List V}{ws:List Value}{Kv:KV}{K:VK}(s:VS P B Sbz c h S)(ra:kW c S (cY B c h) args ws)(k:KR P B Sbz c h S Kv K)(hv:aEt args h Kv):Co ws S K=true:=by
 obtain⟨t,m,n,l,r,rfl,a,o,hv⟩:=hv;obtain⟨w1,ws,rfl,r1,ra⟩:=ra.cons_inv;obtain⟨w2,ws,rfl,r2,ra⟩:=ra.cons_inv;rw [ra.nK];cases r2;cases r1 with
 | ptr hb=>
  unfold Co;refine SW s a o hb λes ev=>?_;rw [aDb (p:=λv=>decide (v.rd=r)) ev (λe v f i he hf=>by rw [he,GF hf,uB,aEu])];exact k.here s .int hv
theorem aIN{args:List V}{ws:List Value}{Kv:KV}{K:VK}(s:VS P B Sbz c h S)(ra:kW c S (cY B c h) args ws)(k:KR P B Sbz c h S Kv K)(hv:aKQ args h Kv):Qe ws S K=true:=by
 obtain⟨t,m,n,l,r,kd,rfl,a,o,hv⟩:=hv;obtain⟨w1,ws,rfl,r1,ra⟩:=ra.cons_inv;obtain⟨w2,ws,rfl,r2,ra⟩:=ra.cons_inv;obtain⟨w3,ws,rfl,r3,ra⟩:=ra.cons_inv;rw [ra.nK];cases r2;cases r3;cases r1 with
 | ptr hb=>
  unfold Qe;refine SW s a o hb λes ev=>?_;rw [aDb (p:=λv=>decide (v.rd=r)&&decide (v.kd=kd)) ev (λe v f i he hf=>by rw [he,GF hf,uB,uB,aEu,aLR])];exact k.here s .int hv
theorem aDc{args:List V}{ws:List Value}{Kv:KV}{K:VK}(s:VS P B Sbz c h S)(ra:kW c S (cY B c h) args ws)(k:KR P B Sbz c h S Kv K)(hv:Wk args h Kv):SH ws S K=true:=by
 obtain⟨t,m,n,l,r,kd,tx,rfl,a,o,hv⟩:=hv;obtain⟨w1,ws,rfl,r1,ra⟩:=ra.cons_inv;obtain⟨w2,ws,rfl,r2,ra⟩:=ra.cons_inv;obtain⟨w3,ws,rfl,r3,ra⟩:=ra.cons_inv;obtain⟨w4,ws,rfl,r4,ra⟩:=ra.cons_inv;rw [ra.nK];cases r2;cases r3;cases r4;cases r1 with
 | ptr hb=>
  unfold SH;refine SW s a o hb λes ev=>?_
  rw [aDb (p:=λv=>decide (v.rd=r)&&decide (v.kd=kd)&&decide (v.tx=tx)) ev (λe v f i he hf=>by
   rw [he,GF hf,uB,uB,uB,aEu,aLR,FJ]
   congr 2
   rw [qU];simp)]
  exact k.here s .int hv
theorem aDd(hsz:bP P 94=some 5){args:List V}{ws:List Value}{Kv:KV}{K:VK}(s:VS P B Sbz c h S)(ra:kW c S (cY B c h) args ws)(k:KR P B Sbz c h S Kv K)(hv:Do args h Kv):SI ws S K=true:=by
 obtain⟨t,m,n,l,rfl,a,o,hp,hv0,hv1⟩:=hv;obtain⟨w1,ws,rfl,r1,ra⟩:=ra.cons_inv;rw [ra.nK];cases r1 with
 | ptr hb=>
  unfold SI;refine SW s a o hb λes ev=>?_
  obtain⟨ss,e1,e2⟩:=aKN (k:=λss=>match chainB ss with
   | true=>Cn ss λcs=>CU ss λn=>match n with
    | 0=>K (.slice none 0 0) S
    | n'+1=>uH S (.cells cs 94 (.grown [])) λi S=>K (.slice (some ⟨i,0,some 0⟩) (n'+1) (n'+1)) S
   | false=>false) ev
  refine e2.trans ?_;simp only [aIM e1 hp];rw [aKO e1,kM,e1.len];cases hs:sortV l with
  | nil=>
   exact k.here s .nil (hv0 hs)
  | cons v l'=>
   have wC:sortV l≠[]:=by rw [hs];simp
   obtain⟨i,i1,i2,i3⟩:=s.fresh;have hv:=hv1 wC i i1;rw [hs]at hv;show uH S (.cells ((v::l').flatMap Wj) 94 (.grown [])) (λi S=>K (.slice (some ⟨i,0,some 0⟩) (l'.length+1) (l'.length+1)) S)=true;rw [gZ];obtain⟨s1,s2,s3,s4⟩:=s.aCN i1 i2 i3 (vs:=voV (v::l')) (ws:=(v::l').flatMap Wj) (t:=94) (n:=l'.length+1) hsz (by rw [Wh];rfl) aKP;exact k _ _ _ _ _ s2 s3 s1 (.acc s4) hv
theorem WW{a b:Nat}(h:a≠b):Nat.beq a b=false:=by
 cases e:Nat.beq a b with
 | false=>rfl
 | true=>exact absurd (cT e) h
end
end Go.Am
namespace Go.Am
open Go.Proofs Go.RowKit
theorem mixed:Tryz.prog.follows .mixedOrders=true:=by kernel_rfl
theorem aHp:Tryz.prog.funcs.toList.all (λf=>f.name != "runtime.NumGoroutine")=true:=by kernel_rfl
theorem names:∀(f:FuncId) (fn:Func),Tryz.prog.funcs[f]? =some fn->fn.name≠ "runtime.NumGoroutine" :=by
 intro f fn h;have hm:fn∈Tryz.prog.funcs.toList:=wI (i:=f) (by rw [Ir];exact h);have:=dJ.1 aHp fn hm;simpa using this
def triedL:List Int:=[2,3,5,7,11,13,17,19,23,29,31,37]
def tabL:List Int:=[0,1,56,2,57,49,28,3,61,58,42,50,38,29,17,4,62,47,59,36,45,43,51,22,53,39,33,30,24,18,12,5,63,55,48,27,60,41,37,16,46,35,44,21,52,32,23,11,54,26,40,15,34,20,31,10,25,14,19,9,13,8,7,6]
def gs:List Kr:=[⟨0,triedL.map (Value.int .u64),134,12⟩,⟨1,tabL.map (Value.int .u8),180,64⟩]
theorem gsz:Tryz.prog.globals.size=4:=by kernel_rfl
theorem aDZ:GOk Tryz.prog gs:=by
 refine⟨by decide,λx hx=>?_⟩;rcases dA.1 hx with rfl | hx
 ·exact⟨by rw [gsz];decide,by kernel_rfl,by simp [bE]⟩
 ·rcases dA.1 hx with rfl | hx
  ·exact⟨by rw [gsz];decide,by kernel_rfl,by simp [bE]⟩
  ·cases hx
set_option maxRecDepth 1000000 in
theorem aAe:YK Tryz.prog ovT 1000 60 63 gs ([.int .u64 11],.bool true):=⟨by simp [jV,bE],rfl,by kernel_rfl⟩
set_option maxRecDepth 1000000 in
theorem aAf:YK Tryz.prog ovT 1000 60 63 gs ([.int .u64 23],.bool true):=⟨by simp [jV,bE],rfl,by kernel_rfl⟩
def aHq:List (List Value×Value):=[([.int .u64 11],.bool true),([.int .u64 23],.bool true)]
def ovP:FuncId->Option (List Value->St->VK->Bool):=AA 63 (Ey aHq) ovT
theorem aCo{w:World}(hsz:Tryz.prog.globals.size<=w.heap.size)(hl:Laid gs w):Gq Tryz.prog w ovP:=by
 refine yP (Hq (most:=1000) (n:=60) aDZ hsz hl (λw _ _=>aCp) names mixed (enters_of Tryz.func63 (by kernel_rfl) rfl) λx hx=>?_) aCp;unfold aHq at hx;rcases dA.1 hx with rfl | hx
 ·exact aAe
 ·rcases dA.1 hx with rfl | hx
  ·exact aAf
  ·cases hx
end Go.Am
namespace Go.Am
open Go.RowKit Go.MapKept Go.Proofs
section
variable{α:Type}
def aAl(m:Option (List α->Nat))(p:Option Addr)(c:Nat)(ls:List α):Value:=match m with
 | none=> .tuple #[]
 | some k=> .slice p (k ls) c
open Classical in
def OD(el:TypeId)(enc:α->Value)(g:List α->List α)(m:Option (List α->Nat))(args:List Value)(S:St)(K:VK):Bool:=
 match args with
 | [.slice p 0 c]=>K (aAl m p c []) S
 | [.slice (some ⟨i,0,some 0⟩) n c]=>if h:∃ls:List α,ls.length=n/\ls.length<=c/\ls.length<1000000/\∃rest olds,S.obj i=some (.cells (ls.map enc++rest) el (.grown olds))then pW S i 0 ((g h.choose).map enc) λS=>K (aAl m (some ⟨i,0,some 0⟩) c h.choose) S else false
 | _=>false
theorem aD1{U:Rn}{m:Option (List α->Nat)}(hm:∀k,m=some k->∀ls,k ls<=ls.length){p p':Option Addr}{c c':Nat}{ls:List α}(h:∀q,q<=ls.length->VR U (.slice p q c) (.slice p' q c')):VR U (aAl m p c ls) (aAl m p' c' ls):=by
 cases m with
 | none=>exact .tuple rfl λk v v' e _=>by simp at e
 | some k=>exact h _ (hm k rfl ls)
variable[Inhabited α]
structure aD2(P:Program)(f:FuncId)(enc:α->Value)(g:List α->List α)(m:Option (List α->Nat)):Prop where
 ent:∀(args:Array Value) (w:World),(callFunc f args).run P w= .ok (.enter f args) w
 nil:∀(p:Option Addr) (c:Nat) (w:World),Calls P f #[.slice p 0 c] w λe w'=>e= .returned (aAl m p c [])/\w'=w
 run:∀(b off c:Nat) (ls:List α) (w:World) (d:Array α),d.toList=ls->(∀j (hj:j<ls.length),w.cell? ⟨b,off+j,none⟩=some (enc ls[j])/\w.frozen? ⟨b,off+j,none⟩=false)->b<w.heap.size->ls.length<1000000->ls.length<=c->Calls P f #[.slice (some ⟨b,off,none⟩) ls.length c] w λe w'=>e= .returned (aAl m (some ⟨b,off,none⟩) c ls)/\∃n os,w'=Go.Sort.grow (Go.Sort.putRow enc (Go.Sort.ahead w n) b off (g ls).toArray) os
 len:∀ls,(g ls).length=ls.length
 cut:∀k,m=some k->∀ls,k ls<=ls.length
 flat:∀a,bE (enc a)=true
 one:∀a,(enc a).oneCell'=true
theorem Gv(enc:α->Value)(d:List α)(off:Nat)(cs:Array Value)(h:off+d.length<=cs.size):Go.Sort.putCells enc off d.toArray cs=⟨aE off (d.map enc) cs.toList⟩:=by
 apply Az;intro k;have:=fW off (d.map enc) cs.toList (by simpa using h) k;simp only [jB]at this;simp only [Go.Sort.putCells,Array.getElem?_mapIdx,List.size_toArray];refine Eq.trans ?_ (show(aE off (d.map enc) cs.toList)[k]? =(⟨aE off (d.map enc) cs.toList⟩:Array Value)[k]? by simp);rw [this];by_cases hk:off<=k/\k<off+d.length
 ·rw [if_pos hk,Aw (show k<cs.size by omega),zH,if_pos hk,jA,aP (show k-off<d.length by omega)]
  simp [show k-off<d.length by omega]
 ·rw [if_neg hk]
  cases hc:cs[k]? with
  | none=>rw [Option.map_none];simpa using hc.symm
  | some y=>rw [zH,if_neg hk];simpa using hc.symm
variable{P:Program}{w0:World}{f0 el:Nat}{enc:α->Value}{g:List α->List α}{m:Option (List α->Nat)}
theorem Lj(R:aD2 P f0 enc g m):iU P w0 (λf' args S K=>match Nat.beq f' f0 with | true=>OD el enc g m args S K | false=>false):=by
 intro f args S K U w dR hk h ha;dsimp only at hk;split at hk
 ·rename_i hf
  obtain rfl:f=f0:=by simpa using hf
  refine⟨R.ent ⟨dR⟩,?_⟩;unfold OD at hk;split at hk
  ·rename_i p c
   obtain⟨t',l',rfl,ht,ha⟩:=ha.cC;cases ha.jP
   obtain⟨p',c',rfl⟩:∃p' c',t'= .slice p' 0 c':=by
    cases ht with
    | flat q=>exact⟨_,_,rfl⟩
    | _=>exact⟨_,_,rfl⟩
   refine callsIn_wide.2 (Calls.mono (show Calls P f #[.slice p' 0 c'] w _ from R.nil p' c' w) ?_)
   rintro e w' ⟨rfl,rfl⟩
   exact⟨_,rfl,U,_,S,hk,aD1 R.cut λq hq=>by obtain rfl:q=0:=by simpa using hq
                                            exact ht,h,.refl U _⟩
  ·rename_i i n c _
   split at hk
   ·rename_i hex
    obtain⟨h1,hc1,h2,rest,olds,ho⟩:=hex.choose_spec;generalize hex.choose=ls at h1 hc1 h2 ho hk;obtain⟨t',l',rfl,ht,ha⟩:=ha.cC;cases ha.jP;cases ht with
    | flat q=>cases q
    | @oG _ _ _ _ c' L hL hcc hn he hm=>
     obtain⟨cs,t,fz,hb,hcell,pQ⟩:=h.cells ho hL;obtain⟨g1,g2,g3,g4,g5⟩:=pQ
     have Ed:∀j (hj:j<ls.length),cs[L.s+j]? =some (enc ls[j]):=λj hj=>by
      obtain⟨v',FG,hr⟩:=hcell j (enc ls[j]) (by rw [fB (by rw [jB];exact hj),jA,aP hj];rfl);rw [FG,hr.of_flat (R.flat _)]
     have OO:L.s+ls.length<=cs.size:=by
      rcases MH ls.length with hz | hz
      ·have:L.s+0+c'*L.m=cs.size:=by rw [he,g3]
       omega
      ·have:=Ed (ls.length-1) (by omega)
       have:=(nN.1 this).1;omega
     have hH:∀j (hj:j<ls.length),w.cell? ⟨L.b,L.s+j,none⟩=some (enc ls[j])/\w.frozen? ⟨L.b,L.s+j,none⟩=false:=λj hj=>by
      refine⟨cell_of hb (Ed j hj),?_⟩;have:=g2 (L.s+j) (by omega);unfold World.frozen?;simp only [hb];obtain⟨lo,hi⟩:=fz;rw [Bool.eq_false_iff];intro q;simp only [bW,decide_eq_true_eq]at q;exact this q
     have hc:=R.run L.b L.s c' ls w ls.toArray (by simp) hH (nN.1 hb).1 h2 (by omega)
     have fl:∀v∈(g ls).map enc,bE v=true:=λv hv=>by
      obtain⟨u,_,rfl⟩:=mF.1 hv;exact R.flat u
     have on:∀v∈(g ls).map enc,v.oneCell'=true:=λv hv=>by
      obtain⟨u,_,rfl⟩:=mF.1 hv;exact R.one u
     obtain⟨S',w1,k1,r1,s1,aQv⟩:=vQ (new':=(g ls).map enc) h hk hL (lD.flat fl) on;have hlen:((g ls).map enc).length=ls.length:=by rw [jB,R.len]
     have aKn:=iT (P:=P) ((g ls).map enc) w L.b (L.s+0) 0 cs t fz hb (by rw [hlen];omega) (λx _ hx=>g2 x (by rw [hlen]at hx;omega)) on;rw [aQv]at aKn;injection aKn with _ aKn;subst h1;refine callsIn_wide.2 (Calls.mono (show Calls P f #[.slice (some ⟨L.b,L.s+0,none⟩) ls.length c'] w _ from hc) ?_)
     rintro e w' ⟨rfl,m',os,rfl⟩
     have aHD:Below w1.heap.size w1 (Go.Sort.grow (Go.Sort.putRow enc (Go.Sort.ahead w m') L.b L.s (g ls).toArray) os):=by
      subst aKn;have hsz:(w.putObj L.b (.cells ⟨aE (L.s+0+0) ((g ls).map enc) cs.toList⟩ t fz)).heap.size=w.heap.size:=putObj_size _ _;have hhp:∀k,k<w.heap.size->(Go.Sort.grow (Go.Sort.putRow enc (Go.Sort.ahead w m') L.b L.s (g ls).toArray) os).heap[k]? =(Go.Sort.putRow enc (Go.Sort.ahead w m') L.b L.s (g ls).toArray).heap[k]? :=λk hk=>Go.Sort.heap_grow_old _ os (by rw [Go.Sort.size_putRow];exact hk);refine⟨rfl,rfl,rfl,by rw [hsz,Go.Sort.size_grow,Go.Sort.size_putRow];show w.heap.size<=w.heap.size+os.size;omega,λk hk=>?_⟩;rw [hsz]at hk;rw [hhp k hk];by_cases e:k=L.b
      ·subst e
       rw [mH hb];simp only [Go.Sort.putRow,Go.Sort.mapBlock,aBE,if_true];show Option.map _ w.heap[L.b]? =_;rw [hb,zH];simp only [Go.Sort.onCells];rw [Gv _ _ _ _ (by rw [R.len];exact OO)];rfl
      ·rw [iA e]
       simp only [Go.Sort.putRow,Go.Sort.mapBlock,aBE];rw [if_neg (dB e)];rfl
     obtain⟨q1,q2⟩:=r1.below aHD;exact⟨_,rfl,U,_,S',k1,aD1 R.cut λq hq=> .oG hL hcc (by omega) he hm,q1,s1.trans q2⟩
   ·cases hk
  ·cases hk
 ·cases hk
end
end Go.Am
namespace Go.Proofs
open Go.Shelf
def Tryz.sortI_ren:Go.Shelf.Ren:=⟨λ| 189=>111 | 125=>99 | 257=>161 | 128=>149 | 129=>150 | 294=>197 | 295=>198 | 296=>199 | 297=>200 | 298=>201 | 299=>202 | 216=>203 | 300=>204 | 301=>205 | 328=>224 | 329=>188 | 330=>189 | 331=>225 | 332=>226 | 215=>185 | 343=>241 | n=>n,λ| 28=>33 | 3=>3 | 46=>40 | 0=>0 | 51=>175 | 53=>29 | 4=>4 | 183=>167 | 182=>166 | 131=>172 | 5=>5 | 9=>9 | 218=>202 | 222=>206 | 228=>229 | 229=>230 | n=>n,λ| n=>n⟩
theorem Tryz.sortI:Go.Proofs.Lays.n189 Tryz.prog Tryz.sortI_ren:={
 mixed:=by kernel_rfl
 f125:=Tryz.func99.trans (congrArg some (by kernel_rfl))
 f128:=Tryz.func149.trans (congrArg some (by kernel_rfl))
 f129:=Tryz.func150.trans (congrArg some (by kernel_rfl))
 f189:=Tryz.func111.trans (congrArg some (by kernel_rfl))
 f215:=Tryz.func185.trans (congrArg some (by kernel_rfl))
 f216:=Tryz.func203.trans (congrArg some (by kernel_rfl))
 f257:=Tryz.func161.trans (congrArg some (by kernel_rfl))
 f294:=Tryz.func197.trans (congrArg some (by kernel_rfl))
 f295:=Tryz.func198.trans (congrArg some (by kernel_rfl))
 f296:=Tryz.func199.trans (congrArg some (by kernel_rfl))
 f297:=Tryz.func200.trans (congrArg some (by kernel_rfl))
 f298:=Tryz.func201.trans (congrArg some (by kernel_rfl))
 f299:=Tryz.func202.trans (congrArg some (by kernel_rfl))
 f300:=Tryz.func204.trans (congrArg some (by kernel_rfl))
 f301:=Tryz.func205.trans (congrArg some (by kernel_rfl))
 f328:=Tryz.func224.trans (congrArg some (by kernel_rfl))
 f329:=Tryz.func188.trans (congrArg some (by kernel_rfl))
 f330:=Tryz.func189.trans (congrArg some (by kernel_rfl))
 f331:=Tryz.func225.trans (congrArg some (by kernel_rfl))
 f332:=Tryz.func226.trans (congrArg some (by kernel_rfl))
 f343:=Tryz.func241.trans (congrArg some (by kernel_rfl))
 t0:=Tryz.underlying0
 a0:=Tryz.isAgg0
 z0:=Tryz.sizeOf0
 v0:=Tryz.zeroValue0
 t3:=Tryz.underlying3
 a3:=Tryz.isAgg3
 z3:=Tryz.sizeOf3
 v3:=Tryz.zeroValue3
 t4:=Tryz.underlying4
 a4:=Tryz.isAgg4
 z4:=Tryz.sizeOf4
 v4:=Tryz.zeroValue4
 t5:=Tryz.underlying5
 a5:=Tryz.isAgg5
 z5:=Tryz.sizeOf5
 v5:=Tryz.zeroValue5
 t9:=Tryz.underlying9
 a9:=Tryz.isAgg9
 z9:=Tryz.sizeOf9
 v9:=Tryz.zeroValue9
 t28:=Tryz.underlying33
 a28:=Tryz.isAgg33
 z28:=Tryz.sizeOf33
 v28:=Tryz.zeroValue33
 t46:=Tryz.underlying40
 a46:=Tryz.isAgg40
 z46:=Tryz.sizeOf40
 v46:=Tryz.zeroValue40
 t51:=Tryz.underlying175
 a51:=Tryz.isAgg175
 z51:=Tryz.sizeOf175
 v51:=Tryz.zeroValue175
 t53:=Tryz.underlying29
 a53:=Tryz.isAgg29
 z53:=Tryz.sizeOf29
 v53:=Tryz.zeroValue29
 t131:=Tryz.underlying172
 a131:=Tryz.isAgg172
 z131:=Tryz.sizeOf172
 v131:=Tryz.zeroValue172
 t182:=Tryz.underlying166
 a182:=Tryz.isAgg166
 z182:=Tryz.sizeOf166
 v182:=Tryz.zeroValue166
 t183:=Tryz.underlying167
 a183:=Tryz.isAgg167
 z183:=Tryz.sizeOf167
 v183:=Tryz.zeroValue167
 t218:=Tryz.underlying202
 a218:=Tryz.isAgg202
 z218:=Tryz.sizeOf202
 v218:=Tryz.zeroValue202
 t222:=Tryz.underlying206
 a222:=Tryz.isAgg206
 z222:=Tryz.sizeOf206
 v222:=Tryz.zeroValue206
 t228:=Tryz.underlying229
 a228:=Tryz.isAgg229
 z228:=Tryz.sizeOf229
 v228:=Tryz.zeroValue229
 t229:=Tryz.underlying230
 a229:=Tryz.isAgg230
 z229:=Tryz.sizeOf230
 v229:=Tryz.zeroValue230}
end Go.Proofs
namespace Go.Am
open Go.RowKit Go.MapKept Go.Proofs
def aHr(z:Int):Value:= .int .i64 z
def BY(ls:List Int):List Int:=ls.mergeSort λx y=>decide (x<=y)
theorem QS(ls:List Int):(BY ls).length=ls.length:=List.length_mergeSort ls
theorem aCx{α:Type}[Inhabited α]{enc:α->Value}{w:World}{b off:Nat}{ls:List α}(h:∀j (hj:j<ls.length),w.cell? ⟨b,off+j,none⟩=some (enc ls[j])/\w.frozen? ⟨b,off+j,none⟩=false):Go.Sort.Holds enc w b off ls.toArray:=λj hj=>by
 have hj:j<ls.length:=by simpa using hj
 obtain⟨h1,h2⟩:=h j hj;exact⟨by rw [h1];simp [hj],h2⟩
theorem aHK:aD2 Tryz.prog 111 aHr BY none:=by
 refine⟨λargs w=>enters_of Tryz.func111 (by kernel_rfl) rfl args w,λp c w=>Any.slices_Sort_int_none Tryz.sortI p c w,λb off c ls w d hd hH hb hl _=>?_,QS,λk e=>(by cases e),λ_=>rfl,λ_=>rfl⟩;exact Any.slices_Sort_int Tryz.sortI b off c ls w (aCx hH) hb (by omega)
theorem aHt{w0:World}:iU Tryz.prog w0 (λf' args S K=>match Nat.beq f' 111 with | true=>OD 3 aHr BY none args S K | false=>false):=Lj aHK
end Go.Am
set_option linter.unusedSimpArgs false
namespace Go.Am
open Go.RowKit Go.MapKept Go.Proofs Go.Lib
section
variable{P:Program}
theorem Uk{w w1:World}{t e:TypeId}{ty:TypeId}{k:Nat}(ht:P.underlying t=some (.slice e))(hk:bP P e=some k){a:Addr}{dLen dCap m:Nat}{x:Value}{cs:List Value}(hlen:∀w,(Builtin.lenOf x).run P w= .ok m w)(hc:(Builtin.firstCells k (Nat.min m dLen) x).run P w= .ok ⟨cs⟩ w)
 (hs:(storeCells a cs).run P w= .ok () w1):(Builtin.copy_ #[t,t] ty #[.slice (some a) dLen dCap,x]).run P w= .ok (goInt (Nat.min m dLen)) w1:=by
 simp only [Builtin.copy_,Rk,Ip,OW,bY,run_underlying ht,dU,hlen,gS hk,hc,hs,jU,goInt]
theorem SJ(a:Option Addr)(n c:Nat)(w:World):(Builtin.lenOf (.slice a n c)).run P w= .ok n w:=rfl
structure Row(w:World)(b off:Nat)(old:List Value)(cs:Array Value)(t:TypeId)(fz:Nat×Nat):Prop where
 at_:w.heap[b]? =some (.cells cs t fz)
 aCA:Bv cs.size fz
 has:∀(j:Nat) (v:Value),old[j]? =some v->cs[off+j]? =some v
theorem Row.size{w:World}{b off:Nat}{old:List Value}{cs:Array Value}{t:TypeId}{fz:Nat×Nat}(h:Row w b off old cs t fz)(j:Nat)(hj:j<old.length):off+j<cs.size:=(nN.1 (h.has j _ (aP hj))).1
theorem Row.drew{w:World}{b off:Nat}{old:List Value}{cs:Array Value}{t:TypeId}{fz:Nat×Nat}(h:Row w b off old cs t fz):Row w.drew b off old cs t fz:=⟨h.at_,h.aCA,h.has⟩
theorem Row.first{w:World}{b off:Nat}{old:List Value}{cs:Array Value}{t:TypeId}{fz:Nat×Nat}(h:Row w b off old cs t fz){k n c q:Nat}{l:List Value}{o:Nat}(hl:l.length=n*k)(hj:∀(j:Nat) (v:Value),l[j]? =some v->old[o+j]? =some v):(Builtin.firstCells k n (.slice (some ⟨b,off+o,none⟩) q c)).run P w= .ok ⟨l⟩ w:=by
 unfold Builtin.firstCells;refine run_loadCells (P:=P) _ l hl λj v e=>?_;rw [mB,uQ];exact cell_of h.at_ (h.has _ _ (hj _ _ e))
end
theorem Fg:Tryz.prog.underlying 69=some (.slice 75):=by kernel_rfl
theorem Ll:bP Tryz.prog 75=some 2:=by kernel_rfl
set_option maxHeartbeats 4000000 in
set_option maxRecDepth 100000 in
theorem aHI{w:World}{b off n c i vb vo vc:Nat}{cs cs2:Array Value}{t t2:TypeId}{fz fz2:Nat×Nat}{old new:List Value}(hi:i<n)(uA:n+1<=c)(aQB:n+1<=140737488355328)(hvb:vb≠b)(hth:Hk cs2.size fz2)(R:Row w b off old cs t fz)(R2:Row w vb vo new cs2 t2 fz2)
 (Ej:old.length=n*2) (MB:new.length=2) (OO:off+c*2<=cs.size) (h1:∀v∈old,v.oneCell'=true) (h2:∀v∈new,v.oneCell'=true):
 Calls Tryz.prog 164 #[.slice (some ⟨b,off,none⟩) n c,.int .i64 i,.slice (some ⟨vb,vo,none⟩) 1 vc] w λe w'=>
  e= .returned (.slice (some ⟨b,off,none⟩) (n+1) c)/\w'=(w.drew.putObj b (.cells ⟨aE (off+(i+1)*2) (old.drop (i*2)) cs.toList⟩ t fz)).putObj b (.cells ⟨aE (off+i*2) new (aE (off+(i+1)*2) (old.drop (i*2)) cs.toList)⟩ t fz):=by
 have XB:¬((i:Int)=(n:Int)):=by omega
 have hov:∀lb cb,(callFunc 206 #[.slice (some ⟨vb,vo,none⟩) 1 vc,.slice (some ⟨b,off+(i+1)*2,none⟩) lb cb]).run Tryz.prog w= .ok (.value (.bool false)) w:=λlb cb=>by
  rw [run_callFunc_extern Tryz.func206 (by kernel_rfl) (by kernel_rfl) (by kernel_rfl) (e:=Extern.SlicesOverlaps.overlaps #[69,69] #[4]) (by kernel_rfl),
   Lib.run_overlaps_apart w 69 4 75 Fg 2 (gS Ll) ⟨vb,vo,none⟩ ⟨b,off+(i+1)*2,none⟩ 1 vc lb cb hvb t2 t cs2.size cs.size (by simp [World.shape?,R2.at_]) (by simp [World.shape?,R.at_]) (by omega) ?_ ?_]
  ·rfl
  ·unfold World.frozen?
   simp only [R2.at_];obtain⟨lo,hi⟩:=fz2;rw [Bool.eq_false_iff];intro q;simp only [bW,decide_eq_true_eq]at q;exact hth vo (by have:=R2.size 1 (by omega);omega) q
  ·unfold World.frozen?
   simp only [R2.at_];obtain⟨lo,hi⟩:=fz2;rw [Bool.eq_false_iff];intro q;simp only [bW,decide_eq_true_eq]at q;exact hth cs2.size (bI _) q
 have Kk:(old.drop (i*2)).length=(n-i)*2:=by rw [qT,Ej,Bj]
 have aQC:∀ty dc sc,(Builtin.copy_ #[69,69] ty #[.slice (some ⟨b,off+(i+1)*2,none⟩) (n-i) dc,.slice (some ⟨b,off+i*2,none⟩) (n+1-i) sc]).run Tryz.prog w.drew= .ok (goInt ((n-i:Nat):Int)) (w.drew.putObj b (.cells ⟨aE (off+(i+1)*2) (old.drop (i*2)) cs.toList⟩ t fz)):=λty dc sc=>by
  have hm:Nat.min (n+1-i) (n-i)=n-i:=by simp only [Nat.min_def];split<;>omega
  have:=Uk (w:=w.drew) (ty:=ty) (dCap:=dc) (a:=⟨b,off+(i+1)*2,none⟩) (dLen:=n-i) (x:= .slice (some ⟨b,off+i*2,none⟩) (n+1-i) sc) Fg Ll (SJ _ _ _) (cs:=old.drop (i*2)) (w1:=w.drew.putObj b (.cells ⟨aE (off+(i+1)*2) (old.drop (i*2)) cs.toList⟩ t fz)) (by
   rw [hm];exact R.drew.first (o:=i*2) Kk λj v e=>by rw [kS]at e;exact e) (by
   have:=iT (P:=Tryz.prog) (old.drop (i*2)) w.drew b (off+(i+1)*2) 0 cs t fz R.at_ (by rw [Kk];have:=lB 2 uA;omega) (λx _ hx=>R.aCA x (by rw [Kk]at hx;have:=lB 2 uA;omega)) (λv hv=>h1 v (aBG hv));simpa using this)
  rw [hm]at this;exact this
 have aOP:∀(W:World),W.heap[b]? =some (.cells ⟨aE (off+(i+1)*2) (old.drop (i*2)) cs.toList⟩ t fz)->W.heap[vb]? =some (.cells cs2 t2 fz2)->∀ty dc,(Builtin.copy_ #[69,69] ty #[.slice (some ⟨b,off+i*2,none⟩) (n+1-i) dc,.slice (some ⟨vb,vo,none⟩) 1 vc]).run Tryz.prog W= .ok (goInt ((1:Nat):Int)) (W.putObj b (.cells ⟨aE (off+i*2) new (aE (off+(i+1)*2) (old.drop (i*2)) cs.toList)⟩ t fz)):=λW hW1 hW2 ty dc=>by
  have hm:Nat.min 1 (n+1-i)=1:=by simp only [Nat.min_def];split<;>omega
  have hsl:(aE (off+(i+1)*2) (old.drop (i*2)) cs.toList).length=cs.size:=by
   rw [kY _ _ _ (by rw [Kk];have:=lB 2 uA;show _<=cs.size;omega)];rfl
  have:=Uk (w:=W) (ty:=ty) (dCap:=dc) (a:=⟨b,off+i*2,none⟩) (dLen:=n+1-i) (x:= .slice (some ⟨vb,vo,none⟩) 1 vc) Fg Ll (SJ _ _ _) (cs:=new) (w1:=W.putObj b (.cells ⟨aE (off+i*2) new (aE (off+(i+1)*2) (old.drop (i*2)) cs.toList)⟩ t fz)) (by
   rw [hm];exact(show Row W vb vo new cs2 t2 fz2 from⟨hW2,R2.aCA,R2.has⟩).first (o:=0) (by omega) λj v e=>by rw [gB];exact e) (by
   have:=iT (P:=Tryz.prog) new W b (off+i*2) 0 ⟨aE (off+(i+1)*2) (old.drop (i*2)) cs.toList⟩ t fz hW1 (by show _<=List.length _;rw [hsl,MB];have:=lB 2 uA;omega) (λx _ hx=>R.aCA x (by rw [MB]at hx;have:=lB 2 uA;omega)) h2;simpa using this)
  rw [hm]at this;exact this
 have aQD:=aOP (w.drew.putObj b (.cells ⟨aE (off+(i+1)*2) (old.drop (i*2)) cs.toList⟩ t fz)) (mH (w:=w.drew) R.at_) ((iA (w:=w.drew) hvb).trans R2.at_);clear aOP;have mixed:Tryz.prog.follows .mixedOrders=true:=by kernel_rfl
 have hw1:IntKind.i64.wrap ((i:Int)+1)=(i:Int)+1:=by rw [IntKind.wrap_i64];omega
 have hw2:IntKind.i64.wrap ((n:Int)+1)=(n:Int)+1:=by rw [IntKind.wrap_i64];omega
 have Kc:(0:Int)<=(i:Int)+1:=by omega
 have PU:i<=n:=by omega
 have htn:((i:Int)+1).toNat=i+1:=by omega
 have aRz:((n:Int)+1).toNat=n+1:=by omega
 have TC:¬(c=i+1):=by omega
 have hb3:(i:Int)<=(n:Int)+1:=by omega
 have Ul:¬(c=i):=by omega
 have aQE:¬((c:Int)<(n:Int)+1):=by omega
 go_enter Tryz.func164,Tryz.ntmps164
 go_wp2_with (simp only [hov])
 go_region_law_o (refine step_copy_runI rfl _ _ 69 69 rfl _ _ (by simp [Act.eval,Act.put]) (by simp [Act.eval,Act.put]) (aQC _ _ _) ?_)
 go_wp2_with (at_builtin;refine wpList_copy_runI _ rfl _ _ 69 69 rfl _ _ rfl rfl (aQD _ _) ?_)
 go_ret
 exact⟨rfl,rfl⟩
theorem aKp:(Tryz.prog.info? 75).map (λi=>(i.zero,i.size,i.bytes))=some (some (.agg #[Value.int .i64 0,Value.string ⟨#[]⟩]),2,24):=by kernel_rfl
theorem aCz:∃i0:TypeInfo,Tryz.prog.info? 75=some i0/\i0.zero=some (.agg #[Value.int .i64 0,Value.string ⟨#[]⟩])/\i0.size=2/\i0.bytes=24:=by
 have h:=aKp;cases e:Tryz.prog.info? 75 with
 | none=>rw [e]at h;cases h
 | some i=>
  rw [e]at h;simp only [zH,Option.some.injEq,Prod.mk.injEq]at h;exact⟨i,rfl,h.1,h.2.1,h.2.2⟩
def zz(m:Nat):List Value:=(List.replicate m [Value.int .i64 0,Value.string ⟨#[]⟩]).flatten
theorem aCy(m:Nat):(zz m).length=m*2:=by unfold zz;simp
theorem aHG(a b:Nat):zz a++zz b=zz (a+b):=by unfold zz;rw [<-List.flatten_append,List.replicate_append_replicate]
set_option maxHeartbeats 4000000 in
set_option maxRecDepth 100000 in
theorem aHJ{w:World}{b off n c i vb vo vc:Nat}{cs cs2:Array Value}{t t2:TypeId}{fz fz2:Nat×Nat}{old new:List Value}(hi:i<n)(hnc:n<=c)(uA:c<n+1)(aRA:(n+1)*24<=140737488355328)(R:Row w b off old cs t fz)(R2:Row w vb vo new cs2 t2 fz2)
 (Ej:old.length=n*2) (MB:new.length=2) (h1:∀v∈old,v.oneCell'=true) (h2:∀v∈new,v.oneCell'=true):
 Calls Tryz.prog 164 #[.slice (some ⟨b,off,none⟩) n c,.int .i64 i,.slice (some ⟨vb,vo,none⟩) 1 vc] w λe w'=>
  e= .returned (.slice (some ⟨w.heap.size,0,none⟩) (n+1) (grownCap w (n+1) c 75))/\
  w'=(((w.alloc (.cells ⟨old.take (i*2)++zz (grownCap w (n+1) c 75-i)⟩ 75)).drew.putObj w.heap.size (.cells ⟨aE (i*2) new (old.take (i*2)++zz (grownCap w (n+1) c 75-i))⟩ 75 (0,0))).drew).putObj w.heap.size (.cells ⟨aE ((i+1)*2) (old.drop (i*2)) (aE (i*2) new (old.take (i*2)++zz (grownCap w (n+1) c 75-i)))⟩ 75 (0,0)):=by
 have XB:¬((i:Int)=(n:Int)):=by omega
 have hz3:(c:Int)<(n:Int)+1:=by omega
 have hGn:n+1<=grownCap w (n+1) c 75:=grownCap_ge w _ _ _
 have aQF:grownCap w (n+1) c 75<=9223372036854775807:=by
  have:=grownCap_le_maxLen w (n+1) c 75 (by unfold maxLen;omega);unfold maxLen at this;omega
 have htl:(old.take (i*2)).length=i*2:=by rw [jL,Ej];omega
 have Kk:(old.drop (i*2)).length=(n-i)*2:=by rw [qT,Ej,Bj]
 obtain⟨i0,hi0,hz0,Bt,hzb⟩:=aCz
 have hzz:∀m,Builtin.zeroCells (Value.agg #[Value.int .i64 0,Value.string ⟨#[]⟩]).cells m=(zz m).toArray:=λm=>by
  exact GN [Value.int .i64 0,Value.string ⟨#[]⟩] _ rfl m (by simp)
 have hkk:(n:Int)+1-(i:Int)=((n+1-i:Nat):Int):=by omega
 have hik:i+(n+1-i)=n+1:=by omega
 have hold:(Builtin.firstCells i0.size i (.slice (some ⟨b,off,none⟩) i c)).run Tryz.prog w.drew= .ok ((old.take (i*2)).toArray) w.drew:=by
  rw [Bt]
  exact R.drew.first (o:=0) htl λj v e=>by
   rw [kR]at e;split at e
   ·rw [gB];exact e
   ·cases e
 have hrz:∀ty,(Builtin.append_ #[69,3] ty #[.slice (some ⟨b,off,none⟩) i c,.int .i64 ((n:Int)+1-(i:Int))]).run Tryz.prog w=
  .ok (.slice (some ⟨w.heap.size,0,none⟩) (n+1) (grownCap w (n+1) c 75)) ((w.alloc (.cells ⟨old.take (i*2)++zz (grownCap w (n+1) c 75-i)⟩ 75)).drew):=λty=>by
  have h:=Lib.run_append_grow_zeros w 69 3 ty 75 i0 _ .i64 .i64 Fg (by kernel_rfl:Tryz.prog.underlying 3=some (.int .i64)) hi0 hz0 (some ⟨b,off,none⟩) i c (old.take (i*2)) hold (n+1-i) (by omega) (by omega) (by omega) (by omega) (by rw [hzb];omega) (by rw [hzb,hik];exact growslice_fits uA (by omega));rw [hik,hzz,hzz]at h
  have e:(old.take (i*2)).toArray++(zz (n+1-i)).toArray++(zz (grownCap w (n+1) c 75-(n+1))).toArray=(⟨old.take (i*2)++zz (grownCap w (n+1) c 75-i)⟩:Array Value):=by
   apply iR.1;simp only [Array.toList_append];rw [DW,aHG,show n+1-i+(grownCap w (n+1) c 75-(n+1))=grownCap w (n+1) c 75-i by omega]
  rw [e]at h;rw [hkk];exact h
 generalize hG:grownCap w (n+1) c 75=gg at hGn aQF hrz ⊢;have hrl:(old.take (i*2)++zz (gg-i)).length=gg*2:=by rw [bH,htl,aCy,<-mG];congr 1;omega
 generalize old.take (i*2)++zz (gg-i)=ROW at hrl hrz ⊢;have hbw:b<w.heap.size:=(nN.1 R.at_).1;have hvw:vb<w.heap.size:=(nN.1 R2.at_).1;generalize hW1:(w.alloc (.cells ⟨ROW⟩ 75)).drew=W1 at hrz ⊢;have hN:W1.heap[w.heap.size]? =some (.cells ⟨ROW⟩ 75 (0,0)):=by rw [<-hW1];show(w.heap.push _)[w.heap.size]? =_;simp
 have hO:∀k,k<w.heap.size->W1.heap[k]? =w.heap[k]? :=λk hk=>by rw [<-hW1];show(w.heap.push _)[k]? =_;rw [UP,if_neg (by omega)]
 have hG2:=lB 2 hGn
 have aQG:∀ty dc,(Builtin.copy_ #[69,69] ty #[.slice (some ⟨w.heap.size,i*2,none⟩) (n+1-i) dc,.slice (some ⟨vb,vo,none⟩) 1 vc]).run Tryz.prog W1= .ok (goInt ((1:Nat):Int)) (W1.putObj w.heap.size (.cells ⟨aE (i*2) new ROW⟩ 75 (0,0))):=λty dc=>by
  have hm:Nat.min 1 (n+1-i)=1:=by simp only [Nat.min_def];split<;>omega
  have:=Uk (w:=W1) (ty:=ty) (dCap:=dc) (a:=⟨w.heap.size,i*2,none⟩) (dLen:=n+1-i) (x:= .slice (some ⟨vb,vo,none⟩) 1 vc) Fg Ll (SJ _ _ _) (cs:=new) (w1:=W1.putObj w.heap.size (.cells ⟨aE (i*2) new ROW⟩ 75 (0,0))) (by
   rw [hm];exact(show Row W1 vb vo new cs2 t2 fz2 from⟨(hO vb hvw).trans R2.at_,R2.aCA,R2.has⟩).first (o:=0) (by omega) λj v e=>by rw [gB];exact e) (by
   have:=iT (P:=Tryz.prog) new W1 w.heap.size (i*2) 0 ⟨ROW⟩ 75 (0,0) hN (by show _<=ROW.length;rw [MB,hrl];omega) (λx _ hx=>by simp) h2;simpa using this)
  rw [hm]at this;exact this
 have hsl:(aE (i*2) new ROW).length=gg*2:=by rw [kY _ _ _ (by rw [MB,hrl];omega)];exact hrl
 have aQH:∀ty dc sc,(Builtin.copy_ #[69,69] ty #[.slice (some ⟨w.heap.size,(i+1)*2,none⟩) (n-i) dc,.slice (some ⟨b,off+i*2,none⟩) (n-i) sc]).run Tryz.prog ((W1.putObj w.heap.size (.cells ⟨aE (i*2) new ROW⟩ 75 (0,0))).drew)= .ok (goInt ((n-i:Nat):Int)) (((W1.putObj w.heap.size (.cells ⟨aE (i*2) new ROW⟩ 75 (0,0))).drew).putObj w.heap.size (.cells ⟨aE ((i+1)*2) (old.drop (i*2)) (aE (i*2) new ROW)⟩ 75 (0,0))):=λty dc sc=>by
  have hm:Nat.min (n-i) (n-i)=n-i:=Nat.min_self _;have TC:((W1.putObj w.heap.size (.cells ⟨aE (i*2) new ROW⟩ 75 (0,0))).drew).heap[b]? =some (.cells cs t fz):=((iA (w:=W1) (by omega)).trans (hO b hbw)).trans R.at_;have hn2:((W1.putObj w.heap.size (.cells ⟨aE (i*2) new ROW⟩ 75 (0,0))).drew).heap[w.heap.size]? =some (.cells ⟨aE (i*2) new ROW⟩ 75 (0,0)):=mH (w:=W1) hN;generalize (W1.putObj w.heap.size (.cells ⟨aE (i*2) new ROW⟩ 75 (0,0))).drew=W2 at TC hn2 ⊢
  have:=Uk (w:=W2) (ty:=ty) (dCap:=dc) (a:=⟨w.heap.size,(i+1)*2,none⟩) (dLen:=n-i) (x:= .slice (some ⟨b,off+i*2,none⟩) (n-i) sc) Fg Ll (SJ _ _ _) (cs:=old.drop (i*2)) (w1:=W2.putObj w.heap.size (.cells ⟨aE ((i+1)*2) (old.drop (i*2)) (aE (i*2) new ROW)⟩ 75 (0,0))) (by
   rw [hm];exact(show Row W2 b off old cs t fz from⟨TC,R.aCA,R.has⟩).first (o:=i*2) Kk λj v e=>by rw [kS]at e;exact e) (by
   have:=iT (P:=Tryz.prog) (old.drop (i*2)) W2 w.heap.size ((i+1)*2) 0 ⟨aE (i*2) new ROW⟩ 75 (0,0) hn2 (by show _<=List.length _;rw [Kk,hsl];omega) (λx _ hx=>by simp) (λv hv=>h1 v (aBG hv));simpa using this)
  rw [hm]at this;exact this
 have hGi:¬(gg=i):=by omega
 have aRB:¬(gg=i+1):=by omega
 have hci:¬(c=i):=by omega
 have hw1:IntKind.i64.wrap ((i:Int)+1)=(i:Int)+1:=by rw [IntKind.wrap_i64];omega
 have hw2:IntKind.i64.wrap ((n:Int)+1)=(n:Int)+1:=by rw [IntKind.wrap_i64];omega
 have hw3:IntKind.i64.wrap ((n:Int)+1-(i:Int))=(n:Int)+1-(i:Int):=by rw [IntKind.wrap_i64];omega
 have Kc:(0:Int)<=(i:Int)+1:=by omega
 have PU:i<=n:=by omega
 have htn:((i:Int)+1).toNat=i+1:=by omega
 have hb3:(i:Int)<=(n:Int):=by omega
 have mixed:Tryz.prog.follows .mixedOrders=true:=by kernel_rfl
 clear hkk hik hold hG hrl
 go_enter Tryz.func164,Tryz.ntmps164
 go_wp2_with (first
  | (at_builtin;refine Lib.wpList_append_run _ rfl _ _ _ _ rfl _ _ rfl rfl _ _ (hrz _) ?_)
  | (at_builtin;refine wpList_copy_runI _ rfl _ _ 69 69 rfl _ _ rfl rfl (aQG _ _) ?_))
 go_region_law_o (refine step_copy_runI rfl _ _ 69 69 rfl _ _ (by simp [Act.eval,Act.put]) (by simp [Act.eval,Act.put]) (aQH _ _ _) ?_)
 go_wp2
 go_ret
 exact⟨rfl,rfl⟩
set_option maxHeartbeats 4000000 in
set_option maxRecDepth 100000 in
theorem aD3{w w1:World}{base:Option Addr}{n c vb vo vc:Nat}{v1:Value}(hnc:n<=c)(hb0:base=none->n=0/\c=0)(aQB:n<=140737488355328)(dF:(Builtin.append_ #[69,69] 69 #[.slice base n c,.slice (some ⟨vb,vo,none⟩) 1 vc]).run Tryz.prog w= .ok v1 w1):
 Calls Tryz.prog 164 #[.slice base n c,.int .i64 n,.slice (some ⟨vb,vo,none⟩) 1 vc] w λe w'=>e= .returned v1/\w'=w1:=by
 have mixed:Tryz.prog.follows .mixedOrders=true:=by kernel_rfl
 go_enter Tryz.func164,Tryz.ntmps164
 cases base with
 | none=>
  obtain⟨h1,h2⟩:=hb0 rfl;subst h1 h2
  go_wp2_with (at_builtin;refine Lib.wpList_append_run _ rfl _ _ _ _ rfl _ _ rfl rfl _ _ dF ?_)
  go_ret
  exact⟨rfl,rfl⟩
 | some a=>
  obtain⟨ab,ao,asp⟩:=a
  go_wp2_with (at_builtin;refine Lib.wpList_append_run _ rfl _ _ _ _ rfl _ _ rfl rfl _ _ dF ?_)
  all_goals (go_ret;exact⟨rfl,rfl⟩)
end Go.Am
namespace Go.Am
open Go.RowKit Go.MapKept Go.Proofs
def aMJ(i:Nat)(new old:List Value)(K:VK):VK:=λs1 S1=>match s1 with
 | .slice (some ⟨b1,0,some 0⟩) m1 c1=>pW S1 b1 (i*2) (new++old.drop (i*2)) λS2=>K (.slice (some ⟨b1,0,some 0⟩) m1 c1) S2
 | _=>false
def Qc(args:List Value)(S:St)(K:VK):Bool:=
 match args with
 | [.slice base n c,.int .i64 (.ofNat i),.slice (some ⟨q,vo,none⟩) 1 vc]=>match EP (n+1) 24 with
  | true=>match Nat.beq i n with
   | true=>match base with
    | none=>match n,c with
     | 0,0=>pF Tryz.prog [69,69] (.slice none 0 0) (.slice (some ⟨q,vo,none⟩) 1 vc) S K
     | _,_=>false
    | some a=>match Nat.ble n c with
     | true=>pF Tryz.prog [69,69] (.slice (some a) n c) (.slice (some ⟨q,vo,none⟩) 1 vc) S K
     | false=>false
   | false=>match base with
    | some ⟨b,0,some 0⟩=>match Nat.blt i n with
     | true=>wJ S b λvs e ck=>match ck,Nat.beq e 75 with
      | .grown _,true=>wJ S q λ_ _ cq=>match cq with
       | .exact=>EQ S b 0 (n*2) λold=>EQ S q vo 2 λnew=>match rD gH old,rD gH new with
        | true,true=>pF Tryz.prog [69,69] (.slice (some ⟨b,0,some 0⟩) n c) (.slice (some ⟨q,vo,none⟩) 1 vc) S (aMJ i new old K)
        | _,_=>false
       | _=>false
      | _,_=>false
     | false=>false
    | _=>false
  | false=>false
 | _=>false
theorem aFt{o i n:Nat}{new old cs:List Value}(hi:i<n)(hn:new.length=2)(ho:old.length=n*2)(hc:o+(n+1)*2<=cs.length):
 aE (o+i*2) (new++old.drop (i*2)) (aE (o+n*2) new cs)=aE (o+i*2) new (aE (o+(i+1)*2) (old.drop (i*2)) cs):=by
 have hd:(old.drop (i*2)).length=(n-i)*2:=by rw [qT,ho,Bj]
 have e1:(n-i)*2+i*2=n*2:=by rw [<-mG];congr 1;omega
 have hl1:(aE (o+n*2) new cs).length=cs.length:=kY _ _ _ (by omega);have Hi:(aE (o+(i+1)*2) (old.drop (i*2)) cs).length=cs.length:=kY _ _ _ (by omega);apply uO;intro j;rw [fW _ _ _ (by rw [bH,hl1];omega),fW (o+n*2) new cs (by omega),fW _ _ _ (by rw [Hi];omega),fW _ _ _ (by omega),bH];by_cases h1:j<o+i*2
 ·rw [if_neg (by omega),if_neg (by omega),if_neg (by omega),if_neg (by omega)]
 ·by_cases h2:j<o+i*2+2
  ·rw [if_pos (by omega),if_pos (by omega),fB (by omega)]
  ·by_cases h3:j<o+(n+1)*2
   ·rw [if_pos (by omega),if_neg (by omega),if_pos (by omega),iG (by omega)]
    congr 1;omega
   ·rw [if_neg (by omega),if_neg (by omega),if_neg (by omega),if_neg (by omega)]
theorem aFu{i n g:Nat}{new old:List Value}(hi:i<n)(hn:new.length=2)(ho:old.length=n*2)(hg:n+1<=g):
 aE (i*2) (new++old.drop (i*2)) ((old++new)++zz (g-(n+1)))=aE ((i+1)*2) (old.drop (i*2)) (aE (i*2) new (old.take (i*2)++zz (g-i))):=by
 have hd:(old.drop (i*2)).length=(n-i)*2:=by rw [qT,ho,Bj]
 have ht:(old.take (i*2)).length=i*2:=by rw [jL,ho];omega
 have e1:(n-i)*2+i*2=n*2:=by rw [<-mG];congr 1;omega
 have ez:zz (g-i)=zz (n+1-i)++zz (g-(n+1)):=by rw [aHG];congr 1;omega
 have Hh:(zz (n+1-i)).length=(n+1-i)*2:=aCy _;have e2:(n+1-i)*2+i*2=(n+1)*2:=by rw [<-mG];congr 1;omega
 rw [ez]
 have hl1:(aE (i*2) new (old.take (i*2)++(zz (n+1-i)++zz (g-(n+1))))).length=(n+1)*2+(zz (g-(n+1))).length:=by
  rw [kY _ _ _ (by simp only [bH];omega)];simp only [bH];omega
 apply uO;intro j;rw [fW _ _ _ (by simp only [bH];omega),fW _ _ _ (by rw [hl1];omega),fW _ _ _ (by simp only [bH];omega)];simp only [bH];by_cases h1:j<i*2
 ·rw [if_neg (by omega),if_neg (by omega),if_neg (by omega),DW,fB (by omega),fB (by omega),kR,if_pos h1]
 ·by_cases h2:j<i*2+2
  ·rw [if_pos (by omega),if_neg (by omega),if_pos (by omega),fB (by omega)]
  ·by_cases h3:j<(n+1)*2
   ·rw [if_pos (by omega),if_pos (by omega),iG (by omega)]
    congr 1;omega
   ·rw [if_neg (by omega),if_neg (by omega),if_neg (by omega)]
    rw [iG (by rw [bH];omega),iG (by omega),iG (by omega)]
    congr 1;simp only [bH];omega
section
variable{w0:World}
theorem aAm{w w':World}(h1:w'.os=w.os)(h2:w'.tape=w.tape)(h3:w'.output=w.output)(h4:w'.heap=w.heap):Below w.heap.size w w':=⟨h1,h2,h3,by rw [h4];exact bI _,λk _=>by rw [h4]⟩
theorem Qg{w:World}{b:Nat}{x y:Obj}:((w.putObj b x).putObj b y).heap=(w.putObj b y).heap:=by
 apply Az;intro k;by_cases h:k=b
 ·subst h
  cases e:w.heap[k]? with
  | none=>
   have hs:w.heap.size<=k:=by simpa using e
   rw [aBD (by rw [putObj_size,putObj_size];exact hs),aBD (by rw [putObj_size];exact hs)]
  | some o=>rw [mH (mH e),mH e]
 ·rw [iA h,iA h,iA h]
theorem aHs:iU Tryz.prog w0 (λf' args S K=>match Nat.beq f' 164 with | true=>Qc args S K | false=>false):=by
 intro f args S K U w dR hk h ha;dsimp only at hk;split at hk
 ·rename_i hf
  obtain rfl:f=164:=by simpa using hf
  refine⟨enters_of Tryz.func164 (by kernel_rfl) rfl ⟨dR⟩,?_⟩;unfold Qc at hk;split at hk
  ·rename_i base n c i q vo vc
   obtain⟨s',l1,rfl,hs,ha1⟩:=ha.cC;obtain⟨i',l2,rfl,hi,ha2⟩:=ha1.cC;obtain⟨x',l3,rfl,hx,ha3⟩:=ha2.cC;obtain rfl:=ha3.jP;obtain rfl:=hi.of_flat rfl;split at hk
   ·rename_i uA
    have uA:=Xn uA
    obtain⟨L2,c2,Sq,rfl,Ht⟩:∃L2 c2,U q=some L2/\x'= .slice (some ⟨L2.b,L2.s+vo,none⟩) 1 c2/\c2=vc:=by
     rcases hx.jC with ⟨L,c',hL,rfl,⟨_,e⟩ | ⟨e,_⟩⟩ | ⟨⟨_,e⟩,_⟩
     ·exact⟨L,c',hL,rfl,e⟩
     ·cases e
     ·cases e
    split at hk
    ·
      rename_i PU;obtain rfl:=cT PU;split at hk
      ·split at hk
       ·obtain rfl:=hs.of_flat rfl
        obtain⟨U',v,S',v',w',hk,dF,hv,hr,Xe⟩:=CN (ts:= #[69,69]) (ty:=69) h hk hs hx;refine callsIn_wide.2 ((aD3 (bI _) (λ_=>⟨rfl,rfl⟩) (by omega) dF).mono ?_)
        rintro e w'' ⟨rfl,rfl⟩
        exact⟨_,rfl,U',_,S',hk,hv,hr,Xe⟩
       ·cases hk
      ·rename_i a
       split at hk
       ·rename_i hle
        have hle:=aW hle
        obtain⟨a',c',rfl,hc'⟩:∃a' c',s'= .slice (some a') i c'/\i<=c':=by
         obtain⟨ab,ao,asp⟩:=a;rcases hs.jC with ⟨L,c',hL,rfl,⟨_,e⟩ | ⟨_,e1,e2,_⟩⟩ | ⟨_,rfl,rfl,a',c',rfl⟩
         ·exact⟨_,c',rfl,by omega⟩
         ·exact⟨_,c',rfl,by omega⟩
         ·exact⟨a',c',rfl,gF _⟩
        obtain⟨U',v,S',v',w',hk,dF,hv,hr,Xe⟩:=CN (ts:= #[69,69]) (ty:=69) h hk hs hx;refine callsIn_wide.2 ((aD3 hc' (λe=>by cases e) (by omega) dF).mono ?_)
        rintro e w'' ⟨rfl,rfl⟩
        exact⟨_,rfl,U',_,S',hk,hv,hr,Xe⟩
       ·cases hk
    ·
      split at hk
      ·rename_i b
       split at hk
       ·rename_i hlt
        have PU:i<n:=aW hlt;obtain⟨vs,e,ck,ho,hk⟩:=uZ hk;split at hk
        ·rename_i olds aQw
         obtain rfl:=cT aQw;obtain⟨vs2,e2,cq,wK,hk⟩:=uZ hk;split at hk
         ·obtain⟨vsA,eA,ckA,hoA,aQx,hk⟩:=sL hk
          rw [ho]at hoA;injection hoA with hoA;injection hoA with q1 q2 q3;subst q1 q2 q3;obtain⟨vsB,eB,ckB,hoB,aQy,hk⟩:=sL hk;rw [wK]at hoB;injection hoB with hoB;injection hoB with q1 q2 q3;subst q1 q2 q3;split at hk
          ·rename_i aD4 aD5
           rw [jZ]at aD4 aD5
           obtain⟨L,c',hL,rfl,hcc,hnc,Yb,hmp⟩:∃L c',U b=some L/\s'= .slice (some ⟨L.b,L.s+0,none⟩) n c'/\c<=c'/\n<=c/\L.s+0+c'*L.m=L.e/\0<L.m:=by
            rcases hs.jC with ⟨L,c',hL,rfl,⟨e,_⟩ | ⟨_,e1,e2,e3,e4⟩⟩ | ⟨⟨_,e⟩,_⟩
            ·cases e
            ·exact⟨L,c',hL,rfl,e1,e2,e3,e4⟩
            ·cases e
           obtain⟨cs,t,fz,hb,hcv,uY,Pl,hLe,hLm,_⟩:=h.cells ho hL;obtain⟨cs2,t2,fz2,TC,aRy,aQz,hs0,aQA,aHH,_⟩:=h.cells wK Sq;have hLm:L.m=2:=by rw [Ll]at hLm;injection hLm with hLm;exact hLm.symm
           obtain⟨old,Ej,aAn,aMK⟩:=h.yK ho hL aQx;obtain⟨new,MB,aFv,aML⟩:=h.yK wK Sq aQy;have aMM:=LE Ej (dJ.1 aD4);have aKo:=LE MB (dJ.1 aD5);have R:Row w L.b (L.s+0) old cs t fz:=⟨hb,Pl,λj v e=>by have:=aMK j v e;rw [mB]at this;simpa [World.cell?,hb]using this⟩;have R2:Row w L2.b (L2.s+vo) new cs2 t2 fz2:=⟨TC,aHH.to,λj v e=>by have:=aML j v e;rw [mB]at this;simpa [World.cell?,TC]using this⟩
           have hvb:L2.b≠L.b:=λe=>by
            have wC:q≠b:=λe=>by subst e;rw [ho]at wK;injection wK with wK;injection wK with _ _ wK;cases wK
            rcases h.sep q b _ _ L2 L wC wK ho rfl rfl Sq hL e with ⟨g1,_⟩ | g1 | g1
            ·cases g1
            ·cases g1
            ·obtain⟨_,g2⟩:=h.old b vs 75 olds ho q g1
             rcases g2 _ wK with g3 | ⟨ws,u,g3,_⟩
             ·cases g3
             ·injection g3 with _ _ g3;cases g3
           obtain⟨U1,s1,S1,v1,w1,hk,dF,hv1,Xd,Ym⟩:=CN (ts:= #[69,69]) (ty:=69) h hk hs hx;unfold aMJ at hk;split at hk
           ·rename_i b1 m1 c1
            obtain⟨L1,c1',Sz,rfl,hc1⟩:∃L1 c1',U1 b1=some L1/\v1= .slice (some ⟨L1.b,L1.s+0,none⟩) m1 c1'/\True:=by
             rcases hv1.jC with ⟨L,c',hL,rfl,_⟩ | ⟨⟨_,e⟩,_⟩
             ·exact⟨L,c',hL,rfl,trivial⟩
             ·cases e
            have hvn:lD U1 (List.take 2 (List.drop vo vs2)++(List.take (n*2) (List.drop 0 vs)).drop (i*2)) (new++old.drop (i*2)):=(MB.mono Ym.ext).append ((Ej.mono Ym.ext).drop _)
            have aMN:∀v∈new++old.drop (i*2),v.oneCell'=true:=λv hv=>by
             rcases uP.1 hv with hv | hv
             ·exact aKo v hv
             ·exact aMM v (aBG hv)
            obtain⟨S2,w2,hk,hr2,aJO,aD6⟩:=vQ Xd hk Sz hvn aMN;obtain⟨i0,hi0,hz0,Bt,hzb⟩:=aCz;have hlen:∀w,(Builtin.lenOf (.slice (some ⟨L2.b,L2.s+vo,none⟩) 1 c2)).run Tryz.prog w= .ok 1 w:=λw=>rfl;have Bw:Jh (Tryz.prog.underlying 69)=true:=by kernel_rfl
            have hfc:∀W:World,W.heap=w.heap->(Builtin.firstCells i0.size 1 (.slice (some ⟨L2.b,L2.s+vo,none⟩) 1 c2)).run Tryz.prog W= .ok ⟨new⟩ W:=λW hW=>by
             rw [Bt];exact(show Row W L2.b (L2.s+vo) new cs2 t2 fz2 from⟨by rw [hW];exact TC,R2.aCA,R2.has⟩).first (o:=0) aFv λj v e=>by rw [gB];exact e
            rw [hLm]at Yb;have Si:L.s+0+c'*2<=cs.size:=by omega
            by_cases hrm:n+1<=c'
            ·
              have hm2:=lB 2 hrm;have hsc:=iT (P:=Tryz.prog) new w L.b (L.s+0+n*2) 0 cs t fz hb (by omega) (λx _ hx=>Pl x (by omega)) aKo;have hra:=FK (P:=Tryz.prog) (ts:= #[69,69]) (ty:=69) (t:=69) (tx:=69) (e:=75) (w:=w) (base:=some ⟨L.b,L.s+0,none⟩) (sLen:=n) (sCap:=c') rfl rfl Fg Bw hi0 hlen hrm (hfc w rfl) (w1:=w.putObj L.b (.cells ⟨aE (L.s+0+n*2) new cs.toList⟩ t fz)) (λa e=>by injection e with e;subst e;rw [mB,Bt];simpa using hsc) (λe=>by cases e);rw [hra]at dF;injection dF with g1 g2;injection g1 with g1 g3 g4;injection g1 with g1;injection g1 with g1 g5;subst g2 g3 g4;have hsl:(aE (L.s+0+n*2) new cs.toList).length=cs.size:=kY _ _ _ (by show _<=cs.size;omega);have Kk:(old.drop (i*2)).length=(n-i)*2:=by rw [qT,aAn,Bj]
              have e1:(n-i)*2+i*2=n*2:=by rw [<-mG];congr 1;omega
              have aMO:=iT (P:=Tryz.prog) (new++old.drop (i*2)) (w.putObj L.b (.cells ⟨aE (L.s+0+n*2) new cs.toList⟩ t fz)) L.b (L.s+0+i*2) 0 ⟨aE (L.s+0+n*2) new cs.toList⟩ t fz (mH hb) (by show _<=List.length _;rw [hsl,bH];omega) (λx _ hx=>Pl x (by rw [bH]at hx;omega)) aMN;have e0:L1.s+i*2=L.s+0+i*2:=by omega
              rw [<-g1,e0,aMO]at aD6;injection aD6 with _ g6
              have aHD:Below w2.heap.size w2 ((w.drew.putObj L.b (.cells ⟨aE (L.s+0+(i+1)*2) (old.drop (i*2)) cs.toList⟩ t fz)).putObj L.b (.cells ⟨aE (L.s+0+i*2) new (aE (L.s+0+(i+1)*2) (old.drop (i*2)) cs.toList)⟩ t fz)):=by
               subst g6;refine aAm rfl rfl rfl ?_;rw [Qg,Qg];have:=aFt (o:=L.s+0) PU aFv aAn (show L.s+0+(n+1)*2<=cs.toList.length by show _<=cs.size;omega);simp only [MJ]at this ⊢;rw [this];rfl
              obtain⟨r1,r2⟩:=hr2.below aHD;refine callsIn_wide.2 ((aHI PU hrm uA.2 hvb aHH R R2 aAn aFv Si aMM aKo).mono ?_)
              rintro e w'' ⟨rfl,rfl⟩
              have ev:Value.slice (some ⟨L.b,L.s+0,none⟩) (n+1) c'= .slice (some ⟨L1.b,L1.s+0,none⟩) (n+1) c':=by rw [g1,g5]
              exact⟨_,lT Ending.returned ev,U1,_,S2,hk,hv1,r1,(Ym.trans aJO).trans r2⟩
            ·
              have hold:(Builtin.firstCells i0.size n (.slice (some ⟨L.b,L.s+0,none⟩) n c')).run Tryz.prog w.drew= .ok ⟨old⟩ w.drew:=by
               rw [Bt];exact R.drew.first (o:=0) aAn λj v e=>by rw [gB];exact e
              have hra:=FL (P:=Tryz.prog) (ts:= #[69,69]) (ty:=69) (t:=69) (tx:=69) (e:=75) (w:=w) (base:=some ⟨L.b,L.s+0,none⟩) (sLen:=n) (sCap:=c') (olds:=old) (news:=new) rfl rfl Fg Bw hi0 hz0 hlen (by omega) (by rw [hzb];exact uA) hold (hfc w.drew rfl);rw [hra]at dF;injection dF with g1 g2;injection g1 with g1 g3 g4;injection g1 with g1;injection g1 with g1 g5;have hG:=grownCap_ge w (n+1) c' 75;generalize hGe:grownCap w (n+1) c' 75=gg at g2 g4 hG;subst g3 g4;have ezz:(List.replicate (gg-(n+1)) (Value.agg #[Value.int .i64 0,Value.string ⟨#[]⟩]).cells.toList).flatten=zz (gg-(n+1)):=rfl;rw [ezz]at g2;have hN:w1.heap[w.heap.size]? =some (.cells ⟨(old++new)++zz (gg-(n+1))⟩ 75 (0,0)):=by rw [<-g2];show(w.heap.push _)[w.heap.size]? =_;simp
              have hrl:((old++new)++zz (gg-(n+1))).length=gg*2:=by
               simp only [bH,aAn,aFv,aCy];have:(n+1)*2+(gg-(n+1))*2=gg*2:=by rw [<-mG];congr 1;omega
               omega
              have Kk:(old.drop (i*2)).length=(n-i)*2:=by rw [qT,aAn,Bj]
              have e1:(n-i)*2+i*2=n*2:=by rw [<-mG];congr 1;omega
              have hG2:=lB 2 hG;have aMO:=iT (P:=Tryz.prog) (new++old.drop (i*2)) w1 w.heap.size (0+0+i*2) 0 ⟨(old++new)++zz (gg-(n+1))⟩ 75 (0,0) hN (by show _<=List.length _;rw [hrl,bH];omega) (λx _ hx=>by simp) aMN;have e0:L1.s+i*2=0+0+i*2:=by omega
              rw [<-g1,e0,aMO]at aD6;injection aD6 with _ g6;have aOO:=aHJ (vc:=c2) PU (tP hnc hcc) (by omega) uA.1 R R2 aAn aFv aMM aKo;rw [hGe]at aOO
              have aHD:Below w2.heap.size w2 ((((w.alloc (.cells ⟨old.take (i*2)++zz (gg-i)⟩ 75)).drew.putObj w.heap.size (.cells ⟨aE (i*2) new (old.take (i*2)++zz (gg-i))⟩ 75 (0,0))).drew).putObj w.heap.size (.cells ⟨aE ((i+1)*2) (old.drop (i*2)) (aE (i*2) new (old.take (i*2)++zz (gg-i)))⟩ 75 (0,0))):=by
               subst g6;rw [<-g2];refine aAm rfl rfl rfl ?_;rw [<-aFu PU aFv aAn hG];apply Az;intro k;by_cases h:k=w.heap.size
               ·subst h
                have p1:∀(x y:Obj),((w.alloc x).drew.putObj w.heap.size y).heap[w.heap.size]? =some y:=λx y=>mH (w:=(w.alloc x).drew) (y:=x) (by show(w.heap.push _)[w.heap.size]? =_;simp);rw [mH (w:=((w.alloc _).drew.putObj w.heap.size _).drew) (p1 _ _)];rw [mH (y:= .cells ⟨(old++new)++zz (gg-(n+1))⟩ 75 (0,0)) (by show(w.heap.push _)[w.heap.size]? =_;simp)];simp
               ·rw [iA h,iA h]
                show((w.alloc _).drew.putObj w.heap.size _).heap[k]? =_;rw [iA h];show(w.heap.push _)[k]? =(w.heap.push _)[k]?;rw [UP,UP,if_neg h,if_neg h]
              obtain⟨r1,r2⟩:=hr2.below aHD;refine callsIn_wide.2 (aOO.mono ?_)
              rintro e w'' ⟨rfl,rfl⟩
              have ev:Value.slice (some ⟨w.heap.size,0,none⟩) (n+1) gg= .slice (some ⟨L1.b,L1.s+0,none⟩) (n+1) gg:=by rw [g1,<-g5]
              exact⟨_,lT Ending.returned ev,U1,_,S2,hk,hv1,r1,(Ym.trans aJO).trans r2⟩
           ·cases hk
          ·cases hk
         ·cases hk
        ·cases hk
       ·cases hk
      ·cases hk
   ·cases hk
  ·cases hk
 ·cases hk
end
end Go.Am
namespace Go.Am
open Go.Proofs Go.RowKit
set_option maxRecDepth 1000000 in
theorem aAg:YK Tryz.prog ovP 1000 60 27 gs ([.agg #[.int .u64 23,.int .u64 11,.int .u64 4,.int .u64 9,.int .i64 5,.int .i64 4,.int .i64 1,.int .i64 1,.int .i64 1,.int .i64 1,.int .i64 1,.int .i64 1]],.bool true):=⟨by simp [jV,bE],rfl,by kernel_rfl⟩
def aCq:List (List Value×Value):=[([.agg #[.int .u64 23,.int .u64 11,.int .u64 4,.int .u64 9,.int .i64 5,.int .i64 4,.int .i64 1,.int .i64 1,.int .i64 1,.int .i64 1,.int .i64 1,.int .i64 1]],.bool true)]
def aOJ:FuncId->Option (List Value->St->VK->Bool):=AA 27 (Ey aCq) (AA 164 Qc (AA 111 (OD 3 aHr BY none) ovT))
theorem aKf{w:World}(hsz:Tryz.prog.globals.size<=w.heap.size)(hl:Laid gs w):Gq Tryz.prog w aOJ:=by
 refine yP (Hq (most:=1000) (n:=60) aDZ hsz hl (λw hz hw=>aCo hz hw) names mixed (enters_of Tryz.func27 (by kernel_rfl) rfl) λx hx=>?_) (yP aHs (yP aHt aCp));unfold aCq at hx;rcases dA.1 hx with rfl | hx
 ·exact aAg
 cases hx
def aOK:FuncId->Option (List Value->St->VK->Bool):=AA 27 (Ey aCq) ovP
theorem aKg{w:World}(hsz:Tryz.prog.globals.size<=w.heap.size)(hl:Laid gs w):Gq Tryz.prog w aOK:=by
 refine yP (Hq (most:=1000) (n:=60) aDZ hsz hl (λw hz hw=>aCo hz hw) names mixed (enters_of Tryz.func27 (by kernel_rfl) rfl) λx hx=>?_) (aCo hsz hl);unfold aCq at hx;rcases dA.1 hx with rfl | hx
 ·exact aAg
 cases hx
set_option maxRecDepth 1000000 in
theorem aFk:YK Tryz.prog aOK 1000 60 6 gs ([],.bool true):=⟨by simp,rfl,by kernel_rfl⟩
def aCr:List (List Value×Value):=[([],.bool true)]
def aOL:FuncId->Option (List Value->St->VK->Bool):=AA 6 (Ey aCr) aOJ
theorem aKh{w:World}(hsz:Tryz.prog.globals.size<=w.heap.size)(hl:Laid gs w):Gq Tryz.prog w aOL:=by
 refine yP (Hq (most:=1000) (n:=60) aDZ hsz hl (λw hz hw=>aKg hz hw) names mixed (enters_of Tryz.func6 (by kernel_rfl) rfl) λx hx=>?_) (aKf hsz hl);unfold aCr at hx;rcases dA.1 hx with rfl | hx
 ·exact aFk
 cases hx
end Go.Am
namespace Go.Proofs
open Go.Shelf
def Tryz.sortS_ren:Go.Shelf.Ren:=⟨λ| 190=>46 | 125=>99 | 258=>98 | 128=>149 | 129=>150 | 302=>140 | 303=>141 | 304=>142 | 305=>143 | 306=>144 | 307=>145 | 308=>146 | 309=>147 | 310=>148 | 333=>187 | 329=>188 | 330=>189 | 334=>190 | 335=>191 | 336=>192 | 344=>222 | n=>n,λ| 31=>22 | 9=>9 | 3=>3 | 46=>40 | 0=>0 | 51=>175 | 53=>29 | 4=>4 | 183=>167 | 182=>166 | 131=>172 | 5=>5 | 218=>202 | 222=>206 | 228=>229 | 229=>230 | n=>n,λ| n=>n⟩
theorem Tryz.sortS:Go.Proofs.Lays.n190 Tryz.prog Tryz.sortS_ren:={
 mixed:=by kernel_rfl
 f125:=Tryz.func99.trans (congrArg some (by kernel_rfl))
 f128:=Tryz.func149.trans (congrArg some (by kernel_rfl))
 f129:=Tryz.func150.trans (congrArg some (by kernel_rfl))
 f190:=Tryz.func46.trans (congrArg some (by kernel_rfl))
 f258:=Tryz.func98.trans (congrArg some (by kernel_rfl))
 f302:=Tryz.func140.trans (congrArg some (by kernel_rfl))
 f303:=Tryz.func141.trans (congrArg some (by kernel_rfl))
 f304:=Tryz.func142.trans (congrArg some (by kernel_rfl))
 f305:=Tryz.func143.trans (congrArg some (by kernel_rfl))
 f306:=Tryz.func144.trans (congrArg some (by kernel_rfl))
 f307:=Tryz.func145.trans (congrArg some (by kernel_rfl))
 f308:=Tryz.func146.trans (congrArg some (by kernel_rfl))
 f309:=Tryz.func147.trans (congrArg some (by kernel_rfl))
 f310:=Tryz.func148.trans (congrArg some (by kernel_rfl))
 f329:=Tryz.func188.trans (congrArg some (by kernel_rfl))
 f330:=Tryz.func189.trans (congrArg some (by kernel_rfl))
 f333:=Tryz.func187.trans (congrArg some (by kernel_rfl))
 f334:=Tryz.func190.trans (congrArg some (by kernel_rfl))
 f335:=Tryz.func191.trans (congrArg some (by kernel_rfl))
 f336:=Tryz.func192.trans (congrArg some (by kernel_rfl))
 f344:=Tryz.func222.trans (congrArg some (by kernel_rfl))
 t0:=Tryz.underlying0
 a0:=Tryz.isAgg0
 z0:=Tryz.sizeOf0
 v0:=Tryz.zeroValue0
 t3:=Tryz.underlying3
 a3:=Tryz.isAgg3
 z3:=Tryz.sizeOf3
 v3:=Tryz.zeroValue3
 t4:=Tryz.underlying4
 a4:=Tryz.isAgg4
 z4:=Tryz.sizeOf4
 v4:=Tryz.zeroValue4
 t5:=Tryz.underlying5
 a5:=Tryz.isAgg5
 z5:=Tryz.sizeOf5
 v5:=Tryz.zeroValue5
 t9:=Tryz.underlying9
 a9:=Tryz.isAgg9
 z9:=Tryz.sizeOf9
 v9:=Tryz.zeroValue9
 t31:=Tryz.underlying22
 a31:=Tryz.isAgg22
 z31:=Tryz.sizeOf22
 v31:=Tryz.zeroValue22
 t46:=Tryz.underlying40
 a46:=Tryz.isAgg40
 z46:=Tryz.sizeOf40
 v46:=Tryz.zeroValue40
 t51:=Tryz.underlying175
 a51:=Tryz.isAgg175
 z51:=Tryz.sizeOf175
 v51:=Tryz.zeroValue175
 t53:=Tryz.underlying29
 a53:=Tryz.isAgg29
 z53:=Tryz.sizeOf29
 v53:=Tryz.zeroValue29
 t131:=Tryz.underlying172
 a131:=Tryz.isAgg172
 z131:=Tryz.sizeOf172
 v131:=Tryz.zeroValue172
 t182:=Tryz.underlying166
 a182:=Tryz.isAgg166
 z182:=Tryz.sizeOf166
 v182:=Tryz.zeroValue166
 t183:=Tryz.underlying167
 a183:=Tryz.isAgg167
 z183:=Tryz.sizeOf167
 v183:=Tryz.zeroValue167
 t218:=Tryz.underlying202
 a218:=Tryz.isAgg202
 z218:=Tryz.sizeOf202
 v218:=Tryz.zeroValue202
 t222:=Tryz.underlying206
 a222:=Tryz.isAgg206
 z222:=Tryz.sizeOf206
 v222:=Tryz.zeroValue206
 t228:=Tryz.underlying229
 a228:=Tryz.isAgg229
 z228:=Tryz.sizeOf229
 v228:=Tryz.zeroValue229
 t229:=Tryz.underlying230
 a229:=Tryz.isAgg230
 z229:=Tryz.sizeOf230
 v229:=Tryz.zeroValue230}
def Tryz.compS_ren:Go.Shelf.Ren:=⟨λ| 194=>47 | n=>n,λ| 31=>22 | 9=>9 | 3=>3 | 4=>4 | 0=>0 | n=>n,λ| n=>n⟩
theorem Tryz.compS:Go.Proofs.Lays.n194 Tryz.prog Tryz.compS_ren:={
 mixed:=by kernel_rfl
 f194:=Tryz.func47.trans (congrArg some (by kernel_rfl))
 t0:=Tryz.underlying0
 a0:=Tryz.isAgg0
 z0:=Tryz.sizeOf0
 v0:=Tryz.zeroValue0
 t3:=Tryz.underlying3
 a3:=Tryz.isAgg3
 z3:=Tryz.sizeOf3
 v3:=Tryz.zeroValue3
 t4:=Tryz.underlying4
 a4:=Tryz.isAgg4
 z4:=Tryz.sizeOf4
 v4:=Tryz.zeroValue4
 t9:=Tryz.underlying9
 a9:=Tryz.isAgg9
 z9:=Tryz.sizeOf9
 v9:=Tryz.zeroValue9
 t31:=Tryz.underlying22
 a31:=Tryz.isAgg22
 z31:=Tryz.sizeOf22
 v31:=Tryz.zeroValue22}
end Go.Proofs
namespace Go.Am
open Go.RowKit Go.MapKept Go.Proofs
def aAh(l:List UInt8):Value:= .string ⟨⟨l⟩⟩
def HE(ls:List (List UInt8)):List (List UInt8):=ls.mergeSort λx y=>decide (x<=y)
def Qd(ls:List (List UInt8)):List (List UInt8):=Go.Lib.compact ls
theorem Lk(ls:List (List UInt8)):(Qd ls).length<=ls.length:=by
 unfold Qd Go.Lib.compact Go.Lib.compactUpTo;rw [jB];exact tP (DU _ _) (by rw [List.length_range];exact bI _)
def cpT(ls:List (List UInt8)):List (List UInt8):=Qd ls++List.replicate (ls.length-(Qd ls).length) []
theorem wX(ls:List (List UInt8)):(HE ls).length=ls.length:=List.length_mergeSort ls
theorem Hw(ls:List (List UInt8)):(cpT ls).length=ls.length:=by
 have:=Lk ls;unfold cpT;rw [bH,List.length_replicate];omega
theorem aHE:aD2 Tryz.prog 46 aAh HE none:=by
 refine⟨λargs w=>enters_of Tryz.func46 (by kernel_rfl) rfl args w,λp c w=>Any.slices_Sort_string_none Tryz.sortS p c w,λb off c ls w d hd hH hb hl _=>?_,wX,λk e=>(by cases e),λ_=>rfl,λ_=>rfl⟩;exact Any.slices_Sort_string Tryz.sortS b off c ls w (aCx hH) hb (by omega)
theorem aHF:aD2 Tryz.prog 47 aAh cpT (some λls=>(Qd ls).length):=by
 refine⟨λargs w=>enters_of Tryz.func47 (by kernel_rfl) rfl args w,λp c w=>Any.slices_Compact_string_empty Tryz.compS p c w,λb off c ls w d hd hH hb hl hc=>?_,Hw,λk e=>by cases e;exact Lk,λ_=>rfl,λ_=>rfl⟩;refine(Any.slices_Compact_string Tryz.compS b off c ls w (aCx hH) (by omega) hc).mono ?_
 rintro e w' ⟨rfl,q,rfl⟩
 exact⟨rfl,q,#[],by rw [Go.Sort.grow_empty];rfl⟩
theorem aHv{w0:World}:iU Tryz.prog w0 (λf' args S K=>match Nat.beq f' 46 with | true=>OD 9 aAh HE none args S K | false=>false):=Lj aHE
theorem aHu{w0:World}:iU Tryz.prog w0 (λf' args S K=>match Nat.beq f' 47 with | true=>OD 9 aAh cpT (some λls=>(Qd ls).length) args S K | false=>false):=Lj aHF
end Go.Am
namespace Go.Am
open Go.Proofs Go.RowKit
def aOM:FuncId->Option (List Value->St->VK->Bool):=AA 47 (OD 9 aAh cpT (some λls=>(Qd ls).length)) (AA 46 (OD 9 aAh HE none) aOL)
theorem aKi{w:World}(hsz:Tryz.prog.globals.size<=w.heap.size)(hl:Laid gs w):Gq Tryz.prog w aOM:=yP aHu (yP aHv (aKh hsz hl))
end Go.Am
namespace Go.Am
open Go.RowKit Go.MapKept Go.Proofs
section
variable{α:Type}
def Wt(m:Option (List α->Nat))(v:V)(ls:List α):V:=match m with
 | none=> .tuple []
 | some k=>match v with
  | .acc i n=> .oR i n 0 (k ls) n
  | .oR i q o _ c=> .oR i q o (k ls) c
  | v=>v
def aBi(el:TypeId)(enc:α->V)(g:List α->List α)(m:Option (List α->Nat))(args:List V)(h:Hp)(K:KV):Prop:=
 (∃v,args=[v]/\(v= .nil\/(∃i o c,v= .own i o 0 c)\/(∃i q o c,v= .oR i q o 0 c)\/∃i,v= .acc i 0)/\K (Wt m v []) h)\/
 (∃i ls,args=[.acc i ls.length]/\0<ls.length/\ls.length<1000000/\h i=some (.iX (ls.map enc) el ls.length)/\K (Wt m (.acc i ls.length) ls) (aM h i (.iX ((g ls).map enc) el ls.length)))\/
 ∃i q ls rest,args=[.oR i q 0 ls.length q]/\0<ls.length/\ls.length<=q/\ls.length<1000000/\h i=some (.iX (ls.map enc++rest) el q)/\K (Wt m (.oR i q 0 ls.length q) ls) (aM h i (.iX ((g ls).map enc++rest) el q))
structure Oz(e:α->V)(e':α->Value):Prop where
 inv:∀{c:Cx} {S:St} {C:Nat->Prop} {a:α} {w:Value},fI c S C (e a) w->w=e' a
 made:∀{c:Cx} {S:St} {C:Nat->Prop} {a:α},fI c S C (e a) (e' a)
 inj:∀{a b:α},e' a=e' b->a=b
variable{e:α->V}{e':α->Value}
theorem Oz.of(E:Oz e e'){c:Cx}{S:St}{C:Nat->Prop}:∀{ls:List α} {ws:List Value},kW c S C (ls.map e) ws->ws=ls.map e':=by
 intro ls;induction ls with
 | nil=>intro ws r;exact r.nK
 | cons l ls ih=>
  intro ws r;obtain⟨w1,ws,rfl,r1,r2⟩:=r.cons_inv;rw [ih r2,E.inv r1];rfl
theorem Oz.to(E:Oz e e'){c:Cx}{S:St}{C:Nat->Prop}:∀(ls:List α),kW c S C (ls.map e) (ls.map e'):=by
 intro ls;induction ls with
 | nil=>exact .nil
 | cons l ls ih=>exact .cons E.made ih
theorem Oz.eqs(E:Oz e e'):∀{a b:List α},a.map e'=b.map e'->a=b:=by
 intro a;induction a with
 | nil=>intro b h;cases b with | nil=>rfl | cons=>cases h
 | cons x a ih=>
  intro b h;cases b with
  | nil=>cases h
  | cons y b=>
   simp only [xU,List.cons.injEq]at h;rw [E.inj h.1,ih h.2]
variable{el:TypeId}{g:List α->List α}{m:Option (List α->Nat)}{B:Nat->Prop}{Sbz:St}{c:Cx}{h:Hp}{S:St}
theorem aI0{b n cc:Nat}{K:VK}:OD el e' g m [.slice (some ⟨b,0,some 0⟩) (n+1) cc] S K= @dite Bool (∃ls:List α,ls.length=n+1/\ls.length<=cc/\ls.length<1000000/\∃rest olds,S.obj b=some (.cells (ls.map e'++rest) el (.grown olds))) (Classical.propDecidable _) (λh=>pW S b 0 ((g h.choose).map e') λS=>K (aAl m (some ⟨b,0,some 0⟩) cc h.choose) S) (λ_=>false):=rfl
theorem Re(E:Oz e e')(hg:∀ls,(g ls).length=ls.length){Kv:KV}{K:VK}(s:VS PP B Sbz c h S)(k:KR PP B Sbz c h S Kv K){i q b cc:Nat}{ls:List α}{rest:List V}{rv:V}(h0:0<ls.length)(hn:ls.length<1000000)(hcc:ls.length<=cc)(hi:h i=some (.iX (ls.map e++rest) el q))(hGz:c.G i q=some (.slice (some ⟨b,0,some 0⟩) q q))
 (hr:∀{S':St} {C:Nat->Prop},fI c S' C rv (aAl m (some ⟨b,0,some 0⟩) cc ls)) (hv:Kv rv (aM h i (.iX ((g ls).map e++rest) el q))):OD el e' g m [.slice (some ⟨b,0,some 0⟩) ls.length cc] S K=true:=by
 obtain⟨b',us,olds,sz,e1,e2,e3,e4,e5,_⟩:=s.iX i _ _ _ hi;rw [hGz]at e1;injection e1 with e1;injection e1 with e1;injection e1 with e1;injection e1 with e1;subst e1;have hl1:=e5.len;rw [bH,jB]at hl1;have hu:us.take ls.length=ls.map e':=E.of (by have:=e5.take ls.length;rwa [Rt (jB e)]at this);rw [<-MF ls.length us,hu]at e4
 have hgl:∀n,ls.length=n+1->OD el e' g m [.slice (some ⟨b,0,some 0⟩) (n+1) cc] S K=true:=λn hn1=>by
  rw [aI0];have hex:∃ls:List α,ls.length=n+1/\ls.length<=cc/\ls.length<1000000/\∃rest olds,S.obj b=some (.cells (ls.map e'++rest) el (.grown olds)):=⟨ls,hn1,hcc,hn,_,olds,e4⟩;rw [dif_pos hex];obtain⟨h1,_,_,aRv,aRw,h3⟩:=hex.choose_spec
  have hls:hex.choose=ls:=by
   have h4:=e4.symm.trans h3;injection h4 with h4;injection h4 with h4;exact(E.eqs (List.append_inj_left h4 (by rw [jB,jB,h1,hn1]))).symm
  rw [hls];refine CC s (o:=0) (cs:=(g ls).map e) hi hGz (E.to _) (by rw [jB,hg,bH,jB];omega) (Kv:=λh'=>Kv rv h') (λh' S' f s' FG=>k c h' S' _ _ (.refl c) f s' hr FG) ?_
  have:aE 0 ((g ls).map e) (ls.map e++rest)=(g ls).map e++rest:=by
   unfold aE;rw [List.take_zero,PB,jB,hg,gB,Ja (jB e)]
  rw [this];exact hv
 obtain⟨n,hn1⟩:∃n,ls.length=n+1:=⟨ls.length-1,by omega⟩;have:=hgl n hn1;rw [<-hn1]at this;exact this
theorem Ng(E:Oz e e')(hg:∀ls,(g ls).length=ls.length)(hm:∀k,m=some k->k []=0){args:List V}{ws:List Value}{Kv:KV}{K:VK}(s:VS PP B Sbz c h S)(ra:kW c S (cY B c h) args ws)(k:KR PP B Sbz c h S Kv K)(hv:aBi el e g m args h Kv):OD el e' g m ws S K=true:=by
 have tup:∀{d:Cx} {S':St} {C:Nat->Prop},fI d S' C (.tuple []) (.tuple #[]):= .tuple rfl λk v w e _=>by simp at e
 rcases hv with ⟨v,rfl,hv1,hv⟩ | ⟨i,ls,rfl,h0,hn,hi,hv⟩ | ⟨i,q,ls,rest,rfl,h0,hq,hn,hi,hv⟩
 ·obtain⟨w1,ws,rfl,r1,ra⟩:=ra.cons_inv
  rw [ra.nK]
  obtain⟨p,cc,rfl⟩:∃p cc,w1= .slice p 0 cc:=by
   rcases hv1 with rfl | ⟨i,o,c,rfl⟩ | ⟨i,q,o,c,rfl⟩ | ⟨i,rfl⟩
   ·cases r1;exact⟨_,_,rfl⟩
   ·cases r1;exact⟨_,_,rfl⟩
   ·cases r1;exact⟨_,_,rfl⟩
   ·cases r1 with
    | acc hGz=>obtain⟨b,hb⟩:=s.Gs _ _ _ hGz;exact⟨_,_,hb⟩
  refine k.here s ?_ hv;cases m with
  | none=>exact tup
  | some kk=>
   show fI c S (cY B c h) (Wt (some kk) v []) (.slice p (kk []) cc);have e0:=hm kk rfl;rw [e0];rcases hv1 with rfl | ⟨i,o,c,rfl⟩ | ⟨i,q,o,c,rfl⟩ | ⟨i,rfl⟩
   ·exact r1
   ·exact r1
   ·show fI _ _ _ (V.oR i q o (kk []) c) _;rw [e0];exact r1
   ·show fI _ _ _ (V.oR i 0 0 (kk []) 0) _
    rw [e0];cases r1 with
    | acc hGz=>
     obtain⟨b,hb⟩:=s.Gs _ _ _ hGz;rw [hb]at hGz;cases hb;exact .oR hGz
 ·obtain⟨w1,ws,rfl,r1,ra⟩:=ra.cons_inv
  rw [ra.nK];cases r1 with
  | acc hGz=>
   obtain⟨b,hb⟩:=s.Gs _ _ _ hGz;subst hb;refine Re (rest:=[]) (rv:=Wt m (.acc i ls.length) ls) E hg s k h0 hn (bI _) (by rw [nP];exact hi) hGz (λ{S' C}=>?_) (by rw [nP];exact hv);cases m with
   | none=>exact tup
   | some kk=>exact .oR hGz
 ·obtain⟨w1,ws,rfl,r1,ra⟩:=ra.cons_inv
  rw [ra.nK];cases r1 with
  | oR hGz=>
   refine Re (rv:=Wt m (.oR i q 0 ls.length q) ls) E hg s k h0 hn hq hi hGz (λ{S' C}=>?_) hv;cases m with
   | none=>exact tup
   | some kk=>exact .oR hGz
end
def gT0(f:FuncId):Option (List V->Hp->KV->Prop):=
 if f=oC then some Wk else if f=fU then some Do else if f=lG then some aKQ else if f=pC then some aEt else none
section
variable{P:Program}{B:Nat->Prop}{Sbz:St}{c:Cx}{h:Hp}{S:St}
theorem aLb(hsz:bP P 94=some 5):OG P B Sbz gT0 ovT:=by
 have h1:∀f,(f=oC/\gT0 f=some Wk/\ovT f=some SH)\/(f=fU/\gT0 f=some Do/\ovT f=some SI)\/(f=lG/\gT0 f=some aKQ/\ovT f=some Qe)\/(f=pC/\gT0 f=some aEt/\ovT f=some Co)\/(gT0 f=none/\ovT f=none):=by
  intro f;by_cases e1:f=oC
  ·subst e1;exact .inl ⟨rfl,rfl,rfl⟩
  ·by_cases e2:f=fU
   ·subst e2;exact .inr (.inl ⟨rfl,rfl,rfl⟩)
   ·by_cases e3:f=lG
    ·subst e3;exact .inr (.inr (.inl ⟨rfl,rfl,rfl⟩))
    ·by_cases e4:f=pC
     ·subst e4;exact .inr (.inr (.inr (.inl ⟨rfl,rfl,rfl⟩)))
     ·refine .inr (.inr (.inr (.inr ⟨by unfold gT0;rw [if_neg e1,if_neg e2,if_neg e3,if_neg e4],?_⟩)))
      unfold ovT;rw [show Nat.beq f 209=false from WW e1,show Nat.beq f 97=false from WW e2,show Nat.beq f 156=false from WW e3,show Nat.beq f 168=false from WW e4];rfl
 refine⟨λf hf=>?_,λf g hg=>?_⟩
 ·rcases h1 f with ⟨_,q,_⟩ | ⟨_,q,_⟩ | ⟨_,q,_⟩ | ⟨_,q,_⟩ | ⟨_,q⟩
  ·rw [q]at hf;cases hf
  ·rw [q]at hf;cases hf
  ·rw [q]at hf;cases hf
  ·rw [q]at hf;cases hf
  ·exact q
 ·rcases h1 f with ⟨_,q,q2⟩ | ⟨_,q,q2⟩ | ⟨_,q,q2⟩ | ⟨_,q,q2⟩ | ⟨q,_⟩
  ·rw [q]at hg;injection hg with hg;subst hg;exact⟨_,q2,λs ra k hv=>aDc s ra k hv⟩
  ·rw [q]at hg;injection hg with hg;subst hg;exact⟨_,q2,λs ra k hv=>aDd hsz s ra k hv⟩
  ·rw [q]at hg;injection hg with hg;subst hg;exact⟨_,q2,λs ra k hv=>aIN s ra k hv⟩
  ·rw [q]at hg;injection hg with hg;subst hg;exact⟨_,q2,λs ra k hv=>aF0 s ra k hv⟩
  ·rw [q]at hg;cases hg
theorem OG.more{g:Qj}{ov:FuncId->Option (List Value->St->VK->Bool)}(o:OG P B Sbz g ov){f0:FuncId}{g0:List V->Hp->KV->Prop}{ov0:List Value->St->VK->Bool}
 (hs:∀{args:List V} {ws:List Value} {c:Cx} {h:Hp} {S:St} {Kv:KV} {K:VK},VS P B Sbz c h S->kW c S (cY B c h) args ws->KR P B Sbz c h S Kv K->g0 args h Kv->ov0 ws S K=true):OG P B Sbz (λf=>if f=f0 then some g0 else g f) (AA f0 ov0 ov):=by
 refine⟨λf hf=>?_,λf g' hg=>?_⟩
 ·by_cases e:f=f0
  ·dsimp only at hf;rw [if_pos e]at hf;cases hf
  ·dsimp only at hf;rw [if_neg e]at hf
   unfold AA;rw [show Nat.beq f f0=false from WW e];exact o.1 f hf
 ·by_cases e:f=f0
  ·dsimp only at hg;rw [if_pos e]at hg
   injection hg with hg;subst e hg;refine⟨ov0,?_,λs ra k hv=>hs s ra k hv⟩;unfold AA;rw [show Nat.beq f f=true from MK f];rfl
  ·dsimp only at hg;rw [if_neg e]at hg
   obtain⟨g2,q1,q2⟩:=o.2 f g' hg;refine⟨g2,?_,q2⟩;unfold AA;rw [show Nat.beq f f0=false from WW e];exact q1
end
section
variable{B:Nat->Prop}{Sbz:St}{c:Cx}{h:Hp}{S:St}
theorem encI:Oz (V.int .i64) aHr:=⟨λr=>by cases r;rfl,.int,λh=>by unfold aHr at h;injection h⟩
theorem aPu:Oz V.str aAh:=⟨λr=>by cases r;rfl,.str,λh=>by unfold aAh at h;injection h with h;injection h with h;injection h⟩
def aI1(i:Nat)(new vs:List V)(K:KV):KV:=λs1 h1=>match s1 with
 | .acc b1 m1=>match h1 b1 with
  | some (.iX ws t m)=>m=m1/\i*2+(new++vs.drop (i*2)).length<=ws.length/\K (.acc b1 m1) (aM h1 b1 (.iX (aE (i*2) (new++vs.drop (i*2)) ws) t m))
  | _=>False
 | _=>False
def aLc(args:List V)(h:Hp)(K:KV):Prop:=∃(s:V) (n i q o c:Nat),args=[s,.int .i64 (.ofNat i),.own q o 1 c]/\((n+1)*24<=140737488355328/\n+1<=140737488355328)/\
 ((i=n/\((s= .nil/\n=0)\/(∃b,s= .acc b n)\/(∃b,s= .own b 0 0 0/\n=0))/\qG 75 2 24 s (.own q o 1 c) h K)\/
  (i<n/\∃b vs us t,s= .acc b n/\h b=some (.iX vs 75 n)/\h q=some (.row us t)/\o+2<=us.length/\vs.all pN=true/\((us.drop o).take 2).all pN=true/\qG 75 2 24 s (.own q o 1 c) h (aI1 i ((us.drop o).take 2) vs K)))
theorem aEC(s x:Value)(S:St)(K:VK):pF Tryz.prog [69,69] s x S K=Zw Tryz.prog 75 2 24 s x S K:=by
 obtain⟨i0,hi0,hz0,Bt,hzb⟩:=aCz;rw [Cl (el:=75) (n:=1) (by kernel_rfl) (by kernel_rfl) hi0 Bt hz0 rfl,hzb]
theorem aF9{S:St}{b n i q o cc:Nat}{wsb wsq:List Value}{olds:List Nat}{t:TypeId}{K:VK}(hrb:EP (n+1) 24=true)(wC:Nat.beq i n=false)(hlt:Nat.blt i n=true)(hb:S.obj b=some (.cells wsb 75 (.grown olds)))(hq:S.obj q=some (.cells wsq t .exact))(hl:wsb.length=n*2)(Hi:o+2<=wsq.length)(h1:rD gH wsb=true)(h2:rD gH ((wsq.drop o).take 2)=true):
 Qc [.slice (some ⟨b,0,some 0⟩) n n,.int .i64 (.ofNat i),.slice (some ⟨q,o,none⟩) 1 cc] S K=pF Tryz.prog [69,69] (.slice (some ⟨b,0,some 0⟩) n n) (.slice (some ⟨q,o,none⟩) 1 cc) S (aMJ i ((wsq.drop o).take 2) wsb K):=by
 unfold Qc;simp only [hrb,wC,hlt];rw [AB hb];simp only [];rw [AB hq];simp only;rw [FP hb (by omega),FP hq (by omega)];rw [DX,oS (show wsb.length<=n*2 by omega),h1,h2]
theorem aI2{args:List V}{ws:List Value}{Kv:KV}{K:VK}(s:VS PP B Sbz c h S)(ra:kW c S (cY B c h) args ws)(k:KR PP B Sbz c h S Kv K)(hv:aLc args h Kv):Qc ws S K=true:=by
 obtain⟨sv,n,i,q,o,cc,rfl,uA,hv⟩:=hv;obtain⟨w1,ws,rfl,r1,ra⟩:=ra.cons_inv;obtain⟨w2,ws,rfl,r2,ra⟩:=ra.cons_inv;obtain⟨w3,ws,rfl,r3,ra⟩:=ra.cons_inv;rw [ra.nK];cases r2;have r3':=r3;cases r3 with
 | @own _ _ _ _ q' hq=>
  have hrb:EP (n+1) 24=true:=PF uA;rcases hv with ⟨rfl,hs,hv⟩ | ⟨PU,b,vs,us,t,rfl,hb,hqr,Ej,h1,h2,hv⟩
  ·rcases hs with ⟨rfl,rfl⟩ | ⟨b,rfl⟩ | ⟨b,rfl,rfl⟩
   ·cases r1
    show(match EP (0+1) 24 with | true=>pF Tryz.prog [69,69] (.slice none 0 0) (.slice (some ⟨q',o,none⟩) 1 cc) S K | false=>false)=true;rw [hrb];show pF Tryz.prog [69,69] (.slice none 0 0) (.slice (some ⟨q',o,none⟩) 1 cc) S K=true;rw [aEC];exact RE s (by omega) Ll .nil r3' k hv
   ·have r1':=r1
    cases r1 with
    | acc e=>
     obtain⟨b',rfl⟩:=s.Gs _ _ _ e;show(match EP (i+1) 24 with | true=>(match Nat.beq i i with | true=>(match Nat.ble i i with | true=>pF Tryz.prog [69,69] (.slice (some ⟨b',0,some 0⟩) i i) (.slice (some ⟨q',o,none⟩) 1 cc) S K | false=>false) | false=>_) | false=>false)=true;rw [hrb];simp only [MK];rw [show Nat.ble i i=true from jT (bI i)];show pF Tryz.prog [69,69] (.slice (some ⟨b',0,some 0⟩) i i) (.slice (some ⟨q',o,none⟩) 1 cc) S K=true;rw [aEC];exact RE s (by omega) Ll r1' r3' k hv
   ·have r1':=r1
    cases r1 with
    | @own _ _ _ _ b' hb=>
     show(match EP (0+1) 24 with | true=>pF Tryz.prog [69,69] (.slice (some ⟨b',0,none⟩) 0 0) (.slice (some ⟨q',o,none⟩) 1 cc) S K | false=>false)=true;rw [hrb];show pF Tryz.prog [69,69] (.slice (some ⟨b',0,none⟩) 0 0) (.slice (some ⟨q',o,none⟩) 1 cc) S K=true;rw [aEC];exact RE s (by omega) Ll r1' r3' k hv
  ·obtain⟨b',wsb,olds,sz,e1,e2,e3,e4,e5,e6,e7,_⟩:=s.iX b vs 75 n hb
   obtain⟨q2,wsq,f1,f2,f3,f4,f5⟩:=s.row q us t hqr;rw [hq]at f1;injection f1 with f1;subst f1;have hsz:sz=2:=by rw [show bP PP 75=some 2 from Ll]at e6;injection e6 with e6;exact e6.symm
   subst hsz;have l1:=e5.len;have l2:=f5.len;have r1':=r1;cases r1 with
   | acc e=>
    rw [e1]at e;injection e with e;subst e;have aD4:rD gH wsb=true:=by rw [jZ];exact s.Vc e5 h1
    have aD5:rD gH ((wsq.drop o).take 2)=true:=by rw [jZ];exact s.Vc ((f5.drop o).take 2) h2
    have wC:Nat.beq i n=false:=WW (by omega);rw [aF9 hrb wC (jT PU) e4 f4 (by omega) (by omega) aD4 aD5];rw [aEC];refine RE s (by omega) Ll r1' r3' (λc' h' S' v w le fr s' r hv=>?_) hv;unfold aI1 at hv;split at hv
    ·rename_i b1 m1
     split at hv
     ·rename_i ws' t' m' Kc
      obtain⟨rfl,hl,hv⟩:=hv;have r':=r;cases r with
      | acc eG=>
       obtain⟨b1',rfl⟩:=s'.Gs _ _ _ eG;show pW S' b1' (i*2) ((wsq.drop o).take 2++wsb.drop (i*2)) (λS2=>K (.slice (some ⟨b1',0,some 0⟩) m' m') S2)=true;refine CC s' Kc eG (((f5.drop o).take 2).mono le fr |>.app ((e5.drop (i*2)).mono le fr)) hl (λh2 S2 fr2 s2 Sw=>?_) hv;exact k c' h2 S2 _ _ le (fr.trans fr2) s2 (.acc eG) Sw
     ·cases hv
    ·cases hv
end
section
variable{B:Nat->Prop}{Sbz:St}{c:Cx}{h:Hp}{S:St}
def pvS:List V:=[.int .u64 (.ofNat 23),.int .u64 (.ofNat 11),.int .u64 (.ofNat 4),.int .u64 (.ofNat 9),.int .i64 (.ofNat 5),.int .i64 (.ofNat 4),.int .i64 (.ofNat 1),.int .i64 (.ofNat 1),.int .i64 (.ofNat 1),.int .i64 (.ofNat 1),.int .i64 (.ofNat 1),.int .i64 (.ofNat 1)]
def aNO(args:List V)(h:Hp)(K:KV):Prop:=args=[.agg pvS]/\K (.bool true) h
def aI3(args:List V)(h:Hp)(K:KV):Prop:=args=[]/\K (.bool true) h
theorem aI4{args:List V}{ws:List Value}{Kv:KV}{K:VK}(s:VS PP B Sbz c h S)(ra:kW c S (cY B c h) args ws)(k:KR PP B Sbz c h S Kv K)(hv:aI3 args h Kv):Ey aCr ws S K=true:=by
 obtain⟨rfl,hv⟩:=hv;rw [ra.nK];exact k.here s .bool hv
theorem aI5{args:List V}{ws:List Value}{Kv:KV}{K:VK}(s:VS PP B Sbz c h S)(ra:kW c S (cY B c h) args ws)(k:KR PP B Sbz c h S Kv K)(hv:aNO args h Kv):Ey aCq ws S K=true:=by
 obtain⟨rfl,hv⟩:=hv;obtain⟨w1,ws,rfl,r1,ra⟩:=ra.cons_inv;rw [ra.nK];cases r1 with
 | @agg _ cs hl hr=>
  have hr:kW c S (cY B c h) pvS cs:=⟨hl,hr⟩;obtain⟨w1,ws,rfl,r1,hr⟩:=hr.cons_inv;obtain⟨w2,ws,rfl,r2,hr⟩:=hr.cons_inv;obtain⟨w3,ws,rfl,r3,hr⟩:=hr.cons_inv;obtain⟨w4,ws,rfl,r4,hr⟩:=hr.cons_inv;obtain⟨w5,ws,rfl,r5,hr⟩:=hr.cons_inv;obtain⟨w6,ws,rfl,r6,hr⟩:=hr.cons_inv;obtain⟨w7,ws,rfl,r7,hr⟩:=hr.cons_inv;obtain⟨w8,ws,rfl,r8,hr⟩:=hr.cons_inv;obtain⟨w9,ws,rfl,r9,hr⟩:=hr.cons_inv;obtain⟨w10,ws,rfl,r10,hr⟩:=hr.cons_inv;obtain⟨w11,ws,rfl,r11,hr⟩:=hr.cons_inv;obtain⟨w12,ws,rfl,r12,hr⟩:=hr.cons_inv;rw [hr.nK];cases r1;cases r2;cases r3;cases r4;cases r5;cases r6;cases r7;cases r8;cases r9;cases r10;cases r11;cases r12;have hk:=k.here s .bool hv;exact hk
end
def gT(f:FuncId):Option (List V->Hp->KV->Prop):=if f=47 then some (aBi 9 V.str cpT (some λls=>(Qd ls).length))else if f=46 then some (aBi 9 V.str HE none)else if f=KI then some aI3 else if f=Fl then some aNO else if f=lH then some aLc else if f=pB then some (aBi 3 (V.int .i64) BY none)else gT0 f
theorem aNP{B:Nat->Prop}{Sbz:St}:OG PP B Sbz gT aOM:=
 OG.more (f0:=47) (OG.more (f0:=46) (OG.more (f0:=6) (OG.more (f0:=27) (OG.more (f0:=164) (OG.more (f0:=111) (aLb (by kernel_rfl)) λs ra k hv=>Ng encI QS (λ_ e=>(by cases e)) s ra k hv) λs ra k hv=>aI2 s ra k hv) λs ra k hv=>aI5 s ra k hv) λs ra k hv=>aI4 s ra k hv) λs ra k hv=>Ng aPu wX (λ_ e=>(by cases e)) s ra k hv) λs ra k hv=>Ng aPu Hw (λ_ e=>(by cases e;rfl)) s ra k hv
abbrev DP(M n:Nat)(x:VE):Prop:=Deep PP fT gT M n x
end Go.Am
namespace Go.Am
structure Bs where
 h:Int
 n:Int
 t:Int
 me:Int
 rd:Int
 st:Int
 LY:Int
 lock:List UInt8
 valid:List UInt8
 yZ:Int
 nU:Int
 prop:Bool
 seen:Bool
 dec:List UInt8
def lM(s:Bs)(t:Nat):List V:=[.int .i64 s.h,.int .i64 s.n,.int .i64 s.t,.int .i64 s.me,.int .i64 s.rd,.int .i64 s.st,.int .i64 s.LY,.str s.lock,.str s.valid,.int .i64 s.yZ,.int .i64 s.nU,.bool s.prop,.bool s.seen,.str s.dec,.nil,.ptr t 0]
variable{ov:Qj}{M n b t:Nat}{x:VE}{S:Hp}{K:KV}{s:Bs}{ty:TypeId}
theorem Mv(hf:ov jF=none)(hx:Deep PP fT ov M (n+1) x)(hb:S b=some (.row (lM s t) ty)){z:Int}(hs: -9223372036854775808<=s.n-s.t/\s.n-s.t<=9223372036854775807)(hk:K (.bool (decide (s.n-s.t<=z))) S):x.call jF [.ptr b 0,.int .i64 z] S K:=by
 refine hx.call hf λy _=>?_;rw [NM];unfold AO gG gM;rw [aV,gW,gW];refine kN hb rfl ?_;rw [aV,gW,gW];refine kN hb rfl ?_;rw [tJ,wrap_small hs.1 hs.2,kG];exact aF hk
theorem WV(hf:ov cI=none)(hx:Deep PP fT ov M (n+1) x)(hb:S b=some (.row (lM s t) ty)){z:Int}(h0:0<=s.h/\s.h<=1000000)(h1:0<=z/\z<=1000000)(h2:0<s.n/\s.n<=1000000)(hk:K (.int .i64 (1+(s.h+z)%s.n)) S):x.call cI [.ptr b 0,.int .i64 z] S K:=by
 refine hx.call hf λy _=>?_;rw [KK];unfold xD gG gM;rw [aV,gW,gW];refine kN hb rfl ?_;rw [iM,wrap_small (by omega) (by omega),aV,gW,gW];refine kN hb rfl ?_;have hm:(s.h+z).tmod s.n=(s.h+z)%s.n:=Int.tmod_eq_emod_of_nonneg (by omega);have hp:=Int.emod_nonneg (s.h+z) (show s.n≠0 by omega);have hq:=Int.emod_lt_of_pos (s.h+z) h2.1;rw [Cz (by omega),hm,iM];have:lC .i64 (Int.ofNat 1+(s.h+z)%s.n)=1+(s.h+z)%s.n:=by rw [wrap_small]<;>(try simp)<;>omega
 rw [this];exact aF hk
theorem aO9(hf:ov dK=none)(hx:Deep PP fT ov M (n+1) x)(hb:S b=some (.row (lM s t) ty)){z:Int}(hk:K (.tuple []) (aM S b (.row (lM {s with st:=z,LY:=0} t) ty))):x.call dK [.ptr b 0,.int .i64 z] S K:=by
 refine hx.call hf λy _=>?_;rw [WR];unfold HW gM;rw [aV,gW,gW];refine nJ hb rfl (by simp [lM]) ?_;rw [aV,gW,gW];refine nJ aB rfl (by simp [lM,aE]) ?_;rw [cW];exact aF hk
theorem aKL(hf:ov jS=none)(Nn:ov dK=none)(hx:Deep PP fT ov M (n+2) x)(hb:S b=some (.row (lM s t) ty)){z:Int}(hk:K (.tuple []) (aM S b (.row (lM {s with st:=1,LY:=0,rd:=z,prop:=false,seen:=false} t) ty))):x.call jS [.ptr b 0,.int .i64 z] S K:=by
 refine hx.call hf λy hy=>?_;rw [OT];unfold BF gM;refine aO9 Nn hy hb ?_;rw [aV,gW,gW];refine nJ aB rfl (by simp [lM]) ?_;rw [cW,aV,gW,gW];refine nJ aB rfl (by simp [lM,aE]) ?_;rw [cW,aV,gW,gW];refine nJ aB rfl (by simp [lM,aE]) ?_;rw [cW];exact aF hk
variable{ov:Qj}{M n b t m:Nat}{x:VE}{S:Hp}{K:KV}{ty:TypeId}
theorem aK1{b:Bool}{k:V->Prop}:JC .not (.bool b) k=k (.bool (!b)):=rfl
theorem aF7{sh:KSh}{a y:V}{es:List (V×V)}(hm:S m=some (.map es))(ha:WA sh a)(ho:∀e∈es,WA sh e.1){k:Hp->Prop}(hk:k (aM S m (.map (Cv es a y)))):Cw sh (.sP m) a y S k:=by
 unfold Cw;simp only [hm];exact⟨ha,ho,hk⟩
def Vo.free(v:Vo)(l:List Vo):Bool:=(l.find? λu=>u.at v.rd v.fr v.kd).isNone
theorem Qv(hM:M≠0)(hf:ov iB=none)(Nn:ov gU=none)(hx:Deep PP fT ov M (n+2) x){z:Int}{l:List Vo}{v:Vo}(a:Tal S t m z l)(h1:(v.may z&&v.free l)=false->K (.bool false) S)(h2:(v.may z&&v.free l)=true->K (.bool true) (aM S m (.map ((l++[v]).map eV)))):x.call iB [.ptr t 0,.agg v.vv] S K:=by
 refine hx.call hf λy hy=>?_;rw [ZZ];unfold JR zE jK uM wF gQ gN gG gM;refine fR rfl λi hi=>?_;refine JD aEA ?_;simp only [aL,aI];have eU:cP S (aM S i (.row v.vv 94)):= .aN hi;have ri:aM S i (.row v.vv 94) i=some (.row v.vv 94):=aB;generalize hS1:aM S i (.row v.vv 94)=S1 at eU ri;have a1:=a.le eU;refine eX ri rfl ?_;rw [aV,gW];refine kN a1.row rfl ?_;refine aPo hM Nn hy ?_;rw [aK1,aX,if_neg (by simp),bG];cases NS:v.may z with
 | false=>
  rw [if_pos (by simp)];exact cL eU (h1 (by rw [NS];rfl))
 | true=>
  rw [if_neg (by simp),gW];refine kN ri rfl ?_;rw [gW];refine kN ri rfl ?_;rw [gW];refine kN ri rfl ?_;have hb:∀{k:V->Prop},k (.agg [.int .i64 v.rd,.int .i64 v.fr,.int .u8 (.ofNat v.kd)])->fX Mn [(0,1,.int .i64 v.rd),(1,1,.int .i64 v.fr),(2,1,(.int .u8 (.ofNat v.kd)))] k:=λh=>⟨rfl,by simp,rfl,by simp [aE],rfl,by simp [aE],h⟩;refine hb ?_;refine dQ (l:=[.int .i64 0,.int .i64 0,.int .u8 0]) rfl λj hj=>?_;refine gJ aB (by rfl) (by rfl) (by rfl) ?_;rw [cW];have lA:∀{cs:List V},cP S1 (aM S1 j (.row cs 158)):= .aN hj;have rj:aM S1 j (.row [.int .i64 v.rd,.int .i64 v.fr,.int .u8 (.ofNat v.kd)] 158) j=some (.row [.int .i64 v.rd,.int .i64 v.fr,.int .u8 (.ofNat v.kd)] 158):=aB;have lA:=lA (cs:=[.int .i64 v.rd,.int .i64 v.fr,.int .u8 (.ofNat v.kd)]);generalize aM S1 j (.row [.int .i64 v.rd,.int .i64 v.fr,.int .u8 (.ofNat v.kd)] 158)=S2 at lA rj;have a2:=a1.le lA;have Qz:=lA _ _ ri;rw [aV,gW];refine kN a2.row rfl ?_;refine eX rj rfl ?_
  have look:∀(K:KV),K (.tuple [.agg (((l.find? λu=>u.at v.rd v.fr v.kd).getD OM).vv),.bool (l.find? λu=>u.at v.rd v.fr v.kd).isSome]) S2->ZJ (.many [.int .i64,.int .i64,.int .u8]) (.agg [(.int .i64 (.ofNat 0)),(.int .i64 (.ofNat 0)),(.int .u8 (.ofNat 0)),(.int .i64 (.ofNat 0)),(.str [])]) true (.sP m) (.agg [.int .i64 v.rd,.int .i64 v.fr,.int .u8 (.ofNat v.kd)]) S2 K:=by
   intro K hk;refine aAv a2.map ⟨rfl,rfl,rfl,trivial⟩ (Wo l) (λw hw=>?_) (λhw=>?_)
   ·rw [Ij]at hw
    cases hq:l.find? (λu=>u.at v.rd v.fr v.kd)with
    | none=>rw [hq]at hw;cases hw
    | some u=>rw [hq]at hw hk;injection hw with hw;subst hw;exact hk
   ·rw [Ij]at hw
    cases hq:l.find? (λu=>u.at v.rd v.fr v.kd)with
    | some u=>rw [hq]at hw;cases hw
    | none=>rw [hq]at hk;exact hk
  refine look _ ?_;refine xM rfl ?_;refine xM rfl ?_;refine look _ ?_;refine AG rfl ?_;refine eX rj rfl ?_;refine AG rfl ?_;refine kN a2.row rfl ?_;refine AG rfl ?_;refine⟨dQ (l:=OM.vv) rfl λ_ _=>trivial,?_⟩;refine dQ (l:=OM.vv) rfl λk hk=>?_;refine gJ aB (by rfl) (by rfl) (by rfl) ?_;rw [cW];have GG:=cP.aN (a:= .row ((l.find? λu=>u.at v.rd v.fr v.kd).getD OM).vv 94) hk;generalize aM S2 k (.row ((l.find? λu=>u.at v.rd v.fr v.kd).getD OM).vv 94)=S3 at GG;have a3:=a2.le GG;rw [bG];cases hq:l.find? (λu=>u.at v.rd v.fr v.kd)with
  | some u=>
   rw [if_pos (by rfl)];exact cL ((eU.trans lA).trans GG) (h1 (by simp [Vo.free,hq]))
  | none=>
   rw [if_neg (by simp),aV,gW];refine kN a3.row rfl ?_;refine eX (GG _ _ rj) rfl ?_;refine eX (GG _ _ Qz) rfl ?_;refine aF7 a3.map (by exact⟨rfl,rfl,rfl,trivial⟩) (by exact Wo l) ?_;have hp:=aK0 l v hq;have hp:Cv (l.map eV) (.agg [.int .i64 v.rd,.int .i64 v.fr,.int .u8 (.ofNat v.kd)]) (.agg v.vv)=(l++[v]).map eV:=hp;rw [hp];exact cL (((eU.trans lA).trans GG).aM) (h2 (by simp [NS,Vo.free,hq]))
variable{ov:Qj}{M n b t m:Nat}{x:VE}{S:Hp}{K:KV}{ty:TypeId}
theorem aNf(hf:ov DF=none)(hx:Deep PP fT ov M (n+1) x){z:Int}(h1:¬(1<=z/\z<=7)->K (.tuple [.lU,.int .i64 1]) S)
 (h2:1<=z->z<=7->∀m t,S m=none->t≠m->S t=none->K (.tuple [.ptr t 0,.int .i64 0]) (aM (aM S m (.map [])) t (.row [.int .i64 z,.sP m] 160))):x.call DF [.int .i64 z] S K:=by
 refine hx.call hf λy hy=>?_;rw [aA7];unfold Gd jK wF gQ;rw [bO];simp only [aL];by_cases a:z<1
 ·simp only [show decide (z<Int.ofNat 1)=true from aU a,cZ,aX,if_true,bG]
  exact aF (h1 (by omega))
 simp only [show decide (z<Int.ofNat 1)=false from aR a,aI,jR,aX,if_false,bQ,bG];by_cases b:7<z
 ·rw [show decide (Int.ofNat 7<z)=true from aU b,if_pos rfl]
  exact aF (h1 (by omega))
 rw [show decide (Int.ofNat 7<z)=false from aR b,if_neg (by simp)];intro m hm;have hb:∀{k:V->Prop},k (.agg [.int .i64 z,.sP m])->fX [(.int .i64 (.ofNat 0)),(.map none)] [(0,1,.int .i64 z),(1,1,.sP m)] k:=λh=>⟨rfl,by simp,rfl,by simp [aE],h⟩;refine hb ?_;refine fR rfl λt ht=>?_;obtain⟨htm,ht0⟩:=AF ht;exact aF (h2 (by omega) (by omega) m t hm htm ht0)
variable{ov:Qj}{M n b t m:Nat}{x:VE}{S:Hp}{K:KV}{s:Bs}{ty:TypeId}
def Bs.pro(s:Bs)(r:Int):Int:=1+(s.h+r)%s.n
def Bs.takes(s:Bs)(l:List Vo)(v:Vo):Bool:= !(decide (v.kd=2)&&(decide (v.rd<0) || !decide (v.fr=s.pro v.rd)))&&(v.may s.n&&v.free l)
theorem aNb(hM:M≠0)(hf:ov eT=none)(hf1:ov cI=none)(Nn:ov iB=none)(hf3:ov gU=none)(hx:Deep PP fT ov M (n+3) x)(hb:S b=some (.row (lM s t) ty)){l:List Vo}{v:Vo}(a:Tal S t m s.n l)
 (hh:0<=s.h/\s.h<=1000000) (hn:0<s.n/\s.n<=1000000) (hr:v.rd<=1000000) (h1:s.takes l v=false->K (.bool false) S) (h2:s.takes l v=true->K (.bool true) (aM S m (.map ((l++[v]).map eV)))):x.call eT [.ptr b 0,.agg v.vv] S K:=by
 refine hx.call hf λy hy=>?_;rw [TK];unfold EU zE rW jK ST uM BD wF gCt gCf gQ gN;refine fR rfl λi hi=>?_;have eU:cP S (aM S i (.row v.vv 94)):= .aN hi;have ri:aM S i (.row v.vv 94) i=some (.row v.vv 94):=aB;have him:m≠i:=λe=>by have:=a.map;rw [e,hi]at this;cases this
 generalize hS1:aM S i (.row v.vv 94)=S1 at eU ri;have a1:=a.le eU;have Kc:=eU _ _ hb;have l0:LD i 0 S1 (.int .i64 v.fr):=aZ ri;have l1:LD i 1 S1 (.int .i64 v.rd):=aZ ri;have l2:LD i 2 S1 (.int .u8 (.ofNat v.kd)):=aZ ri;simp only [gW,gB,l2,cV,aL]
 have rest:(decide (v.kd=2)&&(decide (v.rd<0) || !decide (v.fr=s.pro v.rd)))=false->(jI PP (.ptr b 0) λv30=>bF 15 v30 λv31=>bJ v31 S1 λv32 S=>cU 5 (.ptr i 0) S λv33 S=>y.call iB [v32,v33] S λIG S=>aQ IG S K):=by
  intro hc;rw [aV,gW];refine kN Kc rfl ?_;refine eX ri (by rfl) ?_;refine Qv hM Nn hf3 hy a1 (λe=>?_) (λe=>?_)
  ·exact cL eU (h1 (by unfold Bs.takes;rw [hc,e];rfl))
  ·exact cL eU.aM (h2 (by unfold Bs.takes;rw [hc,e];rfl))
 have stop:(decide (v.kd=2)&&(decide (v.rd<0) || !decide (v.fr=s.pro v.rd)))=true->aQ (.bool false) S1 K:=λe=>cL eU (h1 (by unfold Bs.takes;rw [e];rfl));by_cases k2:v.kd=2
 ·simp only [show decide (Int.ofNat v.kd=Int.ofNat 2)=true from aU (by rw [k2]),aI,l1,bO]
  by_cases k3:v.rd<0
  ·simp only [show decide (v.rd<Int.ofNat 0)=true from aU k3,cZ,CA,tL,l1,l2,aX,if_true,bG]
   refine AG rfl (AG rfl ?_);exact stop (by simp [k2,k3])
  ·simp only [show decide (v.rd<Int.ofNat 0)=false from aR k3,aI,l0,l1]
   refine WV hf1 hy.less Kc hh ⟨by omega,hr⟩ hn ?_;simp only [tL,l0,l1,l2,gD,aX,if_true,if_false,bQ,bG];refine AG rfl (AG rfl (AG rfl ?_));by_cases k4:v.fr=s.pro v.rd
   ·have:decide (v.fr=1+(s.h+v.rd)%s.n)=true:=aU k4
    rw [this,if_neg (by simp)];exact rest (by simp [k3,k4])
   ·have:decide (v.fr=1+(s.h+v.rd)%s.n)=false:=aR k4
    rw [this,if_pos (by simp)];exact stop (by simp [k2,k4])
 ·simp only [show decide (Int.ofNat v.kd=Int.ofNat 2)=false from aR (λe=>k2 (UW e)),qC,oZ,yF,Da,l2,aX,if_false,bQ,bG]
  refine AG rfl ?_;exact rest (by simp [k2])
variable{ov:Qj}{M n:Nat}{x:VE}{S:Hp}{K:KV}
theorem cK{o:Nat}{v:V}{ps:List (Nat×Nat×V)}{cs:List V}{k:List V->Prop}(ho:pN v=true)(hl:o+1<=cs.length)(hk:vD ps (cs.set o v) k):vD ((o,1,v)::ps) cs k:=by
 have e:aE o [v] cs=cs.set o v:=by
  rw [aGq,if_pos (by omega)];simp [aE]
 rw [<-e]at hk;unfold vD;unfold yD;cases v<;>first | (cases ho;done) | exact⟨rfl,hl,hk⟩
theorem aFX{n:Nat}{new:List V}{ps:List (Nat×Nat×V)}{cs:List V}{k:List V->Prop}(ho:new.all pN=true)(hn:new.length=n)(hl:n<=cs.length)(hk:vD ps (new++cs.drop n) k):vD ((0,n,.agg new)::ps) cs k:=by
 refine⟨ho,hn,by omega,?_⟩;have e:aE 0 new cs=new++cs.drop n:=by simp [aE,hn]
 rw [e];exact hk
theorem CI{cs:List V}{k:List V->Prop}(hk:k cs):vD [] cs k:=hk
theorem qD{zero:List Value}{z:List V}{ps:List (Nat×Nat×V)}{K:V->Prop}(hz:ED zero=some z)(h:vD ps z λcs=>K (.agg cs)):fX zero ps K:=by
 unfold fX AD;rw [hz];exact h
def Bs.start(h n t me:Int):Bs:=⟨h,n,t,me,0,1,0,[],[],-1,-1,false,false,[]⟩
def bOk(h n t me:Int):Prop:=(1<=n/\n<=7)/\(1<=h/\h<=64)/\(0<=t/\t<=n)/\3*t+1<=n/\0<=me/\me<=n
theorem aIJ(hf:ov AK=none)(Nn:ov DF=none)(hx:Deep PP fT ov M (n+2) x){h z q me:Int}(h1:¬bOk h z q me->K (.tuple [.lU,.int .i64 1]) S)
 (h2:bOk h z q me->∀m t b,S m=none->t≠m->S t=none->b≠t->b≠m->S b=none->K (.tuple [.ptr b 0,.int .i64 0]) (aM (aM (aM S m (.map [])) t (.row [.int .i64 z,.sP m] 160)) b (.row (lM (.start h z q me) t) 124))):x.call AK [.int .i64 h,.int .i64 z,.int .i64 q,.int .i64 me] S K:=by
 refine hx.call hf λy hy=>?_;rw [Vw];unfold ZY jK wF gQ;refine aNf Nn hy (λe=>?_) (λe1 e2 m t hm ht ht0=>?_)
 ·refine xM rfl (xM rfl ?_)
  simp only [gD,aL,show(!decide ((1:Int)=Int.ofNat 0))=true from rfl,cZ,aX,if_true,bG];exact aF (h1 λo=>e o.1)
 ·refine xM rfl (xM rfl ?_)
  have eU:cP S (aM (aM S m (.map [])) t (.row [.int .i64 z,.sP m] 160)):=(cP.aN hm).trans (.aN (by rw [aC ht];exact ht0));generalize hS1:aM (aM S m (.map [])) t (.row [.int .i64 z,.sP m] 160)=S1 at eU;have bad:¬bOk h z q me->aQ (.tuple [.lU,(.int .i64 (.ofNat 1))]) S1 K:=λe=>cL eU (h1 e);simp only [gD,aL,show(!decide ((0:Int)=Int.ofNat 0))=false from rfl,aI,bO,aX,bQ,if_false];by_cases c1:h<1
  ·simp only [show decide (h<Int.ofNat 1)=true from aU c1,cZ,aX,if_true,bG]
   exact bad λo=>by have:=o.2.1;omega
  simp only [show decide (h<Int.ofNat 1)=false from aR c1,aI,jR,aX,bQ,if_false];by_cases c2:64<h
  ·simp only [show decide (Int.ofNat 64<h)=true from aU c2,cZ,aX,if_true,bG]
   exact bad λo=>by have:=o.2.1;omega
  simp only [show decide (Int.ofNat 64<h)=false from aR c2,aI,bO,aX,bQ,if_false];by_cases c3:q<0
  ·simp only [show decide (q<Int.ofNat 0)=true from aU c3,cZ,aX,if_true,bG]
   exact bad λo=>by have:=o.2.2.1;omega
  simp only [show decide (q<Int.ofNat 0)=false from aR c3,aI,jR,aX,bQ,if_false];by_cases c4:z<q
  ·simp only [aU c4,cZ,aX,if_true,bG]
   exact bad λo=>by have:=o.2.2.1;omega
  have w1:lC .i64 (Int.ofNat 3*q)=3*q:=by rw [wrap_small]<;>simp<;>omega
  have w2:lC .i64 (3*q+Int.ofNat 1)=3*q+1:=by rw [wrap_small]<;>simp<;>omega
  simp only [aR c4,aI,Qk,w1,iM,w2,bO,aX,bQ,if_false];by_cases c5:z<3*q+1
  ·simp only [aU c5,cZ,aX,if_true,bG]
   exact bad λo=>by have:=o.2.2.2.1;omega
  simp only [aR c5,aI,bO,aX,bQ,if_false];by_cases c6:me<0
  ·simp only [show decide (me<Int.ofNat 0)=true from aU c6,cZ,if_true,bG]
   exact bad λo=>by have:=o.2.2.2.2;omega
  simp only [show decide (me<Int.ofNat 0)=false from aR c6,aI,jR,bQ,if_false];by_cases c7:z<me
  ·simp only [aU c7,bG,if_true]
   exact bad λo=>by have:=o.2.2.2.2;omega
  simp only [aR c7,bG,bQ,if_false];refine qD (by rfl) ?_;refine cK rfl (by simp) (cK rfl (by simp) (cK rfl (by simp) (cK rfl (by simp) (cK rfl (by simp) (cK rfl (by simp) (cK rfl (by simp) (CI ?_)))))));refine qD (by rfl) ?_;refine aFX (by rfl) (by rfl) (by simp) (cK rfl (by simp) (CI ?_));refine fR (cs:=lM (.start h z q me) t) rfl λb hb=>?_;rw [<-hS1]at hb ⊢;obtain⟨hbt,hb⟩:=AF hb;obtain⟨hbm,hb⟩:=AF hb;exact aF (h2 ⟨⟨e1,e2⟩,⟨by omega,by omega⟩,⟨by omega,by omega⟩,by omega,by omega,by omega⟩ m t b hm ht ht0 hbt hbm hb)
end Go.Am
